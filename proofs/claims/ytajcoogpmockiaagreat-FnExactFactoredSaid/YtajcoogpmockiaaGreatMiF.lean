/- A part of the proof of the law that the last of these texts states, for every input; no conditions. -/
import Derived.Test.YtajcoogpmockiaaGreatMiE
set_option linter.unusedVariables false
set_option linter.unusedSimpArgs false
set_option maxRecDepth 100000
namespace Go.Proofs.YtajcoogpmockiaaGreat
namespace AM
open Go Go.ChangeShapes Go.WideShapes Go.RowKit
open Go.Proofs.Tryz renaming prog → pg
def TgP {α : Type} (da : α → List Da) (z : List Da × α) : Prop := z.1.map Da.u1 = da z.2
theorem a1uq {α : Type} {da : α → List Da} : ∀ {xs' : List (List Da)} {ls : List α}, xs'.map (List.map Da.u1) = ls.map da → ∃ zs : List (List Da × α), zs.map (·.1) = xs' ∧ zs.map (·.2) = ls ∧ ∀ z ∈ zs, TgP da z
 | [], [], _ => ⟨[], rfl, rfl, by simp⟩
 | [], y :: s, h => by simp at h
 | x :: r, [], h => by simp at h
 | x :: r, y :: s, h => by
  simp only [List.map_cons, List.cons.injEq] at h
  obtain ⟨zs, h1, h2, h3⟩ := a1uq h.2
  refine ⟨(x, y) :: zs, by simp [h1], by simp [h2], fun z hz => ?_⟩
  rcases List.mem_cons.1 hz with rfl | hz
  ·exact h.1
  ·exact h3 z hz
theorem a1Oq {α : Type} {da : α → List Da} : ∀ {zs : List (List Da × α)}, (∀ z ∈ zs, TgP da z) → (zs.map (·.1)).map (List.map Da.u1) = (zs.map (·.2)).map da
 | [], _ => rfl
 | z :: r, h => by
  simp only [List.map_cons]
  rw [a1Oq fun x hx => h x (by simp [hx]), h z (by simp)]
theorem aghq {y : Da} {b : Bool} (h : y.u1 = .bool b) : y = .bool b := by cases y <;> simp [Da.u1] at h ⊢; exact h
theorem a0Vq {y : Da} {k : IntKind} {n : Int} (h : y.u1 = .int k n) : y = .int k n := by cases y <;> simp [Da.u1] at h ⊢; exact h
theorem ah8q (y : Da) : y.u1.ut = y.ut := by cases y <;> simp [Da.u1, Da.ut]
theorem agVq (r : List Da) : Da.utL (r.map Da.u1) = Da.utL r := by
 rw [a0Tq, a0Tq, List.map_map]
 exact List.map_congr_left fun y _ => ah8q y
mutual
theorem Tm.ut_da : ∀ t : Tm, Da.utL t.da = t.da
 | .mk f v ks => by
  have h := Tm.ut_das ks
  simp [Tm.da, Da.utL, Da.ut, h]
theorem Tm.ut_das : ∀ l : List Tm, Da.utR (Tm.das l) = Tm.das l
 | [] => rfl
 | t :: r => by
  have h1 := Tm.ut_da t
  have h2 := Tm.ut_das r
  simp [Tm.das, Da.utR, h1, h2]
end
theorem afWq (a b : List Da) : Da.utL (a ++ b) = Da.utL a ++ Da.utL b := by simp [a0Tq]
theorem Li.ut_da (x : Li) : Da.utL x.da = x.da := by
 obtain ⟨p, l, r⟩ := x
 show Da.utL (.bool p :: (l.da ++ r.da)) = _
 rw [Da.utL, afWq, l.ut_da, r.ut_da]; rfl
theorem TgP.ut {α : Type} {da : α → List Da} (hd : ∀ x, Da.utL (da x) = da x) {z : List Da × α} (h : TgP da z) : Da.utL z.1 = da z.2 := by
 rw [← agVq, h, hd]
theorem TgP.lit {z : List Da × Li} (h : TgP Li.da z) : ∃ b n1 n2 d n3 n4 d1, z.1 = [.bool b, .int .i64 n1, .int .i64 n2, d, .int .i64 n3, .int .i64 n4, d1] := by
 obtain ⟨row, ⟨p, ⟨f, v, ks⟩, ⟨g, u, ms⟩⟩⟩ := z
 have h : row.map Da.u1 = [.bool p, .int .i64 f, .int .i64 v, .sl (Tm.das ks), .int .i64 g, .int .i64 u, .sl (Tm.das ms)] := h
 obtain ⟨y1, r1, rfl, h1, h⟩ := List.map_eq_cons_iff.1 h
 obtain ⟨y2, r2, rfl, h2, h⟩ := List.map_eq_cons_iff.1 h
 obtain ⟨y3, r3, rfl, h3, h⟩ := List.map_eq_cons_iff.1 h
 obtain ⟨y4, r4, rfl, h4, h⟩ := List.map_eq_cons_iff.1 h
 obtain ⟨y5, r5, rfl, h5, h⟩ := List.map_eq_cons_iff.1 h
 obtain ⟨y6, r6, rfl, h6, h⟩ := List.map_eq_cons_iff.1 h
 obtain ⟨y7, r7, rfl, h7, h⟩ := List.map_eq_cons_iff.1 h
 rw [List.map_eq_nil_iff.1 h]
 exact ⟨p, f, v, y4, g, u, y7, by rw [aghq h1, a0Vq h2, a0Vq h3, a0Vq h5, a0Vq h6]⟩
theorem TgP.term {z : List Da × Tm} (h : TgP Tm.da z) : ∃ n1 n2 d, z.1 = [.int .i64 n1, .int .i64 n2, d] := by
 obtain ⟨row, ⟨f, v, ks⟩⟩ := z
 have h : row.map Da.u1 = [.int .i64 f, .int .i64 v, .sl (Tm.das ks)] := h
 obtain ⟨y1, r1, rfl, h1, h⟩ := List.map_eq_cons_iff.1 h
 obtain ⟨y2, r2, rfl, h2, h⟩ := List.map_eq_cons_iff.1 h
 obtain ⟨y3, r3, rfl, h3, h⟩ := List.map_eq_cons_iff.1 h
 rw [List.map_eq_nil_iff.1 h]
 exact ⟨f, v, y3, by rw [a0Vq h1, a0Vq h2]⟩
structure SWO {β : Type} (lt : β → β → Prop) : Prop where
 asym : ∀ {a b}, lt a b → ¬ lt b a
 ntr : ∀ {a b c}, ¬ lt b a → ¬ lt c b → ¬ lt c a
abbrev Sd {β : Type} (lt : β → β → Prop) (l : List β) : Prop := l.Pairwise (fun a b => ¬ lt b a)
section
variable {β : Type} {lt : β → β → Prop}
theorem s6q {L R : List β} : Sd lt (L ++ R) ↔ Sd lt L ∧ Sd lt R ∧ ∀ a ∈ L, ∀ b ∈ R, ¬ lt b a := List.pairwise_append
theorem R0q (h : SWO lt) {L R : List β} {x : β} (hs : Sd lt (L ++ R)) (hR : ∀ y ∈ R, ¬ lt y x) (hL : ∀ y ∈ L, ¬ lt x y) : Sd lt (L ++ x :: R) := by
 obtain ⟨h1, h2, h3⟩ := s6q.1 hs
 refine s6q.2 ⟨h1, List.pairwise_cons.2 ⟨hR, h2⟩, fun a ha b hb => ?_⟩
 rcases List.mem_cons.1 hb with rfl | hb
 ·exact hL a ha
 ·exact h3 a ha b hb
theorem a6Tq (h : SWO lt) {L : List β} {z x : β} (hs : Sd lt (L ++ [z])) (hz : ¬ lt x z) : ∀ y ∈ L ++ [z], ¬ lt x y := by
 intro y hy
 rcases List.mem_append.1 hy with hy | hy
 ·exact h.ntr ((s6q.1 hs).2.2 y hy z (by simp)) hz
 ·rw [List.mem_singleton.1 hy]; exact hz
theorem a0jq (h : SWO lt) {R : List β} {x : β} (hs : Sd lt R) (hl : R = [] ∨ ∃ y, R[R.length - 1]? = some y ∧ lt y x) : ∀ y ∈ R, lt y x := by
 rcases hl with rfl | ⟨y, hy, hlt⟩
 ·simp
 ·intro w hw
  rcases List.eq_nil_or_concat R with rfl | ⟨R', z, rfl⟩
  ·simp at hw
  ·rw [List.concat_eq_append] at hs hy hw
   have : z = y := by simpa using hy
   subst this
   rcases List.mem_append.1 hw with hw | hw
   ·have h1 := (s6q.1 hs).2.2 w hw z (by simp)
    exact Classical.byContradiction fun hn => h.ntr hn h1 hlt
   ·rw [List.mem_singleton.1 hw]; exact hlt
theorem a07q (h : SWO lt) {R : List β} {x : β} (hs : Sd lt R) (hl : R = [] ∨ ∃ y, R[R.length - 1]? = some y ∧ ¬ lt x y) : ∀ y ∈ R, ¬ lt x y := by
 rcases hl with rfl | ⟨y, hy, hlt⟩
 ·simp
 ·intro w hw
  rcases List.eq_nil_or_concat R with rfl | ⟨R', z, rfl⟩
  ·simp at hw
  ·rw [List.concat_eq_append] at hs hy hw
   have : z = y := by simpa using hy
   subst this
   exact a6Tq h hs hlt w hw
theorem a7rq (h : SWO lt) {R : List β} {x : β} (hs : Sd lt R) (hl : R = [] ∨ ∃ y, R[0]? = some y ∧ lt x y) : ∀ y ∈ R, lt x y := by
 rcases hl with rfl | ⟨y, hy, hlt⟩
 ·simp
 ·intro w hw
  cases R with
  | nil => simp at hw
  | cons z R' =>
   have : z = y := by simpa using hy
   subst this
   rcases List.mem_cons.1 hw with rfl | hw
   ·exact hlt
   ·have h1 := (List.pairwise_cons.1 hs).1 w hw
    exact Classical.byContradiction fun hn => h.ntr h1 hn hlt
theorem H0q (h : SWO lt) {R : List β} {x : β} (hs : Sd lt R) (hl : R = [] ∨ ∃ y, R[0]? = some y ∧ ¬ lt y x) : ∀ y ∈ R, ¬ lt y x := by
 rcases hl with rfl | ⟨y, hy, hlt⟩
 ·simp
 ·intro w hw
  cases R with
  | nil => simp at hw
  | cons z R' =>
   have : z = y := by simpa using hy
   subst this
   rcases List.mem_cons.1 hw with rfl | hw
   ·exact hlt
   ·exact h.ntr hlt ((List.pairwise_cons.1 hs).1 w hw)
end
theorem X0q {ι : Type} {p : ι → Nat → Nat → Prop} {ex : ι → Nat → Prop} (f : Nat → Prop) (lo hi : Nat) (hx : ∀ t i, lo ≤ i → i ≤ hi → ex t i → p t i i)
  (hs : ∀ t i j, lo ≤ i → i < j → j ≤ hi → (f ((i + j) / 2) → p t ((i + j) / 2 + 1) j → p t i j) ∧ (¬ f ((i + j) / 2) → p t i ((i + j) / 2) → p t i j)) : ∀ (n i j : Nat), j - i ≤ n → lo ≤ i → i ≤ j → j ≤ hi → (i = lo ∨ f (i - 1)) → (j = hi ∨ ¬ f j) → ∃ k, i ≤ k ∧ k ≤ j ∧ (k = lo ∨ f (k - 1)) ∧ (k = hi ∨ ¬ f k) ∧ ∀ t, ex t k → p t i j := by
 intro n
 induction n with
 | zero =>
  intro i j hn h1 h2 h3 hi' hj'
  have : j = i := by omega
  subst this
  exact ⟨j, Nat.le_refl _, Nat.le_refl _, hi', hj', fun t => hx t j h1 h3⟩
 | succ n ih =>
  intro i j hn h1 h2 h3 hi' hj'
  by_cases hij : i = j
  ·subst hij
   exact ⟨i, Nat.le_refl _, Nat.le_refl _, hi', hj', fun t => hx t i h1 h3⟩
  ·have hlt : i < j := by omega
   by_cases hf : f ((i + j) / 2)
   ·obtain ⟨k, k1, k2, k3, k4, k5⟩ := ih ((i + j) / 2 + 1) j (by omega) (by omega) (by omega) h3 (.inr (by simpa using hf)) hj'
    exact ⟨k, by omega, k2, k3, k4, fun t h => (hs t i j h1 hlt h3).1 hf (k5 t h)⟩
   ·obtain ⟨k, k1, k2, k3, k4, k5⟩ := ih i ((i + j) / 2) (by omega) h1 (by omega) (by omega) hi' (.inr hf)
    exact ⟨k, k1, by omega, k3, k4, fun t h => (hs t i j h1 hlt h3).2 hf (k5 t h)⟩
theorem x3q {β γ : Type} (g : β → γ) {P R Q : List β} {k : Nat} {y : β} (h : R[k]? = some y) : ((P ++ R ++ Q).map g)[P.length + k]? = some (g y) := by
 have hk : k < R.length := (List.getElem?_eq_some_iff.1 h).1
 rw [List.getElem?_map, List.append_assoc, List.getElem?_append_right (by omega), Nat.add_sub_cancel_left, List.getElem?_append_left hk, h]
 rfl
theorem midw {i j : Nat} (h : i + j ≤ 281474976710656) : IntKind.wrap .i64 (IntKind.wrap .u64 (IntKind.wrap .i64 ((i : Int) + (j : Int))) / 2 ^ Int.toNat 1) = (((i + j) / 2 : Nat) : Int) := by
 rw [wrI (x := (i : Int) + (j : Int)) (by omega) (by omega)]
 have h1 : IntKind.wrap .u64 ((i : Int) + (j : Int)) = (i : Int) + (j : Int) := by
  unfold IntKind.wrap
  simp only [IntKind.bits, IntKind.signed]
  first
  | (simp; omega)
  | omega
 rw [h1]
 have h2 : (2 : Int) ^ Int.toNat 1 = 2 := rfl
 rw [h2, wrI (by omega) (by omega)]
 omega
section
variable {β γ : Type} (g : β → γ)
theorem a0Wq {P M Q : List β} {a b : β} : (((P ++ a :: M ++ b :: Q).map g).set P.length (g b)).set (P.length + 1 + M.length) (g a) = (P ++ b :: M ++ a :: Q).map g := by
 simp only [List.map_append, List.map_cons, List.append_assoc, List.cons_append]
 rw [List.set_append_right _ _ (by simp)]
 simp only [List.length_map, Nat.sub_self, List.set_cons_zero]
 rw [List.set_append_right _ _ (by simp; omega)]
 have e : P.length + 1 + M.length - (P.map g).length = M.length + 1 := by simp; omega
 rw [e, List.set_cons_succ, List.set_append_right _ _ (by simp)]
 simp
theorem a36q {P M Q : List β} {a b : β} : (((P ++ a :: M ++ b :: Q).map g).set (P.length + 1 + M.length) (g a)).set P.length (g b) = (P ++ b :: M ++ a :: Q).map g := by
 rw [List.set_comm _ _ (by omega)]
 exact a0Wq g
theorem Q5q {P M Q : List β} {a b : β} : ((P ++ a :: M ++ b :: Q).map g)[P.length]? = some (g a) := by
 rw [List.append_assoc]; simp
theorem P8q {P M Q : List β} {a b : β} : ((P ++ a :: M ++ b :: Q).map g)[P.length + 1 + M.length]? = some (g b) := by
 have : P.length + 1 + M.length = (P ++ a :: M).length := by simp; omega
 rw [this]; simp
end
theorem z9q {β γ : Type} (g : β → γ) (P M Q : List β) (a b : β) : ((P ++ a :: M ++ b :: Q).map g).length = P.length + M.length + Q.length + 2 := by simp; omega
theorem F3q : (0 : Int) ≤ 1 ∧ (1 : Int) ≤ ((IntKind.bits IntKind.u64 : Nat) : Int) := by decide
def e6q (a b : List Da × Tm) : Prop := Tm.cmp a.2 b.2 < 0
instance (a b : List Da × Tm) : Decidable (e6q a b) := inferInstanceAs (Decidable (_ < _))
theorem a3hq {z w : List Da × Tm} (hz : TgP Tm.da z) (hw : TgP Tm.da w) : XC pg 143 [.dat z.1, .dat w.1] [] (Z (Tm.cmp z.2 w.2)) [] := XC.ut (by
 show XC _ _ [.dat (Da.utL z.1), .dat (Da.utL w.1)] _ _ _
 rw [hz.ut Tm.ut_da, hw.ut Tm.ut_da]; exact J1q _ _)
theorem Z3q (A Y C : List (List Da × Tm)) : ∀ (X2 Z2 Z1 X1 : List (List Da × Tm)), (∀ z ∈ A ++ Z1 ++ X2 ++ Y ++ X1 ++ Z2 ++ C, TgP Tm.da z) → X2.length = Z2.length → X1.length = Z1.length → (A ++ Z1 ++ X2 ++ Y ++ X1 ++ Z2 ++ C).length ≤ 3000000000000 →
  f4q (.tup []) [(2000, .lst 30 3 ((A ++ Z1 ++ Z2 ++ Y ++ X1 ++ X2 ++ C).map (·.1)))] (A.length : Int) ((A ++ Z1 ++ X2 ++ Y).length : Int) ((Z1 ++ X2).length : Int) (Z1.length : Int) ((A ++ Z1 ++ X2 ++ Y ++ X1 ++ Z2 ++ C).map (·.1))
 | [], Z2, Z1, X1, ht, h1, h2, hl => by
  have : Z2 = [] := List.eq_nil_of_length_eq_zero h1.symm
  subst this
  apply m3q
  exact a2q (decide_eq_false (by simp)) ⟨rfl, by simp⟩
 | x :: X2, [], Z1, X1, ht, h1, h2, hl => by simp at h1
 | x :: X2, z :: Z2, Z1, X1, ht, h1, h2, hl => by
  have hl' : A.length + Z1.length + X2.length + Y.length + X1.length + Z2.length + C.length + 2 ≤ 3000000000000 := by simp at hl; omega
  have ih := Z3q A Y C X2 Z2 (Z1 ++ [z]) (X1 ++ [x]) (fun w hw => ht w (by simp at hw ⊢; grind)) (by simpa using h1) (by simp [h2]) (by simp; omega)
  obtain ⟨_, _, _, ex⟩ := (ht x (by simp)).term
  obtain ⟨_, _, _, ez⟩ := (ht z (by simp)).term
  have eD : A ++ Z1 ++ x :: X2 ++ Y ++ X1 ++ z :: Z2 ++ C = (A ++ Z1) ++ x :: (X2 ++ Y ++ X1) ++ z :: (Z2 ++ C) := by simp
  have eD2 : (A ++ Z1) ++ z :: (X2 ++ Y ++ X1) ++ x :: (Z2 ++ C) = A ++ (Z1 ++ [z]) ++ X2 ++ Y ++ (X1 ++ [x]) ++ Z2 ++ C := by simp
  have eR : A ++ (Z1 ++ [z]) ++ Z2 ++ Y ++ (X1 ++ [x]) ++ X2 ++ C = A ++ Z1 ++ z :: Z2 ++ Y ++ X1 ++ x :: X2 ++ C := by simp
  have en : ((Z1 ++ [z]) ++ X2).length = (Z1 ++ x :: X2).length := by simp
  have eb : (A ++ (Z1 ++ [z]) ++ X2 ++ Y).length = (A ++ Z1 ++ x :: X2 ++ Y).length := by simp
  have ei : (Z1 ++ [z]).length = Z1.length + 1 := by simp
  have w1 : IntKind.wrap .i64 (((A ++ Z1 ++ x :: X2 ++ Y).length : Int) + (Z1.length : Int)) = (((A ++ Z1).length + 1 + (X2 ++ Y ++ X1).length : Nat) : Int) := by
   rw [wrI (by omega) (by simp; omega)]; simp; omega
  have w2 : IntKind.wrap .i64 ((A.length : Int) + (Z1.length : Int)) = (((A ++ Z1).length : Nat) : Int) := by
   rw [wrI (by omega) (by omega)]; simp
  have w3 : IntKind.wrap .i64 ((Z1.length : Int) + 1) = ((Z1.length + 1 : Nat) : Int) := by
   rw [wrI (by omega) (by omega)]; simp
  rw [en, eb, ei, ← eD2, eR, ← a0Wq] at ih
  rw [eD]
  have g1 := P8q (fun z : List Da × Tm => z.1) (P := A ++ Z1) (M := X2 ++ Y ++ X1) (Q := Z2 ++ C) (a := x) (b := z)
  have g2 := Q5q (fun z : List Da × Tm => z.1) (P := A ++ Z1) (M := X2 ++ Y ++ X1) (Q := Z2 ++ C) (a := x) (b := z)
  have l1 := z9q (fun z : List Da × Tm => z.1) (A ++ Z1) (X2 ++ Y ++ X1) (Z2 ++ C) x z
  have g3 : ((((A ++ Z1) ++ x :: (X2 ++ Y ++ X1) ++ z :: (Z2 ++ C)).map (·.1)).set (A ++ Z1).length z.1)[(A ++ Z1).length + 1 + (X2 ++ Y ++ X1).length]? = some z.1 := by
   rw [List.getElem?_set_ne (by omega)]; exact g1
  rw [ex] at g2 ih
  rw [ez] at g1 g3 ih
  apply m3q
  rw [w1, w2, w3]
  refine a6q (decide_eq_true (by simp; omega)) ⟨_, rfl, ⟨by rw [l1]; omega⟩, _, rfl, _, _, _, g1, _, rfl, ⟨by rw [l1]; omega⟩, _, rfl, _, _, _, g2, _, rfl, ⟨by rw [l1]; omega⟩, _, rfl, _, _, _, g2, _, rfl, ⟨by rw [List.length_set, l1]; omega⟩, _, rfl, _, _, _, g3, ih⟩
theorem G2q (A U Y V C : List (List Da × Tm)) (ht : ∀ z ∈ A ++ U ++ Y ++ V ++ C, TgP Tm.da z) (h : U.length = V.length) (hl : (A ++ U ++ Y ++ V ++ C).length ≤ 3000000000000) : XC pg 272 [.one (.ol 2000), Z (A.length : Int), Z ((A ++ U ++ Y).length : Int), Z (U.length : Int), .one (.d (.fn 143))] [(2000, .lst 30 3 ((A ++ U ++ Y ++ V ++ C).map (·.1)))] (.tup []) [(2000, .lst 30 3 ((A ++ V ++ Y ++ U ++ C).map (·.1)))] := by
 apply x4q
 have := Z3q A Y C U V [] [] (by simpa using ht) h rfl (by simpa using hl)
 simpa using this
theorem a7Hq (T : List (List Da × Tm)) : ∀ (n : Nat) (A U V C : List (List Da × Tm)), U.length + V.length ≤ n → U ≠ [] → V ≠ [] → (∀ z ∈ A ++ U ++ V ++ C, TgP Tm.da z) → (A ++ U ++ V ++ C).length ≤ 3000000000000 → A ++ V ++ U ++ C = T → e4q (.tup []) [(2000, .lst 30 3 ((T).map (·.1)))] ((A ++ U).length : Int) (U.length : Int) (V.length : Int) ((A ++ U ++ V ++ C).map (·.1)) := by
 intro n
 induction n with
 | zero =>
  intro A U V C hn hU _ _ _ _
  exact absurd (List.eq_nil_of_length_eq_zero (by omega)) hU
 | succ n ih =>
  intro A U V C hn hU hV ht hl hT
  have hU' := List.length_pos_iff.2 hU
  have hV' := List.length_pos_iff.2 hV
  have hl' : A.length + U.length + V.length + C.length ≤ 3000000000000 := by simp at hl; omega
  have w1 : IntKind.wrap .i64 (((A ++ U).length : Int) - (U.length : Int)) = (A.length : Int) := by rw [wrI (by simp <;> omega) (by simp <;> omega)]; simp <;> omega
  apply x5q
  rw [w1]
  by_cases he : U.length = V.length
  ·have c := G2q A U [] V C (by simpa using ht) he (by simpa using hl)
   simp only [List.append_nil] at c
   rw [hT] at c
   exact a2q (decide_eq_false (by simp [he])) ⟨_, c, rfl, rfl⟩
  ·refine a6q (decide_eq_true (by omega)) ?_
   by_cases hgt : V.length < U.length
   ·refine a6q (decide_eq_true (by omega)) ?_
    obtain ⟨U1, U2, rfl, hU1⟩ : ∃ U1 U2, U = U1 ++ U2 ∧ U1.length = V.length := ⟨U.take V.length, U.drop V.length, by simp, by simp; omega⟩
    have c := G2q A U1 U2 V C (by simpa using ht) hU1 (by simpa using hl)
    have h2 : U2.length + V.length = (U1 ++ U2).length := by simp; omega
    have w2 : IntKind.wrap .i64 (((U1 ++ U2).length : Int) - (V.length : Int)) = (U2.length : Int) := by rw [wrI (by simp <;> omega) (by simp <;> omega)]; simp <;> omega
    have i1 := ih (A ++ V) U2 U1 C (by simp at hn; omega) (by intro h; subst h; simp at hgt hU1; omega) (by intro h; subst h; simp at hU1; omega) (fun w hw => ht w (by simp at hw ⊢; grind)) (by simp; omega) (by simpa [List.append_assoc] using hT)
    have e1 : A ++ (U1 ++ U2) ++ V ++ C = A ++ U1 ++ U2 ++ V ++ C := by simp
    have e2 : (A ++ V ++ U2).length = (A ++ (U1 ++ U2)).length := by simp; omega
    have e3 : (A ++ (U1 ++ U2)).length = (A ++ U1 ++ U2).length := by simp
    rw [w2, e1]
    rw [e2] at i1
    rw [e3] at i1 ⊢
    rw [hU1] at i1 c
    exact ⟨_, c, i1⟩
   ·refine a2q (decide_eq_false (by omega)) ?_
    obtain ⟨V1, V2, rfl, hV2⟩ : ∃ V1 V2, V = V1 ++ V2 ∧ V2.length = U.length := ⟨V.take (V.length - U.length), V.drop (V.length - U.length), by simp, by simp; omega⟩
    have hvl : (V1 ++ V2).length = V1.length + V2.length := by simp
    have c := G2q A U V1 V2 C (by simpa using ht) hV2.symm (by simpa using hl)
    have w2 : IntKind.wrap .i64 (IntKind.wrap .i64 (((A ++ U).length : Int) + ((V1 ++ V2).length : Int)) - (U.length : Int)) = ((A ++ U ++ V1).length : Int) := by
     rw [wrI (x := ((A ++ U).length : Int) + _) (by omega) (by simp at hl' ⊢; omega), wrI (by simp; omega) (by simp at hl' ⊢; omega)]; simp; omega
    have w3 : IntKind.wrap .i64 (((V1 ++ V2).length : Int) - (U.length : Int)) = (V1.length : Int) := by rw [wrI (by simp; omega) (by simp at hl' ⊢; omega)]; simp; omega
    have i1 := ih A V2 V1 (U ++ C) (by omega) (by intro h; subst h; simp at hV2; omega) (by intro h; subst h; simp at he hgt hvl; omega) (fun w hw => ht w (by simp at hw ⊢; grind)) (by simp at hl' ⊢; omega) (by simpa [List.append_assoc] using hT)
    have e1 : A ++ U ++ (V1 ++ V2) ++ C = A ++ U ++ V1 ++ V2 ++ C := by simp
    have e2 : (A ++ V2).length = (A ++ U).length := by simp [hV2]
    have e4 : A ++ V2 ++ V1 ++ (U ++ C) = A ++ V2 ++ V1 ++ U ++ C := by simp
    rw [w2, w3, e1]
    rw [e2, hV2, e4] at i1
    exact ⟨_, c, i1⟩
theorem a7Pq (A U V C : List (List Da × Tm)) (hU : U ≠ []) (hV : V ≠ []) (ht : ∀ z ∈ A ++ U ++ V ++ C, TgP Tm.da z) (hl : (A ++ U ++ V ++ C).length ≤ 3000000000000) : XC pg 268 [.one (.ol 2000), Z (A.length : Int), Z ((A ++ U).length : Int), Z ((A ++ U ++ V).length : Int), .one (.d (.fn 143))] [(2000, .lst 30 3 ((A ++ U ++ V ++ C).map (·.1)))] (.tup []) [(2000, .lst 30 3 ((A ++ V ++ U ++ C).map (·.1)))] := by
 have hl' : A.length + U.length + V.length + C.length ≤ 3000000000000 := by simp at hl; omega
 have w1 : IntKind.wrap .i64 (((A ++ U).length : Int) - (A.length : Int)) = (U.length : Int) := by rw [wrI (by simp <;> omega) (by simp <;> omega)]; simp <;> omega
 have w2 : IntKind.wrap .i64 (((A ++ U ++ V).length : Int) - ((A ++ U).length : Int)) = (V.length : Int) := by rw [wrI (by simp <;> omega) (by simp <;> omega)]; simp <;> omega
 apply z6q
 rw [w1, w2]
 exact a7Hq _ _ A U V C (Nat.le_refl _) hU hV ht hl rfl
theorem ab6q (hO : SWO e6q) (A : List (List Da × Tm)) (x : List Da × Tm) : ∀ (n : Nat) (L R Q : List (List Da × Tm)), L.length = n → (∀ z ∈ A ++ L ++ x :: R ++ Q, TgP Tm.da z) → (A ++ L ++ x :: R ++ Q).length ≤ 3000000000000 → Sd e6q (L ++ R) → (∀ y ∈ R, e6q x y) → ∃ S, S.Perm (L ++ x :: R) ∧ Sd e6q S ∧ ∀ (r : AV) (O : List (Nat × Ob)) (b i : Int), (c5q r O (A.length : Int) b (IntKind.wrap .i64 (i + 1)) ((A ++ S ++ Q).map (·.1)) → e3q r O (A.length : Int) b i ((A ++ L).length : Int) ((A ++ L ++ x :: R ++ Q).map (·.1))) := by
 intro n
 induction n with
 | zero =>
  intro L R Q hn ht hl hs hR
  have : L = [] := List.eq_nil_of_length_eq_zero hn
  subst this
  refine ⟨x :: R, by simp, R0q hO (L := []) hs (fun y hy => hO.asym (hR y hy)) (by simp), fun r O b i h => ?_⟩
  apply i2q
  refine a2q (decide_eq_false (by simp)) ?_
  simpa using h
 | succ n ih =>
  intro L R Q hn ht hl hs hR
  obtain ⟨L', z, rfl⟩ : ∃ L' z, L = L' ++ [z] := by
   rcases List.eq_nil_or_concat L with rfl | ⟨L', z, h⟩
   ·simp at hn
   ·exact ⟨L', z, by rw [h, List.concat_eq_append]⟩
  have hl' : A.length + L'.length + R.length + Q.length + 2 ≤ 3000000000000 := by simp at hl; omega
  have hz := ht z (by simp)
  have hx := ht x (by simp)
  have hcmp := a3hq hx hz
  obtain ⟨_, _, _, ex⟩ := (ht x (by simp)).term
  obtain ⟨_, _, _, ez⟩ := (ht z (by simp)).term
  have eD : A ++ (L' ++ [z]) ++ x :: R ++ Q = (A ++ L') ++ z :: [] ++ x :: (R ++ Q) := by simp
  have g1 := P8q (fun z : List Da × Tm => z.1) (P := A ++ L') (M := []) (Q := R ++ Q) (a := z) (b := x)
  have g2 := Q5q (fun z : List Da × Tm => z.1) (P := A ++ L') (M := []) (Q := R ++ Q) (a := z) (b := x)
  have l1 := z9q (fun z : List Da × Tm => z.1) (A ++ L') [] (R ++ Q) z x
  have g3 : ((((A ++ L') ++ z :: [] ++ x :: (R ++ Q)).map (·.1)).set ((A ++ L').length + 1 + ([] : List (List Da × Tm)).length) z.1)[(A ++ L').length]? = some z.1 := by
   rw [List.getElem?_set_ne (by simp)]; exact g2
  have w1 : IntKind.wrap .i64 (((A ++ (L' ++ [z])).length : Int) - 1) = (((A ++ L').length : Nat) : Int) := by rw [wrI (by simp <;> omega) (by simp <;> omega)]; simp <;> omega
  have w2 : IntKind.wrap .i64 ((((A ++ L').length + 1 + ([] : List (List Da × Tm)).length : Nat) : Int) - 1) = (((A ++ L').length : Nat) : Int) := by rw [wrI (by simp <;> omega) (by simp <;> omega)]; simp <;> omega
  have hj : ((A ++ (L' ++ [z])).length : Int) = (((A ++ L').length + 1 + ([] : List (List Da × Tm)).length : Nat) : Int) := by simp; omega
  by_cases hlt : e6q x z
  ·obtain ⟨S, p1, p2, p3⟩ := ih L' (z :: R) Q (by simpa using hn) (fun w hw => ht w (by simp at hw ⊢; grind)) (by simp; omega) (by simpa using hs) (fun y hy => by
    rcases List.mem_cons.1 hy with rfl | hy
    ·exact hlt
    ·exact hR y hy)
   refine ⟨S, p1.trans ?_, p2, fun r O b i h => ?_⟩
   ·have : (L' ++ [z]) ++ x :: R = L' ++ z :: x :: R := by simp
    rw [this]
    exact (List.Perm.swap ..).append_left L'
   ·have h4 := p3 r O b i h
    have eS : A ++ L' ++ x :: z :: R ++ Q = (A ++ L') ++ x :: [] ++ z :: (R ++ Q) := by simp
    rw [eS, ← a36q] at h4
    rw [ex] at g1 hcmp
    rw [ez] at g2 g3 hcmp
    rw [ex, ez] at h4
    apply i2q
    rw [eD, hj, w2]
    refine a6q (decide_eq_true (by simp; omega)) ⟨_, rfl, ⟨by rw [l1]; simp; omega⟩, _, rfl, _, _, _, g1, _, rfl, ⟨by rw [l1]; simp; omega⟩, _, rfl, _, _, _, g2, _, hcmp, a6q (decide_eq_true hlt) ⟨_, rfl, ⟨by rw [l1]; simp; omega⟩, _, rfl, _, _, _, g2, _, rfl, ⟨by rw [l1]; simp; omega⟩, _, rfl, _, _, _, g1, _, rfl, ⟨by rw [l1]; simp; omega⟩, _, rfl, _, _, _, g1, _, rfl, ⟨by rw [List.length_set, l1]; simp; omega⟩, _, rfl, _, _, _, g3, h4⟩⟩
  ·refine ⟨(L' ++ [z]) ++ x :: R, .refl _, R0q hO hs (fun y hy => hO.asym (hR y hy)) (a6Tq hO (s6q.1 hs).1 hlt), fun r O b i h => ?_⟩
   have e2 : A ++ (L' ++ [z] ++ x :: R) ++ Q = (A ++ L') ++ z :: [] ++ x :: (R ++ Q) := by simp
   rw [e2] at h
   rw [ex] at g1 hcmp
   rw [ez] at g2 hcmp
   apply i2q
   rw [eD, hj, w2]
   exact a6q (decide_eq_true (by simp; omega)) ⟨_, rfl, ⟨by rw [l1]; simp; omega⟩, _, rfl, _, _, _, g1, _, rfl, ⟨by rw [l1]; simp; omega⟩, _, rfl, _, _, _, g2, _, hcmp, a2q (decide_eq_false hlt) h⟩
theorem a1Vq (hO : SWO e6q) (A C : List (List Da × Tm)) : ∀ (R S : List (List Da × Tm)), (∀ z ∈ A ++ S ++ R ++ C, TgP Tm.da z) → (A ++ S ++ R ++ C).length ≤ 3000000000000 → Sd e6q S → ∃ M, M.Perm (S ++ R) ∧ Sd e6q M ∧ c5q (.tup []) [(2000, .lst 30 3 ((A ++ M ++ C).map (·.1)))] (A.length : Int) ((A ++ S ++ R).length : Int) ((A ++ S).length : Int) ((A ++ S ++ R ++ C).map (·.1))
 | [], S, ht, hl, hs => by
  refine ⟨S, by simp, hs, ?_⟩
  apply i3q
  exact a2q (decide_eq_false (by simp)) ⟨rfl, by simp⟩
 | x :: R, S, ht, hl, hs => by
  have hl' : A.length + S.length + R.length + C.length + 1 ≤ 3000000000000 := by simp at hl; omega
  obtain ⟨S', p1, p2, p3⟩ := ab6q hO A x S.length S [] (R ++ C) rfl (by simpa using ht) (by simpa using hl) (by simpa using hs) (by simp)
  have pl := p1.length_eq
  simp only [List.length_append, List.length_cons, List.length_nil] at pl
  obtain ⟨M, q1, q2, q3⟩ := a1Vq hO A C R S' (fun w hw => ht w (by
   have hp : w ∈ S' → w ∈ S ++ [x] := fun h => p1.subset h
   simp at hw hp ⊢; grind)) (by simp; omega) p2
  refine ⟨M, q1.trans ?_, q2, ?_⟩
  ·have e : S ++ x :: R = S ++ [x] ++ R := by simp
   rw [e]
   exact p1.append_right R
  ·have h4 := p3 (.tup []) [(2000, .lst 30 3 ((A ++ M ++ C).map (·.1)))] ((A ++ S ++ x :: R).length : Int) ((A ++ S).length : Int)
   have w1 : IntKind.wrap .i64 (((A ++ S).length : Int) + 1) = ((A ++ S').length : Int) := by rw [wrI (by simp <;> omega) (by simp <;> omega)]; simp <;> omega
   have e1 : (A ++ S' ++ R).length = (A ++ S ++ x :: R).length := by simp; omega
   have e2 : A ++ S' ++ (R ++ C) = A ++ S' ++ R ++ C := by simp
   have e3 : A ++ S ++ [x] ++ (R ++ C) = A ++ S ++ x :: R ++ C := by simp
   rw [w1, e2, e3] at h4
   rw [e1] at q3
   apply i3q
   exact a6q (decide_eq_true (by simp; omega)) (h4 q3)
theorem S9q (hO : SWO e6q) (A R C : List (List Da × Tm)) (ht : ∀ z ∈ A ++ R ++ C, TgP Tm.da z) (hl : (A ++ R ++ C).length ≤ 3000000000000) : ∃ M, M.Perm R ∧ Sd e6q M ∧ XC pg 260 [.one (.ol 2000), Z (A.length : Int), Z ((A ++ R).length : Int), .one (.d (.fn 143))] [(2000, .lst 30 3 ((A ++ R ++ C).map (·.1)))] (.tup []) [(2000, .lst 30 3 ((A ++ M ++ C).map (·.1)))] := by
 have hl' : A.length + R.length + C.length ≤ 3000000000000 := by simp at hl; omega
 have w1 : IntKind.wrap .i64 ((A.length : Int) + 1) = ((A.length + 1 : Nat) : Int) := by rw [wrI (by omega) (by omega)]; simp
 cases R with
 | nil =>
  refine ⟨[], .refl _, .nil, ?_⟩
  apply m0q
  rw [w1]
  apply i3q
  exact a2q (decide_eq_false (by simp <;> omega)) ⟨rfl, rfl⟩
 | cons x R =>
  obtain ⟨M, p1, p2, p3⟩ := a1Vq hO A C R [x] (by simpa using ht) (by simpa using hl) (by simp)
  refine ⟨M, by simpa using p1, p2, ?_⟩
  apply m0q
  rw [w1]
  have e1 : (A ++ [x]).length = A.length + 1 := by simp
  have e2 : A ++ [x] ++ R = A ++ x :: R := by simp
  rw [e1, e2] at p3
  exact p3
theorem a55q (i : Int) (x : List Da × Tm) (Q : List (List Da × Tm)) : ∀ (R1 D : List (List Da × Tm)), (∀ z ∈ D ++ x :: R1 ++ Q, TgP Tm.da z) → (D ++ x :: R1 ++ Q).length ≤ 3000000000000 → i = ((D.length + R1.length + 1 : Nat) : Int) → e1q (.tup []) [(2000, .lst 30 3 ((D ++ R1 ++ x :: Q).map (·.1)))] i (D.length : Int) ((D ++ x :: R1 ++ Q).map (·.1)) := by
 intro R1
 induction R1 with
 | nil =>
  intro D ht hl hi
  have w : IntKind.wrap .i64 (i - 1) = (D.length : Int) := by rw [wrI (by omega) (by simp at hl hi; omega)]; simp at hi; omega
  apply m9q
  rw [w]
  exact a2q (decide_eq_false (by omega)) ⟨rfl, by simp⟩
 | cons y R1 ih0 =>
  intro D ht hl hi
  have hl' : D.length + R1.length + Q.length + 2 ≤ 3000000000000 := by simp at hl; omega
  have ih := ih0 (D ++ [y]) (fun w hw => ht w (by simp at hw ⊢; grind)) (by simp; omega) (by simp at hi ⊢; omega)
  have w : IntKind.wrap .i64 (i - 1) = ((D.length + R1.length + 1 : Nat) : Int) := by rw [wrI (by omega) (by simp at hi; omega)]; simp at hi; omega
  have w1 : IntKind.wrap .i64 ((D.length : Int) + 1) = ((D.length + 1 + ([] : List (List Da × Tm)).length : Nat) : Int) := by rw [wrI (by omega) (by omega)]; simp
  have eD : D ++ x :: y :: R1 ++ Q = D ++ x :: [] ++ y :: (R1 ++ Q) := by simp
  have eE : D ++ [y] ++ x :: R1 ++ Q = D ++ y :: [] ++ x :: (R1 ++ Q) := by simp
  have eO : D ++ [y] ++ R1 ++ x :: Q = D ++ y :: R1 ++ x :: Q := by simp
  have e1 : (D ++ [y]).length = D.length + 1 + ([] : List (List Da × Tm)).length := by simp
  have g1 := P8q (fun z : List Da × Tm => z.1) (P := D) (M := []) (Q := R1 ++ Q) (a := x) (b := y)
  have g2 := Q5q (fun z : List Da × Tm => z.1) (P := D) (M := []) (Q := R1 ++ Q) (a := x) (b := y)
  have l1 := z9q (fun z : List Da × Tm => z.1) D [] (R1 ++ Q) x y
  have g3 : (((D ++ x :: [] ++ y :: (R1 ++ Q)).map (·.1)).set D.length y.1)[D.length + 1 + ([] : List (List Da × Tm)).length]? = some y.1 := by
   rw [List.getElem?_set_ne (by simp)]; exact g1
  obtain ⟨_, _, _, ex⟩ := (ht x (by simp)).term
  obtain ⟨_, _, _, ey⟩ := (ht y (by simp)).term
  rw [eE, eO, e1, ← a0Wq (fun z : List Da × Tm => z.1) (P := D) (M := []) (Q := R1 ++ Q) (a := x) (b := y)] at ih
  rw [ex] at g2
  rw [ey] at g1 g3
  rw [ex, ey] at ih
  apply m9q
  rw [w, eD, w1]
  exact a6q (decide_eq_true (by omega)) ⟨_, rfl, ⟨by rw [l1]; simp; omega⟩, _, rfl, _, _, _, g1, _, rfl, ⟨by rw [l1]; simp; omega⟩, _, rfl, _, _, _, g2, _, rfl, ⟨by rw [l1]; simp; omega⟩, _, rfl, _, _, _, g2, _, rfl, ⟨by rw [List.length_set, l1]; simp; omega⟩, _, rfl, _, _, _, g3, ih⟩
theorem a6Kq (D : List (List Da × Tm)) (x : List Da × Tm) : ∀ (n : Nat) (L Q : List (List Da × Tm)), L.length = n → (∀ z ∈ D ++ L ++ x :: Q, TgP Tm.da z) → (D ++ L ++ x :: Q).length ≤ 3000000000000 → d7q (.tup []) [(2000, .lst 30 3 ((D ++ x :: L ++ Q).map (·.1)))] (D.length : Int) ((D ++ L).length : Int) ((D ++ L ++ x :: Q).map (·.1)) := by
 intro n
 induction n with
 | zero =>
  intro L Q hn ht hl
  have : L = [] := List.eq_nil_of_length_eq_zero hn
  subst this
  apply m4q
  exact a2q (decide_eq_false (by simp)) ⟨rfl, by simp⟩
 | succ n ih =>
  intro L Q hn ht hl
  obtain ⟨L', z, rfl⟩ : ∃ L' z, L = L' ++ [z] := by
   rcases List.eq_nil_or_concat L with rfl | ⟨L', z, h⟩
   ·simp at hn
   ·exact ⟨L', z, by rw [h, List.concat_eq_append]⟩
  have hl' : D.length + L'.length + Q.length + 2 ≤ 3000000000000 := by simp at hl; omega
  have i1 := ih L' (z :: Q) (by simpa using hn) (fun w hw => ht w (by simp at hw ⊢; grind)) (by simp; omega)
  have eD : D ++ (L' ++ [z]) ++ x :: Q = (D ++ L') ++ z :: [] ++ x :: Q := by simp
  have eE : D ++ L' ++ x :: z :: Q = (D ++ L') ++ x :: [] ++ z :: Q := by simp
  have eO : D ++ x :: L' ++ z :: Q = D ++ x :: (L' ++ [z]) ++ Q := by simp
  have hj : ((D ++ (L' ++ [z])).length : Int) = (((D ++ L').length + 1 + ([] : List (List Da × Tm)).length : Nat) : Int) := by simp; omega
  have w2 : IntKind.wrap .i64 ((((D ++ L').length + 1 + ([] : List (List Da × Tm)).length : Nat) : Int) - 1) = (((D ++ L').length : Nat) : Int) := by rw [wrI (by simp <;> omega) (by simp <;> omega)]; simp <;> omega
  have g1 := P8q (fun z : List Da × Tm => z.1) (P := D ++ L') (M := []) (Q := Q) (a := z) (b := x)
  have g2 := Q5q (fun z : List Da × Tm => z.1) (P := D ++ L') (M := []) (Q := Q) (a := z) (b := x)
  have l1 := z9q (fun z : List Da × Tm => z.1) (D ++ L') [] Q z x
  have g3 : ((((D ++ L') ++ z :: [] ++ x :: Q).map (·.1)).set ((D ++ L').length + 1 + ([] : List (List Da × Tm)).length) z.1)[(D ++ L').length]? = some z.1 := by
   rw [List.getElem?_set_ne (by simp)]; exact g2
  obtain ⟨_, _, _, ex⟩ := (ht x (by simp)).term
  obtain ⟨_, _, _, ez⟩ := (ht z (by simp)).term
  rw [eE, eO, ← a36q] at i1
  rw [ex] at g1
  rw [ez] at g2 g3
  rw [ex, ez] at i1
  apply m4q
  rw [eD, hj, w2]
  exact a6q (decide_eq_true (by simp; omega)) ⟨_, rfl, ⟨by rw [l1]; simp; omega⟩, _, rfl, _, _, _, g2, _, rfl, ⟨by rw [l1]; simp; omega⟩, _, rfl, _, _, _, g1, _, rfl, ⟨by rw [l1]; simp; omega⟩, _, rfl, _, _, _, g1, _, rfl, ⟨by rw [List.length_set, l1]; simp; omega⟩, _, rfl, _, _, _, g3, i1⟩
theorem aeLq (hO : SWO e6q) (A R C : List (List Da × Tm)) (x : List Da × Tm) (ht : ∀ z ∈ A ++ x :: R ++ C, TgP Tm.da z) (hl : (A ++ x :: R ++ C).length ≤ 3000000000000) (hs : Sd e6q R) : ∃ M, M.Perm (x :: R) ∧ Sd e6q M ∧ c1q (.tup []) [(2000, .lst 30 3 ((A ++ M ++ C).map (·.1)))] (A.length : Int) ((A.length + 1 : Nat) : Int) ((A.length + 1 + R.length : Nat) : Int) ((A ++ x :: R ++ C).map (·.1)) := by
 have hl' : A.length + R.length + C.length + 1 ≤ 3000000000000 := by simp at hl; omega
 have hlen : ((A ++ x :: R ++ C).map (·.1)).length = A.length + R.length + C.length + 1 := by simp; omega
 have eD : A ++ x :: R ++ C = A ++ [x] ++ R ++ C := by simp
 have gx : ((A ++ x :: R ++ C).map (·.1))[A.length]? = some x.1 := by
  have := x3q (fun z : List Da × Tm => z.1) (P := A) (R := x :: R) (Q := C) (k := 0) (y := x) rfl
  exact this
 obtain ⟨k, k1, k2, k3, k4, k5⟩ := X0q (ι := AV × List (Nat × Ob)) (p := fun t i j => c1q t.1 t.2 (A.length : Int) (i : Int) (j : Int) ((A ++ x :: R ++ C).map (·.1))) (ex := fun t i => e1q t.1 t.2 (i : Int) (A.length : Int) ((A ++ x :: R ++ C).map (·.1)))
  (fun h => ∃ y, R[h - (A.length + 1)]? = some y ∧ e6q y x) (A.length + 1) (A.length + 1 + R.length) (fun t i _ _ h => by
   apply n0q
   exact a2q (decide_eq_false (by omega)) h) (fun t i j h1 h2 h3 => by
   obtain ⟨y, hy⟩ := d0q (l := R) (i := (i + j) / 2 - (A.length + 1)) (by omega)
   have hym := List.mem_of_getElem? hy
   have hcmp := a3hq (ht y (by simp [hym])) (ht x (by simp))
   have gy := x3q (fun z : List Da × Tm => z.1) (P := A ++ [x]) (Q := C) hy
   have eh : (A ++ [x]).length + ((i + j) / 2 - (A.length + 1)) = (i + j) / 2 := by simp; omega
   rw [eh, ← eD] at gy
   obtain ⟨_, _, _, ex⟩ := (ht x (by simp)).term
   obtain ⟨_, _, _, ey⟩ := (ht y (by simp [hym])).term
   have core : (e6q y x → c1q t.1 t.2 (A.length : Int) (((i + j) / 2 + 1 : Nat) : Int) (j : Int) ((A ++ x :: R ++ C).map (·.1))) → (¬ e6q y x → c1q t.1 t.2 (A.length : Int) (i : Int) (((i + j) / 2 : Nat) : Int) ((A ++ x :: R ++ C).map (·.1))) → c1q t.1 t.2 (A.length : Int) (i : Int) (j : Int) ((A ++ x :: R ++ C).map (·.1)) := by
    intro c1 c2
    have w1 : IntKind.wrap .i64 ((((i + j) / 2 : Nat) : Int) + 1) = (((i + j) / 2 + 1 : Nat) : Int) := by rw [wrI (by omega) (by omega)]; simp
    have gx2 := gx
    rw [ex] at gx2 hcmp
    rw [ey] at gy hcmp
    apply n0q
    rw [midw (by omega), w1]
    refine a6q (decide_eq_true (by omega)) ⟨⟨F3q⟩, _, rfl, ⟨by rw [hlen]; omega⟩, _, rfl, _, _, _, gy, _, rfl, ⟨by rw [hlen]; omega⟩, _, rfl, _, _, _, gx2, _, hcmp, ?_⟩
    by_cases hlt : e6q y x
    ·exact a6q (decide_eq_true hlt) (c1 hlt)
    ·exact a2q (decide_eq_false hlt) (c2 hlt)
   refine ⟨fun hf hp => core (fun _ => hp) fun hn => ?_, fun hn hp => core (fun hlt => absurd ⟨y, hy, hlt⟩ hn) fun _ => hp⟩
   obtain ⟨y', hy', hlt⟩ := hf
   rw [hy] at hy'
   cases hy'
   exact absurd hlt hn) R.length (A.length + 1) (A.length + 1 + R.length) (by omega) (Nat.le_refl _) (by omega) (Nat.le_refl _) (.inl rfl) (.inl rfl)
 obtain ⟨q, rfl⟩ : ∃ q, k = A.length + 1 + q := ⟨k - (A.length + 1), by omega⟩
 have hq : q ≤ R.length := by omega
 have hsR : Sd e6q (R.take q ++ R.drop q) := by rw [List.take_append_drop]; exact hs
 obtain ⟨s1, s2, _⟩ := s6q.1 hsR
 have hR1 : ∀ y ∈ R.take q, e6q y x := by
  refine a0jq hO s1 ?_
  rcases k3 with h | ⟨y, hy, hlt⟩
  ·have : q = 0 := by omega
   subst this; exact .inl (by simp)
  ·by_cases h0 : q = 0
   ·subst h0; exact .inl (by simp)
   ·refine .inr ⟨y, ?_, hlt⟩
    rw [List.length_take, Nat.min_eq_left hq, List.getElem?_take_of_lt (by omega)]
    rw [← hy]; congr 1; omega
 have hR2 : ∀ y ∈ R.drop q, ¬ e6q y x := by
  refine H0q hO s2 ?_
  rcases k4 with h | h
  ·exact .inl (List.drop_eq_nil_of_le (by omega))
  ·by_cases h0 : q = R.length
   ·exact .inl (List.drop_eq_nil_of_le (by omega))
   ·obtain ⟨y, hy⟩ := d0q (l := R) (i := q) (by omega)
    refine .inr ⟨y, by rw [List.getElem?_drop]; simpa using hy, fun hlt => h ⟨y, ?_, hlt⟩⟩
    rw [← hy]; congr 1; omega
 refine ⟨R.take q ++ x :: R.drop q, ?_, R0q hO hsR hR2 (fun y hy => hO.asym (hR1 y hy)), k5 (_, _) ?_⟩
 ·refine List.perm_middle.trans ?_
  rw [List.take_append_drop]
 ·have h := a55q ((A.length + 1 + q : Nat) : Int) x (R.drop q ++ C) (R.take q) A (fun w hw => ht w (by
   have e : A ++ x :: R.take q ++ (R.drop q ++ C) = A ++ x :: R ++ C := by
    simp only [List.append_assoc, List.cons_append]; rw [← List.append_assoc (R.take q), List.take_append_drop]
   rw [e] at hw; exact hw)) (by simp; omega) (by simp; omega)
  have e1 : A ++ x :: R.take q ++ (R.drop q ++ C) = A ++ x :: R ++ C := by
   simp only [List.append_assoc, List.cons_append]; rw [← List.append_assoc (R.take q), List.take_append_drop]
  have e2 : A ++ R.take q ++ x :: (R.drop q ++ C) = A ++ (R.take q ++ x :: R.drop q) ++ C := by simp
  rw [e1, e2] at h
  exact h
theorem adAq (hO : SWO e6q) (A L C : List (List Da × Tm)) (x : List Da × Tm) (ht : ∀ z ∈ A ++ L ++ x :: C, TgP Tm.da z) (hl : (A ++ L ++ x :: C).length ≤ 3000000000000) (hs : Sd e6q L) : ∃ M, M.Perm (L ++ [x]) ∧ Sd e6q M ∧ c0q (.tup []) [(2000, .lst 30 3 ((A ++ M ++ C).map (·.1)))] ((A.length + L.length : Nat) : Int) (A.length : Int) ((A.length + L.length : Nat) : Int) ((A ++ L ++ x :: C).map (·.1)) := by
 have hl' : A.length + L.length + C.length + 1 ≤ 3000000000000 := by simp at hl; omega
 have hlen : ((A ++ L ++ x :: C).map (·.1)).length = A.length + L.length + C.length + 1 := by simp; omega
 have gx : ((A ++ L ++ x :: C).map (·.1))[A.length + L.length]? = some x.1 := by simp
 obtain ⟨k, k1, k2, k3, k4, k5⟩ := X0q (ι := AV × List (Nat × Ob)) (p := fun t i j => c0q t.1 t.2 ((A.length + L.length : Nat) : Int) (i : Int) (j : Int) ((A ++ L ++ x :: C).map (·.1))) (ex := fun t i => d7q t.1 t.2 (i : Int) ((A.length + L.length : Nat) : Int) ((A ++ L ++ x :: C).map (·.1)))
  (fun h => ∃ y, L[h - A.length]? = some y ∧ ¬ e6q x y) A.length (A.length + L.length) (fun t i _ _ h => by
   apply m2q
   exact a2q (decide_eq_false (by omega)) h) (fun t i j h1 h2 h3 => by
   obtain ⟨y, hy⟩ := d0q (l := L) (i := (i + j) / 2 - A.length) (by omega)
   have hym := List.mem_of_getElem? hy
   have hcmp := a3hq (ht x (by simp)) (ht y (by simp [hym]))
   have gy := x3q (fun z : List Da × Tm => z.1) (P := A) (Q := x :: C) hy
   have eh : A.length + ((i + j) / 2 - A.length) = (i + j) / 2 := by omega
   rw [eh] at gy
   obtain ⟨_, _, _, ex⟩ := (ht x (by simp)).term
   obtain ⟨_, _, _, ey⟩ := (ht y (by simp [hym])).term
   have core : (¬ e6q x y → c0q t.1 t.2 ((A.length + L.length : Nat) : Int) (((i + j) / 2 + 1 : Nat) : Int) (j : Int) ((A ++ L ++ x :: C).map (·.1))) → (e6q x y → c0q t.1 t.2 ((A.length + L.length : Nat) : Int) (i : Int) (((i + j) / 2 : Nat) : Int) ((A ++ L ++ x :: C).map (·.1))) → c0q t.1 t.2 ((A.length + L.length : Nat) : Int) (i : Int) (j : Int) ((A ++ L ++ x :: C).map (·.1)) := by
    intro c1 c2
    have w1 : IntKind.wrap .i64 ((((i + j) / 2 : Nat) : Int) + 1) = (((i + j) / 2 + 1 : Nat) : Int) := by rw [wrI (by omega) (by omega)]; simp
    have gx2 := gx
    rw [ex] at gx2 hcmp
    rw [ey] at gy hcmp
    apply m2q
    rw [midw (by omega), w1]
    refine a6q (decide_eq_true (by omega)) ⟨⟨F3q⟩, _, rfl, ⟨by rw [hlen]; omega⟩, _, rfl, _, _, _, gx2, _, rfl, ⟨by rw [hlen]; omega⟩, _, rfl, _, _, _, gy, _, hcmp, ?_⟩
    by_cases hlt : e6q x y
    ·exact a2q (by rw [decide_eq_true (show Tm.cmp x.2 y.2 < 0 from hlt)]; rfl) (c2 hlt)
    ·exact a6q (by rw [decide_eq_false (show ¬ Tm.cmp x.2 y.2 < 0 from hlt)]; rfl) (c1 hlt)
   refine ⟨fun hf hp => core (fun _ => hp) fun hn => ?_, fun hn hp => core (fun hlt => absurd ⟨y, hy, hlt⟩ hn) fun _ => hp⟩
   obtain ⟨y', hy', hlt⟩ := hf
   rw [hy] at hy'
   cases hy'
   exact absurd hn hlt) L.length A.length (A.length + L.length) (by omega) (Nat.le_refl _) (by omega) (Nat.le_refl _) (.inl rfl) (.inl rfl)
 obtain ⟨q, rfl⟩ : ∃ q, k = A.length + q := ⟨k - A.length, by omega⟩
 have hq : q ≤ L.length := by omega
 have hsL : Sd e6q (L.take q ++ L.drop q) := by rw [List.take_append_drop]; exact hs
 obtain ⟨s1, s2, _⟩ := s6q.1 hsL
 have hL1 : ∀ y ∈ L.take q, ¬ e6q x y := by
  refine a07q hO s1 ?_
  by_cases h0 : q = 0
  ·subst h0; exact .inl (by simp)
  ·rcases k3 with h | ⟨y, hy, hlt⟩
   ·exact absurd (by omega) h0
   ·refine .inr ⟨y, ?_, hlt⟩
    rw [List.length_take, Nat.min_eq_left hq, List.getElem?_take_of_lt (by omega)]
    rw [← hy]; congr 1; omega
 have hL2 : ∀ y ∈ L.drop q, e6q x y := by
  refine a7rq hO s2 ?_
  by_cases h0 : q = L.length
  ·exact .inl (List.drop_eq_nil_of_le (by omega))
  ·rcases k4 with h | h
   ·exact absurd (by omega) h0
   ·obtain ⟨y, hy⟩ := d0q (l := L) (i := q) (by omega)
    refine .inr ⟨y, by rw [List.getElem?_drop]; simpa using hy, Classical.byContradiction fun hlt => h ⟨y, ?_, hlt⟩⟩
    rw [← hy]; congr 1; omega
 refine ⟨L.take q ++ x :: L.drop q, ?_, R0q hO hsL (fun y hy => hO.asym (hL2 y hy)) hL1, k5 (_, _) ?_⟩
 ·refine List.perm_middle.trans ?_
  rw [List.take_append_drop]
  exact (List.perm_append_singleton x L).symm
 ·have e1 : A ++ L.take q ++ L.drop q ++ x :: C = A ++ L ++ x :: C := by rw [List.append_assoc A, List.take_append_drop]
  have h := a6Kq (A ++ L.take q) x (L.drop q).length (L.drop q) C rfl (by rw [e1]; exact ht) (by rw [e1]; exact hl)
  have e2 : A ++ L.take q ++ x :: L.drop q ++ C = A ++ (L.take q ++ x :: L.drop q) ++ C := by simp
  have e3 : (A ++ L.take q).length = A.length + q := by simp; omega
  have e4 : (A ++ L.take q ++ L.drop q).length = A.length + L.length := by simp
  rw [e1, e2, e3, e4] at h
  exact h
theorem aeHq (hO : SWO e6q) (A L1 L2 R1 R2 C : List (List Da × Tm)) (a m b mid k e : Nat) (ha : a = A.length) (hk : k = a + L1.length) (hm : m = k + L2.length) (he : e = m + R1.length) (hb : b = e + R2.length) (hmid : mid = k + R1.length) (ht : ∀ z ∈ A ++ L1 ++ L2 ++ R1 ++ R2 ++ C, TgP Tm.da z) (hl : (A ++ L1 ++ L2 ++ R1 ++ R2 ++ C).length ≤ 3000000000000) (hL : Sd e6q (L1 ++ L2)) (hR : Sd e6q (R1 ++ R2))
  (f1 : (L1 = [] ∨ R2 = []) ∨ ∃ y0 z0, L1[L1.length - 1]? = some y0 ∧ R2[0]? = some z0 ∧ ¬ e6q z0 y0) (f2 : (L2 = [] ∨ R1 = []) ∨ ∃ y0 z0, L2[0]? = some y0 ∧ R1[R1.length - 1]? = some z0 ∧ e6q z0 y0)
  (ih : ∀ (A L R C : List (List Da × Tm)), (L ++ R).length < (L1 ++ L2 ++ R1 ++ R2).length → L ≠ [] → R ≠ [] → (∀ z ∈ A ++ L ++ R ++ C, TgP Tm.da z) → (A ++ L ++ R ++ C).length ≤ 3000000000000 → Sd e6q L → Sd e6q R → ∃ M, M.Perm (L ++ R) ∧ Sd e6q M ∧ XC pg 261 [.one (.ol 2000), Z (A.length : Int), Z ((A ++ L).length : Int), Z ((A ++ L ++ R).length : Int), .one (.d (.fn 143))] [(2000, .lst 30 3 ((A ++ L ++ R ++ C).map (·.1)))] (.tup []) [(2000, .lst 30 3 ((A ++ M ++ C).map (·.1)))])
  (hlt1 : (L1 ++ R1).length < (L1 ++ L2 ++ R1 ++ R2).length) (hlt2 : (L2 ++ R2).length < (L1 ++ L2 ++ R1 ++ R2).length) :
  ∃ M, M.Perm (L1 ++ L2 ++ (R1 ++ R2)) ∧ Sd e6q M ∧ ∀ s21 s22 : Int, s21 = k → b0q (.tup []) [(2000, .lst 30 3 ((A ++ M ++ C).map (·.1)))] (a : Int) (m : Int) (b : Int) (mid : Int) ((mid + m : Nat) : Int) (k : Int) s21 s22 ((A ++ L1 ++ L2 ++ R1 ++ R2 ++ C).map (·.1)) := by
 have hl' : A.length + L1.length + L2.length + R1.length + R2.length + C.length ≤ 3000000000000 := by simp at hl; omega
 obtain ⟨hs1, hs2, hs12⟩ := s6q.1 hL
 obtain ⟨hr1, hr2, hr12⟩ := s6q.1 hR
 obtain ⟨M1, p1, q1, z1, c1⟩ : ∃ M1, M1.Perm (L1 ++ R1) ∧ Sd e6q M1 ∧ ((L1 = [] ∨ R1 = []) → M1 = L1 ++ R1) ∧ (L1 ≠ [] → R1 ≠ [] → XC pg 261 [.one (.ol 2000), Z (a : Int), Z (k : Int), Z (mid : Int), .one (.d (.fn 143))] [(2000, .lst 30 3 ((A ++ L1 ++ R1 ++ L2 ++ R2 ++ C).map (·.1)))] (.tup []) [(2000, .lst 30 3 ((A ++ M1 ++ L2 ++ R2 ++ C).map (·.1)))]) := by
  by_cases h : L1 = [] ∨ R1 = []
  ·refine ⟨L1 ++ R1, .refl _, ?_, fun _ => rfl, fun h1 h2 => absurd h (by simp [h1, h2])⟩
   rcases h with rfl | rfl
   ·simpa using hr1
   ·simpa using hs1
  ·have h1 : L1 ≠ [] := fun e => h (.inl e)
   have h2 : R1 ≠ [] := fun e => h (.inr e)
   obtain ⟨M1, p, q, c⟩ := ih A L1 R1 (L2 ++ R2 ++ C) hlt1 h1 h2 (fun w hw => ht w (by simp at hw ⊢; grind)) (by simp; omega) hs1 hr1
   refine ⟨M1, p, q, fun e => absurd e h, fun _ _ => ?_⟩
   have e1 : (A ++ L1).length = k := by simp; omega
   have e2 : (A ++ L1 ++ R1).length = mid := by simp; omega
   have e3 : A ++ L1 ++ R1 ++ (L2 ++ R2 ++ C) = A ++ L1 ++ R1 ++ L2 ++ R2 ++ C := by simp
   have e4 : A ++ M1 ++ (L2 ++ R2 ++ C) = A ++ M1 ++ L2 ++ R2 ++ C := by simp
   rw [e1, e2, e3, e4, ← ha] at c
   exact c
 have pl1 := p1.length_eq
 simp only [List.length_append] at pl1
 obtain ⟨M2, p2, q2, z2, c2⟩ : ∃ M2, M2.Perm (L2 ++ R2) ∧ Sd e6q M2 ∧ ((L2 = [] ∨ R2 = []) → M2 = L2 ++ R2) ∧ (L2 ≠ [] → R2 ≠ [] → XC pg 261 [.one (.ol 2000), Z (mid : Int), Z (e : Int), Z (b : Int), .one (.d (.fn 143))] [(2000, .lst 30 3 ((A ++ M1 ++ L2 ++ R2 ++ C).map (·.1)))] (.tup []) [(2000, .lst 30 3 ((A ++ M1 ++ M2 ++ C).map (·.1)))]) := by
  by_cases h : L2 = [] ∨ R2 = []
  ·refine ⟨L2 ++ R2, .refl _, ?_, fun _ => rfl, fun h1 h2 => absurd h (by simp [h1, h2])⟩
   rcases h with rfl | rfl
   ·simpa using hr2
   ·simpa using hs2
  ·have h1 : L2 ≠ [] := fun e => h (.inl e)
   have h2 : R2 ≠ [] := fun e => h (.inr e)
   obtain ⟨M2, p, q, c⟩ := ih (A ++ M1) L2 R2 C hlt2 h1 h2 (fun w hw => ht w (by
    have hp : w ∈ M1 → w ∈ L1 ++ R1 := fun h => p1.subset h
    simp at hw hp ⊢; grind)) (by simp; omega) hs2 hr2
   refine ⟨M2, p, q, fun e => absurd e h, fun _ _ => ?_⟩
   have e1 : (A ++ M1).length = mid := by simp; omega
   have e2 : (A ++ M1 ++ L2).length = e := by simp; omega
   have e3 : (A ++ M1 ++ L2 ++ R2).length = b := by simp; omega
   rw [e1, e2, e3] at c
   exact c
 have hcross1 : ∀ x ∈ L1, ∀ y ∈ R2, ¬ e6q y x := fun x hx y hy => by
  rcases f1 with (h | h) | ⟨y0, z0, g1, g2, g3⟩
  ·simp [h] at hx
  ·simp [h] at hy
  ·exact H0q hO hr2 (.inr ⟨z0, g2, a07q hO hs1 (.inr ⟨y0, g1, g3⟩) x hx⟩) y hy
 have hcross2 : ∀ x ∈ R1, ∀ y ∈ L2, ¬ e6q y x := fun x hx y hy => by
  rcases f2 with (h | h) | ⟨y0, z0, g1, g2, g3⟩
  ·simp [h] at hy
  ·simp [h] at hx
  ·exact H0q hO hs2 (.inr ⟨y0, g1, hO.asym (a0jq hO hr1 (.inr ⟨z0, g2, g3⟩) x hx)⟩) y hy
 refine ⟨M1 ++ M2, ?_, s6q.2 ⟨q1, q2, fun x hx y hy => ?_⟩, fun s21 s22 h21 => ?_⟩
 ·refine (p1.append p2).trans ?_
  have e1 : L1 ++ R1 ++ (L2 ++ R2) = L1 ++ ((R1 ++ L2) ++ R2) := by simp
  have e2 : L1 ++ L2 ++ (R1 ++ R2) = L1 ++ ((L2 ++ R1) ++ R2) := by simp
  rw [e1, e2]
  exact (List.perm_append_comm.append_right R2).append_left L1
 ·have hx := p1.subset hx
  have hy := p2.subset hy
  rcases List.mem_append.1 hx with hx | hx <;> rcases List.mem_append.1 hy with hy | hy
  ·exact hs12 x hx y hy
  ·exact hcross1 x hx y hy
  ·exact hcross2 x hx y hy
  ·exact hr12 x hx y hy
 ·subst h21
  obtain ⟨D3, hD3⟩ : ∃ D3, D3 = A ++ M1 ++ M2 ++ C := ⟨_, rfl⟩
  have eO : A ++ (M1 ++ M2) ++ C = D3 := by rw [hD3]; simp
  rw [eO]
  have hRight : ifB (decide ((mid : Int) < ((e : Nat) : Int))) (ifB (decide (((e : Nat) : Int) < (b : Int))) (∃ xs', XC pg 261 [.one (.ol 2000), Z (mid : Int), Z ((e : Nat) : Int), Z (b : Int), .one (.d (.fn 143))] [(2000, .lst 30 3 ((A ++ M1 ++ L2 ++ R2 ++ C).map (·.1)))] (.tup []) [(2000, .lst 30 3 xs')] ∧ ((AV.tup []) = .tup [] ∧ [((2000 : Nat), Ob.lst 30 3 (xs'))] = [(2000, Ob.lst 30 3 (D3.map (·.1)))])) ((AV.tup []) = .tup [] ∧ [((2000 : Nat), Ob.lst 30 3 ((A ++ M1 ++ L2 ++ R2 ++ C).map (·.1)))] = [(2000, Ob.lst 30 3 (D3.map (·.1)))])) ((AV.tup []) = .tup [] ∧ [((2000 : Nat), Ob.lst 30 3 ((A ++ M1 ++ L2 ++ R2 ++ C).map (·.1)))] = [(2000, Ob.lst 30 3 (D3.map (·.1)))]) := by
   by_cases h2 : L2 = []
   ·refine a2q (decide_eq_false (by subst h2; simp at hm; omega)) ⟨rfl, ?_⟩
    rw [hD3, z2 (.inl h2)]; simp
   ·have := List.length_pos_iff.2 h2
    refine a6q (decide_eq_true (by omega)) ?_
    by_cases h3 : R2 = []
    ·refine a2q (decide_eq_false (by subst h3; simp at hb; omega)) ⟨rfl, ?_⟩
     rw [hD3, z2 (.inr h3)]; simp
    ·have := List.length_pos_iff.2 h3
     exact a6q (decide_eq_true (by omega)) ⟨_, c2 h2 h3, rfl, by rw [hD3]⟩
  have hLeft : ifB (decide ((a : Int) < (k : Int))) (ifB (decide ((k : Int) < (mid : Int))) (∃ xs1, XC pg 261 [.one (.ol 2000), Z (a : Int), Z (k : Int), Z (mid : Int), .one (.d (.fn 143))] [(2000, .lst 30 3 ((A ++ L1 ++ R1 ++ L2 ++ R2 ++ C).map (·.1)))] (.tup []) [(2000, .lst 30 3 xs1)] ∧ ifB (decide ((mid : Int) < ((e : Nat) : Int))) (ifB (decide (((e : Nat) : Int) < (b : Int))) (∃ xs', XC pg 261 [.one (.ol 2000), Z (mid : Int), Z ((e : Nat) : Int), Z (b : Int), .one (.d (.fn 143))] [(2000, .lst 30 3 (xs1))] (.tup []) [(2000, .lst 30 3 xs')] ∧ ((AV.tup []) = .tup [] ∧ [((2000 : Nat), Ob.lst 30 3 (xs'))] = [(2000, Ob.lst 30 3 (D3.map (·.1)))])) ((AV.tup []) = .tup [] ∧ [((2000 : Nat), Ob.lst 30 3 (xs1))] = [(2000, Ob.lst 30 3 (D3.map (·.1)))])) ((AV.tup []) = .tup [] ∧ [((2000 : Nat), Ob.lst 30 3 (xs1))] = [(2000, Ob.lst 30 3 (D3.map (·.1)))])) (ifB (decide ((mid : Int) < ((e : Nat) : Int))) (ifB (decide (((e : Nat) : Int) < (b : Int))) (∃ xs', XC pg 261 [.one (.ol 2000), Z (mid : Int), Z ((e : Nat) : Int), Z (b : Int), .one (.d (.fn 143))] [(2000, .lst 30 3 ((A ++ L1 ++ R1 ++ L2 ++ R2 ++ C).map (·.1)))] (.tup []) [(2000, .lst 30 3 xs')] ∧ ((AV.tup []) = .tup [] ∧ [((2000 : Nat), Ob.lst 30 3 (xs'))] = [(2000, Ob.lst 30 3 (D3.map (·.1)))])) ((AV.tup []) = .tup [] ∧ [((2000 : Nat), Ob.lst 30 3 ((A ++ L1 ++ R1 ++ L2 ++ R2 ++ C).map (·.1)))] = [(2000, Ob.lst 30 3 (D3.map (·.1)))])) ((AV.tup []) = .tup [] ∧ [((2000 : Nat), Ob.lst 30 3 ((A ++ L1 ++ R1 ++ L2 ++ R2 ++ C).map (·.1)))] = [(2000, Ob.lst 30 3 (D3.map (·.1)))]))) (ifB (decide ((mid : Int) < ((e : Nat) : Int))) (ifB (decide (((e : Nat) : Int) < (b : Int))) (∃ xs', XC pg 261 [.one (.ol 2000), Z (mid : Int), Z ((e : Nat) : Int), Z (b : Int), .one (.d (.fn 143))] [(2000, .lst 30 3 ((A ++ L1 ++ R1 ++ L2 ++ R2 ++ C).map (·.1)))] (.tup []) [(2000, .lst 30 3 xs')] ∧ ((AV.tup []) = .tup [] ∧ [((2000 : Nat), Ob.lst 30 3 (xs'))] = [(2000, Ob.lst 30 3 (D3.map (·.1)))])) ((AV.tup []) = .tup [] ∧ [((2000 : Nat), Ob.lst 30 3 ((A ++ L1 ++ R1 ++ L2 ++ R2 ++ C).map (·.1)))] = [(2000, Ob.lst 30 3 (D3.map (·.1)))])) ((AV.tup []) = .tup [] ∧ [((2000 : Nat), Ob.lst 30 3 ((A ++ L1 ++ R1 ++ L2 ++ R2 ++ C).map (·.1)))] = [(2000, Ob.lst 30 3 (D3.map (·.1)))])) := by
   by_cases h2 : L1 = []
   ·refine a2q (decide_eq_false (by subst h2; simp at hk; omega)) ?_
    rw [z1 (.inl h2)] at hRight
    simpa using hRight
   ·have := List.length_pos_iff.2 h2
    refine a6q (decide_eq_true (by omega)) ?_
    by_cases h3 : R1 = []
    ·refine a2q (decide_eq_false (by subst h3; simp at hmid; omega)) ?_
     rw [z1 (.inr h3)] at hRight
     simpa using hRight
    ·have := List.length_pos_iff.2 h3
     exact a6q (decide_eq_true (by omega)) ⟨_, c1 h2 h3, hRight⟩
  have w : IntKind.wrap .i64 (((mid + m : Nat) : Int) - (k : Int)) = ((e : Nat) : Int) := by rw [wrI (by omega) (by omega)]; omega
  apply m5q
  rw [w]
  refine a2q (decide_eq_false (by omega)) ?_
  by_cases h2 : L2 = []
  ·refine a2q (decide_eq_false (by subst h2; simp at hm; omega)) ?_
   have e1 : A ++ L1 ++ L2 ++ R1 ++ R2 ++ C = A ++ L1 ++ R1 ++ L2 ++ R2 ++ C := by subst h2; simp
   rw [e1]
   exact hLeft
  ·have := List.length_pos_iff.2 h2
   refine a6q (decide_eq_true (by omega)) ?_
   by_cases h3 : R1 = []
   ·refine a2q (decide_eq_false (by subst h3; simp at he; omega)) ?_
    have e1 : A ++ L1 ++ L2 ++ R1 ++ R2 ++ C = A ++ L1 ++ R1 ++ L2 ++ R2 ++ C := by subst h3; simp
    rw [e1]
    exact hLeft
   ·have := List.length_pos_iff.2 h3
    have c := a7Pq (A ++ L1) L2 R1 (R2 ++ C) h2 h3 (fun w hw => ht w (by simp at hw ⊢; grind)) (by simp; omega)
    have e1 : A ++ L1 ++ L2 ++ R1 ++ (R2 ++ C) = A ++ L1 ++ L2 ++ R1 ++ R2 ++ C := by simp
    have e2 : A ++ L1 ++ R1 ++ L2 ++ (R2 ++ C) = A ++ L1 ++ R1 ++ L2 ++ R2 ++ C := by simp
    have e3 : (A ++ L1).length = k := by simp; omega
    have e4 : (A ++ L1 ++ L2).length = m := by simp; omega
    have e5 : (A ++ L1 ++ L2 ++ R1).length = e := by simp; omega
    rw [e1, e2, e3, e4, e5] at c
    exact a6q (decide_eq_true (by omega)) ⟨_, c, hLeft⟩
theorem abdq (A L R C : List (List Da × Tm)) (a m b mid lo hi : Nat) (ha : a = A.length) (hm : m = a + L.length) (hb : b = m + R.length) (hlh : lo ≤ hi) (hla : a ≤ lo) (hhm : hi ≤ m) (hc : ∀ c, lo ≤ c → c < hi → m + c ≤ mid + m - 1 ∧ mid + m - 1 - c < b) (ht : ∀ z ∈ A ++ L ++ R ++ C, TgP Tm.da z) (hl : (A ++ L ++ R ++ C).length ≤ 3000000000000) (hmid : mid ≤ 3000000000000) :
  ∃ k, lo ≤ k ∧ k ≤ hi ∧ (k = lo ∨ ∃ y z, L[k - 1 - a]? = some y ∧ R[mid + m - 1 - (k - 1) - m]? = some z ∧ ¬ e6q z y) ∧ (k = hi ∨ ¬ ∃ y z, L[k - a]? = some y ∧ R[mid + m - 1 - k - m]? = some z ∧ ¬ e6q z y) ∧
  ∀ t : AV × List (Nat × Ob), b0q t.1 t.2 (a : Int) (m : Int) (b : Int) (mid : Int) ((mid + m : Nat) : Int) (k : Int) (k : Int) ((mid + m - 1 : Nat) : Int) ((A ++ L ++ R ++ C).map (·.1)) → b0q t.1 t.2 (a : Int) (m : Int) (b : Int) (mid : Int) ((mid + m : Nat) : Int) (lo : Int) (hi : Int) ((mid + m - 1 : Nat) : Int) ((A ++ L ++ R ++ C).map (·.1)) := by
 have hl' : A.length + L.length + R.length + C.length ≤ 3000000000000 := by simp at hl; omega
 have hlen : ((A ++ L ++ R ++ C).map (·.1)).length = A.length + L.length + R.length + C.length := by simp; omega
 refine X0q (ι := AV × List (Nat × Ob)) (p := fun t i j => b0q t.1 t.2 (a : Int) (m : Int) (b : Int) (mid : Int) ((mid + m : Nat) : Int) (i : Int) (j : Int) ((mid + m - 1 : Nat) : Int) ((A ++ L ++ R ++ C).map (·.1))) (ex := fun t i => b0q t.1 t.2 (a : Int) (m : Int) (b : Int) (mid : Int) ((mid + m : Nat) : Int) (i : Int) (i : Int) ((mid + m - 1 : Nat) : Int) ((A ++ L ++ R ++ C).map (·.1)))
  (fun c => ∃ y z, L[c - a]? = some y ∧ R[mid + m - 1 - c - m]? = some z ∧ ¬ e6q z y) lo hi (fun t i _ _ h => h) (fun t i j h1 h2 h3 => ?_) (hi - lo) lo hi (Nat.le_refl _) (Nat.le_refl _) hlh (Nat.le_refl _) (.inl rfl) (.inl rfl)
 obtain ⟨hc1, hc2⟩ := hc ((i + j) / 2) (by omega) (by omega)
 obtain ⟨y, hy⟩ := d0q (l := L) (i := (i + j) / 2 - a) (by omega)
 obtain ⟨z, hz⟩ := d0q (l := R) (i := mid + m - 1 - (i + j) / 2 - m) (by omega)
 have hym := List.mem_of_getElem? hy
 have hzm := List.mem_of_getElem? hz
 have hcmp := a3hq (ht z (by simp [hzm])) (ht y (by simp [hym]))
 have gy := x3q (fun z : List Da × Tm => z.1) (P := A) (Q := R ++ C) hy
 have gz := x3q (fun z : List Da × Tm => z.1) (P := A ++ L) (Q := C) hz
 have eh : A.length + ((i + j) / 2 - a) = (i + j) / 2 := by omega
 have eg : (A ++ L).length + (mid + m - 1 - (i + j) / 2 - m) = mid + m - 1 - (i + j) / 2 := by simp; omega
 have eD : A ++ L ++ (R ++ C) = A ++ L ++ R ++ C := by simp
 rw [eh, eD] at gy
 rw [eg] at gz
 obtain ⟨_, _, _, ez⟩ := (ht z (by simp [hzm])).term
 obtain ⟨_, _, _, ey⟩ := (ht y (by simp [hym])).term
 have core : (¬ e6q z y → b0q t.1 t.2 (a : Int) (m : Int) (b : Int) (mid : Int) ((mid + m : Nat) : Int) (((i + j) / 2 + 1 : Nat) : Int) (j : Int) ((mid + m - 1 : Nat) : Int) ((A ++ L ++ R ++ C).map (·.1))) → (e6q z y → b0q t.1 t.2 (a : Int) (m : Int) (b : Int) (mid : Int) ((mid + m : Nat) : Int) (i : Int) (((i + j) / 2 : Nat) : Int) ((mid + m - 1 : Nat) : Int) ((A ++ L ++ R ++ C).map (·.1))) → b0q t.1 t.2 (a : Int) (m : Int) (b : Int) (mid : Int) ((mid + m : Nat) : Int) (i : Int) (j : Int) ((mid + m - 1 : Nat) : Int) ((A ++ L ++ R ++ C).map (·.1)) := by
  intro c1 c2
  have w1 : IntKind.wrap .i64 ((((i + j) / 2 : Nat) : Int) + 1) = (((i + j) / 2 + 1 : Nat) : Int) := by rw [wrI (by omega) (by omega)]; simp
  have w2 : IntKind.wrap .i64 (((mid + m - 1 : Nat) : Int) - (((i + j) / 2 : Nat) : Int)) = ((mid + m - 1 - (i + j) / 2 : Nat) : Int) := by rw [wrI (by omega) (by omega)]; omega
  rw [ez] at gz hcmp
  rw [ey] at gy hcmp
  apply m5q
  rw [midw (by omega), w1, w2]
  refine a6q (decide_eq_true (by omega)) ⟨⟨F3q⟩, _, rfl, ⟨by rw [hlen]; omega⟩, _, rfl, _, _, _, gz, _, rfl, ⟨by rw [hlen]; omega⟩, _, rfl, _, _, _, gy, _, hcmp, ?_⟩
  by_cases hlt : e6q z y
  ·exact a2q (by rw [decide_eq_true (show Tm.cmp z.2 y.2 < 0 from hlt)]; rfl) (c2 hlt)
  ·exact a6q (by rw [decide_eq_false (show ¬ Tm.cmp z.2 y.2 < 0 from hlt)]; rfl) (c1 hlt)
 refine ⟨fun hf hp => core (fun _ => hp) fun hn => ?_, fun hn hp => core (fun hlt => absurd ⟨y, z, hy, hz, hlt⟩ hn) fun _ => hp⟩
 obtain ⟨y', z', hy', hz', hlt⟩ := hf
 rw [hy] at hy'
 rw [hz] at hz'
 cases hy'
 cases hz'
 exact absurd hn hlt
theorem a0sq (hO : SWO e6q) : ∀ (n : Nat) (A L R C : List (List Da × Tm)), (L ++ R).length ≤ n → L ≠ [] → R ≠ [] → (∀ z ∈ A ++ L ++ R ++ C, TgP Tm.da z) → (A ++ L ++ R ++ C).length ≤ 3000000000000 → Sd e6q L → Sd e6q R → ∃ M, M.Perm (L ++ R) ∧ Sd e6q M ∧ XC pg 261 [.one (.ol 2000), Z (A.length : Int), Z ((A ++ L).length : Int), Z ((A ++ L ++ R).length : Int), .one (.d (.fn 143))] [(2000, .lst 30 3 ((A ++ L ++ R ++ C).map (·.1)))] (.tup []) [(2000, .lst 30 3 ((A ++ M ++ C).map (·.1)))] := by
 intro n
 induction n with
 | zero =>
  intro A L R C hn hL _ _ _ _ _
  exact absurd (List.eq_nil_of_length_eq_zero (by simp at hn; simp [hn])) hL
 | succ n ih =>
  intro A L R C hn hL hR ht hl hsL hsR
  have hL' := List.length_pos_iff.2 hL
  have hR' := List.length_pos_iff.2 hR
  have hl' : A.length + L.length + R.length + C.length ≤ 3000000000000 := by simp at hl; omega
  have hn' : L.length + R.length ≤ n + 1 := by simpa using hn
  have em : (A ++ L).length = A.length + L.length := by simp
  have eb : (A ++ L ++ R).length = A.length + L.length + R.length := by simp; omega
  have w1 : IntKind.wrap .i64 (((A.length + L.length : Nat) : Int) - (A.length : Int)) = (L.length : Int) := by rw [wrI (by omega) (by omega)]; omega
  have w2 : IntKind.wrap .i64 (((A.length + L.length + R.length : Nat) : Int) - ((A.length + L.length : Nat) : Int)) = (R.length : Int) := by rw [wrI (by omega) (by omega)]; omega
  rw [em, eb]
  by_cases h1 : L.length = 1
  ·obtain ⟨x, rfl⟩ : ∃ x, L = [x] := List.length_eq_one_iff.1 h1
   obtain ⟨M, p1, p2, p3⟩ := aeLq hO A R C x (by simpa using ht) (by simpa using hl) hsR
   refine ⟨M, p1, p2, ?_⟩
   apply h8q
   rw [w1]
   refine a6q (decide_eq_true (by omega)) ?_
   have e1 : A ++ [x] ++ R ++ C = A ++ x :: R ++ C := by simp
   rw [e1]
   exact p3
  ·by_cases h2 : R.length = 1
   ·obtain ⟨x, rfl⟩ : ∃ x, R = [x] := List.length_eq_one_iff.1 h2
    obtain ⟨M, p1, p2, p3⟩ := adAq hO A L C x (by simpa using ht) (by simpa using hl) hsL
    refine ⟨M, p1, p2, ?_⟩
    apply h8q
    rw [w1, w2]
    refine a2q (decide_eq_false (by omega)) (a6q (decide_eq_true (by omega)) ?_)
    have e1 : A ++ L ++ [x] ++ C = A ++ L ++ x :: C := by simp
    rw [e1]
    exact p3
   ·obtain ⟨a, ha⟩ : ∃ a, a = A.length := ⟨_, rfl⟩
    obtain ⟨m, hm⟩ : ∃ m, m = a + L.length := ⟨_, rfl⟩
    obtain ⟨b, hb⟩ : ∃ b, b = m + R.length := ⟨_, rfl⟩
    rw [← ha, ← hm] at w1
    rw [← ha, ← hm, ← hb] at w2 ⊢
    obtain ⟨mid, hmid⟩ : ∃ mid, mid = (a + b) / 2 := ⟨_, rfl⟩
    have wm : IntKind.wrap .i64 (((mid : Nat) : Int) + (m : Int)) = ((mid + m : Nat) : Int) := by rw [wrI (by omega) (by omega)]; simp
    have wp : IntKind.wrap .i64 (((mid + m : Nat) : Int) - 1) = ((mid + m - 1 : Nat) : Int) := by rw [wrI (by omega) (by omega)]; omega
    have hcases : ∃ lo hi, lo ≤ hi ∧ a ≤ lo ∧ hi ≤ m ∧ hi ≤ mid ∧ mid + m ≤ b + lo ∧ (∀ c, lo ≤ c → c < hi → m + c ≤ mid + m - 1 ∧ mid + m - 1 - c < b) ∧ (lo = a ∨ mid + m = b + lo) ∧ (hi = m ∨ hi = mid) ∧
      ∀ (r : AV) (O : List (Nat × Ob)), b0q r O (a : Int) (m : Int) (b : Int) (mid : Int) ((mid + m : Nat) : Int) (lo : Int) (hi : Int) ((mid + m - 1 : Nat) : Int) ((A ++ L ++ R ++ C).map (·.1)) → XC pg 261 [.one (.ol 2000), Z (a : Int), Z (m : Int), Z (b : Int), .one (.d (.fn 143))] [(2000, .lst 30 3 ((A ++ L ++ R ++ C).map (·.1)))] r O := by
     by_cases hgt : mid < m
     ·refine ⟨mid + m - b, mid, by omega, by omega, by omega, by omega, by omega, fun c h1 h2 => by omega, by omega, .inr rfl, fun r O h => ?_⟩
      have w3 : IntKind.wrap .i64 (((mid + m : Nat) : Int) - (b : Int)) = ((mid + m - b : Nat) : Int) := by rw [wrI (by omega) (by omega)]; omega
      apply h8q
      rw [w1, w2, midw (by omega), ← hmid, wm, wp, w3]
      exact a2q (decide_eq_false (by omega)) (a2q (decide_eq_false (by omega)) ⟨⟨F3q⟩, a6q (decide_eq_true (by omega)) h⟩)
     ·refine ⟨a, m, by omega, by omega, by omega, by omega, by omega, fun c h1 h2 => by omega, .inl rfl, .inl rfl, fun r O h => ?_⟩
      apply h8q
      rw [w1, w2, midw (by omega), ← hmid, wm, wp]
      exact a2q (decide_eq_false (by omega)) (a2q (decide_eq_false (by omega)) ⟨⟨F3q⟩, a2q (decide_eq_false (by omega)) h⟩)
    obtain ⟨lo, hi, c1, c2, c3, c4, c5, c6, c7, c8, c9⟩ := hcases
    obtain ⟨k, k1, k2, k3, k4, k5⟩ := abdq A L R C a m b mid lo hi ha hm hb c1 c2 c3 c6 ht hl (by omega)
    obtain ⟨L1, L2, rfl, hL1⟩ : ∃ L1 L2, L = L1 ++ L2 ∧ L1.length = k - a := ⟨L.take (k - a), L.drop (k - a), by simp, by simp; omega⟩
    obtain ⟨R1, R2, rfl, hR1⟩ : ∃ R1 R2, R = R1 ++ R2 ∧ R1.length = mid - k := ⟨R.take (mid - k), R.drop (mid - k), by simp, by simp; omega⟩
    rw [List.length_append] at hm hb
    have f1 : (L1 = [] ∨ R2 = []) ∨ ∃ y0 z0, L1[L1.length - 1]? = some y0 ∧ R2[0]? = some z0 ∧ ¬ e6q z0 y0 := by
     by_cases hk0 : k = lo
     ·left
      rcases c7 with h | h
      ·exact .inl (List.eq_nil_of_length_eq_zero (by omega))
      ·exact .inr (List.eq_nil_of_length_eq_zero (by omega))
     ·right
      rcases k3 with h | ⟨y, z, hy, hz, hlt⟩
      ·exact absurd h hk0
      ·refine ⟨y, z, ?_, ?_, hlt⟩
       ·rw [← hy, List.getElem?_append_left (by omega)]; congr 1; omega
       ·rw [← hz, List.getElem?_append_right (by omega)]; congr 1; omega
    have f2 : (L2 = [] ∨ R1 = []) ∨ ∃ y0 z0, L2[0]? = some y0 ∧ R1[R1.length - 1]? = some z0 ∧ e6q z0 y0 := by
     by_cases hk0 : k = hi
     ·left
      rcases c8 with h | h
      ·exact .inl (List.eq_nil_of_length_eq_zero (by omega))
      ·exact .inr (List.eq_nil_of_length_eq_zero (by omega))
     ·right
      have hc := c6 k k1 (by omega)
      obtain ⟨y, hy⟩ := d0q (l := L2) (i := 0) (by omega)
      obtain ⟨z, hz⟩ := d0q (l := R1) (i := R1.length - 1) (by omega)
      refine ⟨y, z, hy, hz, Classical.byContradiction fun hlt => ?_⟩
      rcases k4 with h | h
      ·exact hk0 h
      ·refine h ⟨y, z, ?_, ?_, hlt⟩
       ·rw [← hy, List.getElem?_append_right (by omega)]; congr 1; omega
       ·rw [← hz, List.getElem?_append_left (by omega)]; congr 1; omega
    have eD : A ++ (L1 ++ L2) ++ (R1 ++ R2) ++ C = A ++ L1 ++ L2 ++ R1 ++ R2 ++ C := by simp
    have hfacts : k = a + L1.length ∧ m = k + L2.length ∧ b = m + R1.length + R2.length ∧ mid = k + R1.length := by
     clear c7 c8 c9 k3 k4 k5 f1 f2 c6 w1 w2 wm wp ih ht hl
     omega
    have hsz : mid < b ∧ a < mid := by
     clear c7 c8 c9 k3 k4 k5 f1 f2 c6 w1 w2 wm wp ih ht hl
     simp only [List.length_append] at h1 h2 hL' hR'
     omega
    have hsum : (L1 ++ L2 ++ R1 ++ R2).length = L1.length + L2.length + R1.length + R2.length := by simp; omega
    have hs1 : (L1 ++ R1).length < (L1 ++ L2 ++ R1 ++ R2).length := by
     clear c7 c8 c9 k3 k4 k5 f1 f2 c6 w1 w2 wm wp ih ht hl
     rw [hsum, List.length_append]; omega
    have hs2 : (L2 ++ R2).length < (L1 ++ L2 ++ R1 ++ R2).length := by
     clear c7 c8 c9 k3 k4 k5 f1 f2 c6 w1 w2 wm wp ih ht hl
     rw [hsum, List.length_append]; omega
    have hn2 : (L1 ++ L2 ++ R1 ++ R2).length ≤ n + 1 := by
     rw [hsum]; simp only [List.length_append] at hn'; omega
    obtain ⟨g1, g2, g3, g4⟩ := hfacts
    obtain ⟨M, p1, p2, p3⟩ := aeHq hO A L1 L2 R1 R2 C a m b mid k (m + R1.length) ha g1 g2 rfl g3 g4 (by rw [← eD]; exact ht) (by rw [← eD]; exact hl) hsL hsR f1 f2 (fun A' L' R' C' hlt h1 h2 h3 h4 h5 h6 => ih A' L' R' C' (Nat.le_of_lt_succ (Nat.lt_of_lt_of_le hlt hn2)) h1 h2 h3 h4 h5 h6) hs1 hs2
    refine ⟨M, p1, p2, c9 _ _ (k5 (_, _) ?_)⟩
    rw [eD]
    exact p3 _ _ rfl
inductive P6q (k : Nat) : List (List Da × Tm) → Prop
 | last {l} : l.length ≤ k → Sd e6q l → P6q k l
 | cons {b r} : b.length = k → Sd e6q b → P6q k r → P6q k (b ++ r)
theorem a1Uq {k : Nat} (hk : 0 < k) {l : List (List Da × Tm)} (h : P6q k l) (hl : l.length ≤ k) : Sd e6q l := by
 cases h with
 | last _ h => exact h
 | @cons b r h1 h2 _ =>
  have : r = [] := List.eq_nil_of_length_eq_zero (by simp at hl; omega)
  subst this
  simpa using h2
theorem ab8q (hO : SWO e6q) (k : Nat) (hk : 0 < k) (hk2 : k ≤ 6000000000000) : ∀ (n : Nat) (D S : List (List Da × Tm)), S.length ≤ n → (∀ z ∈ D ++ S, TgP Tm.da z) → (D ++ S).length ≤ 3000000000000 → P6q k S → ∃ S', S'.Perm S ∧ P6q (2 * k) S' ∧ ∀ (r : AV) (O : List (Nat × Ob)), c8q r O ((D ++ S).length : Int) ((2 * k : Nat) : Int) ((D ++ S').map (·.1)) → g0q r O ((D ++ S).length : Int) (k : Int) (D.length : Int) ((D.length + 2 * k : Nat) : Int) ((D ++ S).map (·.1)) := by
 intro n
 induction n with
 | zero =>
  intro D S hn ht hl hb
  have : S = [] := List.eq_nil_of_length_eq_zero (by omega)
  subst this
  refine ⟨[], .refl _, .last (by simp) .nil, fun r O h => ?_⟩
  have w1 : IntKind.wrap .i64 ((D.length : Int) + (k : Int)) = ((D.length + k : Nat) : Int) := by rw [wrI (by omega) (by simp at hl; omega)]; simp
  have w2 : IntKind.wrap .i64 ((k : Int) * 2) = ((2 * k : Nat) : Int) := by rw [wrI (by omega) (by omega)]; omega
  apply h4q
  rw [w1, w2]
  exact a2q (decide_eq_false (by simp; omega)) (a2q (decide_eq_false (by simp; omega)) h)
 | succ n ih =>
  intro D S hn ht hl hb
  have hl' : D.length + S.length ≤ 3000000000000 := by simpa using hl
  have hlen : (D ++ S).length = D.length + S.length := by simp
  have w1 : IntKind.wrap .i64 ((D.length : Int) + (k : Int)) = ((D.length + k : Nat) : Int) := by rw [wrI (by omega) (by omega)]; simp
  have w2 : IntKind.wrap .i64 ((k : Int) * 2) = ((2 * k : Nat) : Int) := by rw [wrI (by omega) (by omega)]; omega
  have w3 : IntKind.wrap .i64 (2 * (k : Int)) = ((2 * k : Nat) : Int) := by rw [wrI (by omega) (by omega)]; omega
  have w4 : IntKind.wrap .i64 (((D.length + 2 * k : Nat) : Int) + ((2 * k : Nat) : Int)) = ((D.length + 2 * k + 2 * k : Nat) : Int) := by rw [wrI (by omega) (by omega)]; omega
  by_cases h1 : S.length ≤ k
  ·refine ⟨S, .refl _, .last (by omega) (a1Uq hk hb h1), fun r O h => ?_⟩
   apply h4q
   rw [w1, w2]
   exact a2q (decide_eq_false (by omega)) (a2q (decide_eq_false (by omega)) h)
  ·obtain ⟨b1, S1, rfl, hb1, hs1, hb2⟩ : ∃ b1 S1, S = b1 ++ S1 ∧ b1.length = k ∧ Sd e6q b1 ∧ P6q k S1 := by
    cases hb with
    | last h _ => exact absurd h h1
    | cons h2 h3 h4 => exact ⟨_, _, rfl, h2, h3, h4⟩
   simp only [List.length_append] at h1 hn hl'
   have hlen : (D ++ (b1 ++ S1)).length = D.length + (b1.length + S1.length) := by simp
   by_cases h2 : S1.length < k
   ·have hs2 := a1Uq hk hb2 (by omega)
    obtain ⟨M, p1, p2, p3⟩ := a0sq hO _ D b1 S1 [] (Nat.le_refl _) (by intro h; subst h; simp at hb1; omega) (by intro h; subst h; simp at h1; omega) (by simpa using ht) (by simpa using hl) hs1 hs2
    refine ⟨M, p1, .last (by rw [p1.length_eq]; simp; omega) p2, fun r O h => ?_⟩
    apply h4q
    rw [w1, w2]
    have e1 : (D ++ b1).length = D.length + k := by simp [hb1]
    have e2 : (D ++ b1 ++ S1).length = (D ++ (b1 ++ S1)).length := by simp <;> omega
    have e3 : D ++ b1 ++ S1 ++ [] = D ++ (b1 ++ S1) := by simp
    rw [e1, e2, e3, List.append_nil] at p3
    exact a2q (decide_eq_false (by omega)) (a6q (decide_eq_true (by omega)) ⟨_, p3, h⟩)
   ·obtain ⟨b2, S2, rfl, hb2l, hs2, hb3⟩ : ∃ b2 S2, S1 = b2 ++ S2 ∧ b2.length = k ∧ Sd e6q b2 ∧ P6q k S2 := by
     cases hb2 with
     | last g g' => exact ⟨_, [], by simp, by omega, g', .last (by simp) .nil⟩
     | cons g2 g3 g4 => exact ⟨_, _, rfl, g2, g3, g4⟩
    simp only [List.length_append] at h1 h2 hn hl'
    have hlen : (D ++ (b1 ++ (b2 ++ S2))).length = D.length + (b1.length + (b2.length + S2.length)) := by simp
    obtain ⟨M, p1, p2, p3⟩ := a0sq hO _ D b1 b2 S2 (Nat.le_refl _) (by intro h; subst h; simp at hb1; omega) (by intro h; subst h; simp at hb2l; omega) (by simpa using ht) (by simpa using hl) hs1 hs2
    have pl := p1.length_eq
    simp only [List.length_append] at pl
    obtain ⟨S', q1, q2, q3⟩ := ih (D ++ M) S2 (by omega) (fun w hw => ht w (by
     have hp : w ∈ M → w ∈ b1 ++ b2 := fun h => p1.subset h
     simp at hw hp ⊢; grind)) (by simp; omega) hb3
    refine ⟨M ++ S', ?_, .cons (by omega) p2 q2, fun r O h => ?_⟩
    ·have := (p1.append q1)
     simpa using this
    ·have e4 : D ++ M ++ S' = D ++ (M ++ S') := by simp
     have e5 : (D ++ M ++ S2).length = (D ++ (b1 ++ (b2 ++ S2))).length := by simp; omega
     have e6 : (D ++ M).length = D.length + 2 * k := by simp; omega
     have h5 := q3 r O
     rw [e4, e5, e6] at h5
     have e1 : (D ++ b1).length = D.length + k := by simp [hb1]
     have e2 : (D ++ b1 ++ b2).length = D.length + 2 * k := by simp; omega
     have e3 : D ++ b1 ++ b2 ++ S2 = D ++ (b1 ++ (b2 ++ S2)) := by simp
     rw [e1, e2, e3] at p3
     apply h4q
     rw [w1, w3, w4]
     exact a6q (decide_eq_true (by omega)) ⟨_, p3, h5 h⟩
theorem aazq (hO : SWO e6q) : ∀ (n k : Nat) (S : List (List Da × Tm)), S.length ≤ n + k → 0 < k → k ≤ 6000000000000 → (∀ z ∈ S, TgP Tm.da z) → S.length ≤ 3000000000000 → P6q k S → ∃ S', S'.Perm S ∧ Sd e6q S' ∧ c8q (.tup []) [(2000, .lst 30 3 ((S').map (·.1)))] (S.length : Int) (k : Int) (S.map (·.1)) := by
 intro n
 induction n with
 | zero =>
  intro k S hn hk hk2 ht hl hb
  refine ⟨S, .refl _, a1Uq hk hb (by omega), ?_⟩
  apply j3q
  exact a2q (decide_eq_false (by omega)) ⟨rfl, rfl⟩
 | succ n ih =>
  intro k S hn hk hk2 ht hl hb
  by_cases h : S.length ≤ k
  ·refine ⟨S, .refl _, a1Uq hk hb h, ?_⟩
   apply j3q
   exact a2q (decide_eq_false (by omega)) ⟨rfl, rfl⟩
  ·obtain ⟨S1, p1, p2, p3⟩ := ab8q hO k hk hk2 S.length [] S (Nat.le_refl _) (by simpa using ht) (by simpa using hl) hb
   have pl := p1.length_eq
   obtain ⟨S', q1, q2, q3⟩ := ih (2 * k) S1 (by omega) (by omega) (by omega) (fun z hz => ht z (p1.subset hz)) (by omega) p2
   refine ⟨S', q1.trans p1, q2, ?_⟩
   have w3 : IntKind.wrap .i64 (2 * (k : Int)) = ((2 * k : Nat) : Int) := by rw [wrI (by omega) (by omega)]; omega
   have h5 := p3 (.tup []) [(2000, .lst 30 3 ((S').map (·.1)))]
   simp only [List.nil_append, List.length_nil, Nat.zero_add] at h5
   rw [pl] at q3
   apply j3q
   rw [w3]
   exact a6q (decide_eq_true (by omega)) (h5 q3)
theorem a6qq (hO : SWO e6q) : ∀ (n : Nat) (D S : List (List Da × Tm)), S.length ≤ n → (∀ z ∈ D ++ S, TgP Tm.da z) → (D ++ S).length ≤ 3000000000000 → ∃ S', S'.Perm S ∧ P6q 20 S' ∧ ∀ (r : AV) (O : List (Nat × Ob)), c8q r O ((D ++ S).length : Int) 20 ((D ++ S').map (·.1)) → g1q r O ((D ++ S).length : Int) 20 (D.length : Int) ((D.length + 20 : Nat) : Int) ((D ++ S).map (·.1)) := by
 intro n
 induction n with
 | zero =>
  intro D S hn ht hl
  have : S = [] := List.eq_nil_of_length_eq_zero (by omega)
  subst this
  obtain ⟨M, p1, p2, p3⟩ := S9q hO D [] [] (by simpa using ht) (by simpa using hl)
  have : M = [] := List.eq_nil_of_length_eq_zero (by rw [p1.length_eq]; rfl)
  subst this
  refine ⟨[], .refl _, .last (by simp) .nil, fun r O h => ?_⟩
  simp only [List.append_nil] at p3 h ⊢
  apply j4q
  exact a2q (decide_eq_false (by omega)) ⟨_, p3, h⟩
 | succ n ih =>
  intro D S hn ht hl
  have hl' : D.length + S.length ≤ 3000000000000 := by simpa using hl
  have hlen : (D ++ S).length = D.length + S.length := by simp
  by_cases h1 : S.length < 20
  ·obtain ⟨M, p1, p2, p3⟩ := S9q hO D S [] (by simpa using ht) (by simpa using hl)
   refine ⟨M, p1, .last (by rw [p1.length_eq]; omega) p2, fun r O h => ?_⟩
   apply j4q
   rw [List.append_nil, List.append_nil] at p3
   exact a2q (decide_eq_false (by omega)) ⟨_, p3, h⟩
  ·obtain ⟨b, S2, rfl, hb⟩ : ∃ b S2, S = b ++ S2 ∧ b.length = 20 := ⟨S.take 20, S.drop 20, by simp, by simp; omega⟩
   simp only [List.length_append] at h1 hn hl'
   have hlen : (D ++ (b ++ S2)).length = D.length + (b.length + S2.length) := by simp
   obtain ⟨M, p1, p2, p3⟩ := S9q hO D b S2 (by simpa using ht) (by simpa using hl)
   have pl := p1.length_eq
   obtain ⟨S', q1, q2, q3⟩ := ih (D ++ M) S2 (by omega) (fun w hw => ht w (by
    have hp : w ∈ M → w ∈ b := fun h => p1.subset h
    simp at hw hp ⊢; grind)) (by simp; omega)
   refine ⟨M ++ S', p1.append q1, .cons (by omega) p2 q2, fun r O h => ?_⟩
   have e4 : D ++ M ++ S' = D ++ (M ++ S') := by simp
   have e5 : (D ++ M ++ S2).length = (D ++ (b ++ S2)).length := by simp; omega
   have e6 : (D ++ M).length = D.length + 20 := by simp; omega
   have h5 := q3 r O
   rw [e4, e5, e6] at h5
   have e1 : (D ++ b).length = D.length + 20 := by simp [hb]
   have e3 : D ++ b ++ S2 = D ++ (b ++ S2) := by simp
   have w4 : IntKind.wrap .i64 (((D.length + 20 : Nat) : Int) + 20) = ((D.length + 20 + 20 : Nat) : Int) := by rw [wrI (by omega) (by omega)]; omega
   rw [e1, e3] at p3
   apply j4q
   rw [w4]
   exact a6q (decide_eq_true (by omega)) ⟨_, p3, h5 h⟩
theorem aaUq (hO : SWO e6q) (S : List (List Da × Tm)) (ht : ∀ z ∈ S, TgP Tm.da z) (hl : S.length ≤ 3000000000000) : ∃ S', S'.Perm S ∧ Sd e6q S' ∧ XC pg 201 [.one (.ol 2000), .one (.d (.fn 143))] [(2000, .lst 30 3 ((S).map (·.1)))] (.tup []) [(2000, .lst 30 3 ((S').map (·.1)))] := by
 obtain ⟨S1, p1, p2, p3⟩ := a6qq hO S.length [] S (Nat.le_refl _) (by simpa using ht) (by simpa using hl)
 have pl := p1.length_eq
 obtain ⟨S', q1, q2, q3⟩ := aazq hO S.length 20 S1 (by omega) (by omega) (by omega) (fun z hz => ht z (p1.subset hz)) (by omega) p2
 refine ⟨S', q1.trans p1, q2, ?_⟩
 have h5 := p3 (.tup []) [(2000, .lst 30 3 ((S').map (·.1)))]
 simp only [List.nil_append, List.length_nil, Nat.zero_add] at h5
 rw [pl] at q3
 apply y1q
 refine ⟨_, z7q ?_, rfl, rfl⟩
 rw [List.length_map]
 exact h5 q3
def e5q (a b : List Da × Li) : Prop := Li.cmp a.2 b.2 < 0
instance (a b : List Da × Li) : Decidable (e5q a b) := inferInstanceAs (Decidable (_ < _))
theorem a3mq {z w : List Da × Li} (hz : TgP Li.da z) (hw : TgP Li.da w) : XC pg 135 [.dat z.1, .dat w.1] [] (Z (Li.cmp z.2 w.2)) [] := XC.ut (by
 show XC _ _ [.dat (Da.utL z.1), .dat (Da.utL w.1)] _ _ _
 rw [hz.ut Li.ut_da, hw.ut Li.ut_da]; exact G6q _ _)
theorem Y1q (A Y C : List (List Da × Li)) : ∀ (X2 Z2 Z1 X1 : List (List Da × Li)), (∀ z ∈ A ++ Z1 ++ X2 ++ Y ++ X1 ++ Z2 ++ C, TgP Li.da z) → X2.length = Z2.length → X1.length = Z1.length → (A ++ Z1 ++ X2 ++ Y ++ X1 ++ Z2 ++ C).length ≤ 3000000000000 →
  e7q (.tup []) [(2000, .lst 85 7 ((A ++ Z1 ++ Z2 ++ Y ++ X1 ++ X2 ++ C).map (·.1)))] (A.length : Int) ((A ++ Z1 ++ X2 ++ Y).length : Int) ((Z1 ++ X2).length : Int) (Z1.length : Int) ((A ++ Z1 ++ X2 ++ Y ++ X1 ++ Z2 ++ C).map (·.1))
 | [], Z2, Z1, X1, ht, h1, h2, hl => by
  have : Z2 = [] := List.eq_nil_of_length_eq_zero h1.symm
  subst this
  apply l0q
  exact a2q (decide_eq_false (by simp)) ⟨rfl, by simp⟩
 | x :: X2, [], Z1, X1, ht, h1, h2, hl => by simp at h1
 | x :: X2, z :: Z2, Z1, X1, ht, h1, h2, hl => by
  have hl' : A.length + Z1.length + X2.length + Y.length + X1.length + Z2.length + C.length + 2 ≤ 3000000000000 := by simp at hl; omega
  have ih := Y1q A Y C X2 Z2 (Z1 ++ [z]) (X1 ++ [x]) (fun w hw => ht w (by simp at hw ⊢; grind)) (by simpa using h1) (by simp [h2]) (by simp; omega)
  obtain ⟨_, _, _, _, _, _, _, ex⟩ := (ht x (by simp)).lit
  obtain ⟨_, _, _, _, _, _, _, ez⟩ := (ht z (by simp)).lit
  have eD : A ++ Z1 ++ x :: X2 ++ Y ++ X1 ++ z :: Z2 ++ C = (A ++ Z1) ++ x :: (X2 ++ Y ++ X1) ++ z :: (Z2 ++ C) := by simp
  have eD2 : (A ++ Z1) ++ z :: (X2 ++ Y ++ X1) ++ x :: (Z2 ++ C) = A ++ (Z1 ++ [z]) ++ X2 ++ Y ++ (X1 ++ [x]) ++ Z2 ++ C := by simp
  have eR : A ++ (Z1 ++ [z]) ++ Z2 ++ Y ++ (X1 ++ [x]) ++ X2 ++ C = A ++ Z1 ++ z :: Z2 ++ Y ++ X1 ++ x :: X2 ++ C := by simp
  have en : ((Z1 ++ [z]) ++ X2).length = (Z1 ++ x :: X2).length := by simp
  have eb : (A ++ (Z1 ++ [z]) ++ X2 ++ Y).length = (A ++ Z1 ++ x :: X2 ++ Y).length := by simp
  have ei : (Z1 ++ [z]).length = Z1.length + 1 := by simp
  have w1 : IntKind.wrap .i64 (((A ++ Z1 ++ x :: X2 ++ Y).length : Int) + (Z1.length : Int)) = (((A ++ Z1).length + 1 + (X2 ++ Y ++ X1).length : Nat) : Int) := by
   rw [wrI (by omega) (by simp; omega)]; simp; omega
  have w2 : IntKind.wrap .i64 ((A.length : Int) + (Z1.length : Int)) = (((A ++ Z1).length : Nat) : Int) := by
   rw [wrI (by omega) (by omega)]; simp
  have w3 : IntKind.wrap .i64 ((Z1.length : Int) + 1) = ((Z1.length + 1 : Nat) : Int) := by
   rw [wrI (by omega) (by omega)]; simp
  rw [en, eb, ei, ← eD2, eR, ← a0Wq] at ih
  rw [eD]
  have g1 := P8q (fun z : List Da × Li => z.1) (P := A ++ Z1) (M := X2 ++ Y ++ X1) (Q := Z2 ++ C) (a := x) (b := z)
  have g2 := Q5q (fun z : List Da × Li => z.1) (P := A ++ Z1) (M := X2 ++ Y ++ X1) (Q := Z2 ++ C) (a := x) (b := z)
  have l1 := z9q (fun z : List Da × Li => z.1) (A ++ Z1) (X2 ++ Y ++ X1) (Z2 ++ C) x z
  have g3 : ((((A ++ Z1) ++ x :: (X2 ++ Y ++ X1) ++ z :: (Z2 ++ C)).map (·.1)).set (A ++ Z1).length z.1)[(A ++ Z1).length + 1 + (X2 ++ Y ++ X1).length]? = some z.1 := by
   rw [List.getElem?_set_ne (by omega)]; exact g1
  rw [ex] at g2 ih
  rw [ez] at g1 g3 ih
  apply l0q
  rw [w1, w2, w3]
  refine a6q (decide_eq_true (by simp; omega)) ⟨_, rfl, ⟨by rw [l1]; omega⟩, _, rfl, _, _, _, _, _, _, _, g1, _, rfl, ⟨by rw [l1]; omega⟩, _, rfl, _, _, _, _, _, _, _, g2, _, rfl, ⟨by rw [l1]; omega⟩, _, rfl, _, _, _, _, _, _, _, g2, _, rfl, ⟨by rw [List.length_set, l1]; omega⟩, _, rfl, _, _, _, _, _, _, _, g3, ih⟩
theorem G7q (A U Y V C : List (List Da × Li)) (ht : ∀ z ∈ A ++ U ++ Y ++ V ++ C, TgP Li.da z) (h : U.length = V.length) (hl : (A ++ U ++ Y ++ V ++ C).length ≤ 3000000000000) : XC pg 274 [.one (.ol 2000), Z (A.length : Int), Z ((A ++ U ++ Y).length : Int), Z (U.length : Int), .one (.d (.fn 135))] [(2000, .lst 85 7 ((A ++ U ++ Y ++ V ++ C).map (·.1)))] (.tup []) [(2000, .lst 85 7 ((A ++ V ++ Y ++ U ++ C).map (·.1)))] := by
 apply v4q
 have := Y1q A Y C U V [] [] (by simpa using ht) h rfl (by simpa using hl)
 simpa using this
theorem a8wq (T : List (List Da × Li)) : ∀ (n : Nat) (A U V C : List (List Da × Li)), U.length + V.length ≤ n → U ≠ [] → V ≠ [] → (∀ z ∈ A ++ U ++ V ++ C, TgP Li.da z) → (A ++ U ++ V ++ C).length ≤ 3000000000000 → A ++ V ++ U ++ C = T → d8q (.tup []) [(2000, .lst 85 7 ((T).map (·.1)))] ((A ++ U).length : Int) (U.length : Int) (V.length : Int) ((A ++ U ++ V ++ C).map (·.1)) := by
 intro n
 induction n with
 | zero =>
  intro A U V C hn hU _ _ _ _
  exact absurd (List.eq_nil_of_length_eq_zero (by omega)) hU
 | succ n ih =>
  intro A U V C hn hU hV ht hl hT
  have hU' := List.length_pos_iff.2 hU
  have hV' := List.length_pos_iff.2 hV
  have hl' : A.length + U.length + V.length + C.length ≤ 3000000000000 := by simp at hl; omega
  have w1 : IntKind.wrap .i64 (((A ++ U).length : Int) - (U.length : Int)) = (A.length : Int) := by rw [wrI (by simp <;> omega) (by simp <;> omega)]; simp <;> omega
  apply v5q
  rw [w1]
  by_cases he : U.length = V.length
  ·have c := G7q A U [] V C (by simpa using ht) he (by simpa using hl)
   simp only [List.append_nil] at c
   rw [hT] at c
   exact a2q (decide_eq_false (by simp [he])) ⟨_, c, rfl, rfl⟩
  ·refine a6q (decide_eq_true (by omega)) ?_
   by_cases hgt : V.length < U.length
   ·refine a6q (decide_eq_true (by omega)) ?_
    obtain ⟨U1, U2, rfl, hU1⟩ : ∃ U1 U2, U = U1 ++ U2 ∧ U1.length = V.length := ⟨U.take V.length, U.drop V.length, by simp, by simp; omega⟩
    have c := G7q A U1 U2 V C (by simpa using ht) hU1 (by simpa using hl)
    have h2 : U2.length + V.length = (U1 ++ U2).length := by simp; omega
    have w2 : IntKind.wrap .i64 (((U1 ++ U2).length : Int) - (V.length : Int)) = (U2.length : Int) := by rw [wrI (by simp <;> omega) (by simp <;> omega)]; simp <;> omega
    have i1 := ih (A ++ V) U2 U1 C (by simp at hn; omega) (by intro h; subst h; simp at hgt hU1; omega) (by intro h; subst h; simp at hU1; omega) (fun w hw => ht w (by simp at hw ⊢; grind)) (by simp; omega) (by simpa [List.append_assoc] using hT)
    have e1 : A ++ (U1 ++ U2) ++ V ++ C = A ++ U1 ++ U2 ++ V ++ C := by simp
    have e2 : (A ++ V ++ U2).length = (A ++ (U1 ++ U2)).length := by simp; omega
    have e3 : (A ++ (U1 ++ U2)).length = (A ++ U1 ++ U2).length := by simp
    rw [w2, e1]
    rw [e2] at i1
    rw [e3] at i1 ⊢
    rw [hU1] at i1 c
    exact ⟨_, c, i1⟩
   ·refine a2q (decide_eq_false (by omega)) ?_
    obtain ⟨V1, V2, rfl, hV2⟩ : ∃ V1 V2, V = V1 ++ V2 ∧ V2.length = U.length := ⟨V.take (V.length - U.length), V.drop (V.length - U.length), by simp, by simp; omega⟩
    have hvl : (V1 ++ V2).length = V1.length + V2.length := by simp
    have c := G7q A U V1 V2 C (by simpa using ht) hV2.symm (by simpa using hl)
    have w2 : IntKind.wrap .i64 (IntKind.wrap .i64 (((A ++ U).length : Int) + ((V1 ++ V2).length : Int)) - (U.length : Int)) = ((A ++ U ++ V1).length : Int) := by
     rw [wrI (x := ((A ++ U).length : Int) + _) (by omega) (by simp at hl' ⊢; omega), wrI (by simp; omega) (by simp at hl' ⊢; omega)]; simp; omega
    have w3 : IntKind.wrap .i64 (((V1 ++ V2).length : Int) - (U.length : Int)) = (V1.length : Int) := by rw [wrI (by simp; omega) (by simp at hl' ⊢; omega)]; simp; omega
    have i1 := ih A V2 V1 (U ++ C) (by omega) (by intro h; subst h; simp at hV2; omega) (by intro h; subst h; simp at he hgt hvl; omega) (fun w hw => ht w (by simp at hw ⊢; grind)) (by simp at hl' ⊢; omega) (by simpa [List.append_assoc] using hT)
    have e1 : A ++ U ++ (V1 ++ V2) ++ C = A ++ U ++ V1 ++ V2 ++ C := by simp
    have e2 : (A ++ V2).length = (A ++ U).length := by simp [hV2]
    have e4 : A ++ V2 ++ V1 ++ (U ++ C) = A ++ V2 ++ V1 ++ U ++ C := by simp
    rw [w2, w3, e1]
    rw [e2, hV2, e4] at i1
    exact ⟨_, c, i1⟩
theorem a80q (A U V C : List (List Da × Li)) (hU : U ≠ []) (hV : V ≠ []) (ht : ∀ z ∈ A ++ U ++ V ++ C, TgP Li.da z) (hl : (A ++ U ++ V ++ C).length ≤ 3000000000000) : XC pg 271 [.one (.ol 2000), Z (A.length : Int), Z ((A ++ U).length : Int), Z ((A ++ U ++ V).length : Int), .one (.d (.fn 135))] [(2000, .lst 85 7 ((A ++ U ++ V ++ C).map (·.1)))] (.tup []) [(2000, .lst 85 7 ((A ++ V ++ U ++ C).map (·.1)))] := by
 have hl' : A.length + U.length + V.length + C.length ≤ 3000000000000 := by simp at hl; omega
 have w1 : IntKind.wrap .i64 (((A ++ U).length : Int) - (A.length : Int)) = (U.length : Int) := by rw [wrI (by simp <;> omega) (by simp <;> omega)]; simp <;> omega
 have w2 : IntKind.wrap .i64 (((A ++ U ++ V).length : Int) - ((A ++ U).length : Int)) = (V.length : Int) := by rw [wrI (by simp <;> omega) (by simp <;> omega)]; simp <;> omega
 apply x1q
 rw [w1, w2]
 exact a8wq _ _ A U V C (Nat.le_refl _) hU hV ht hl rfl
theorem ab0q (hO : SWO e5q) (A : List (List Da × Li)) (x : List Da × Li) : ∀ (n : Nat) (L R Q : List (List Da × Li)), L.length = n → (∀ z ∈ A ++ L ++ x :: R ++ Q, TgP Li.da z) → (A ++ L ++ x :: R ++ Q).length ≤ 3000000000000 → Sd e5q (L ++ R) → (∀ y ∈ R, e5q x y) → ∃ S, S.Perm (L ++ x :: R) ∧ Sd e5q S ∧ ∀ (r : AV) (O : List (Nat × Ob)) (b i : Int), (c3q r O (A.length : Int) b (IntKind.wrap .i64 (i + 1)) ((A ++ S ++ Q).map (·.1)) → e0q r O (A.length : Int) b i ((A ++ L).length : Int) ((A ++ L ++ x :: R ++ Q).map (·.1))) := by
 intro n
 induction n with
 | zero =>
  intro L R Q hn ht hl hs hR
  have : L = [] := List.eq_nil_of_length_eq_zero hn
  subst this
  refine ⟨x :: R, by simp, R0q hO (L := []) hs (fun y hy => hO.asym (hR y hy)) (by simp), fun r O b i h => ?_⟩
  apply h6q
  refine a2q (decide_eq_false (by simp)) ?_
  simpa using h
 | succ n ih =>
  intro L R Q hn ht hl hs hR
  obtain ⟨L', z, rfl⟩ : ∃ L' z, L = L' ++ [z] := by
   rcases List.eq_nil_or_concat L with rfl | ⟨L', z, h⟩
   ·simp at hn
   ·exact ⟨L', z, by rw [h, List.concat_eq_append]⟩
  have hl' : A.length + L'.length + R.length + Q.length + 2 ≤ 3000000000000 := by simp at hl; omega
  have hz := ht z (by simp)
  have hx := ht x (by simp)
  have hcmp := a3mq hx hz
  obtain ⟨_, _, _, _, _, _, _, ex⟩ := (ht x (by simp)).lit
  obtain ⟨_, _, _, _, _, _, _, ez⟩ := (ht z (by simp)).lit
  have eD : A ++ (L' ++ [z]) ++ x :: R ++ Q = (A ++ L') ++ z :: [] ++ x :: (R ++ Q) := by simp
  have g1 := P8q (fun z : List Da × Li => z.1) (P := A ++ L') (M := []) (Q := R ++ Q) (a := z) (b := x)
  have g2 := Q5q (fun z : List Da × Li => z.1) (P := A ++ L') (M := []) (Q := R ++ Q) (a := z) (b := x)
  have l1 := z9q (fun z : List Da × Li => z.1) (A ++ L') [] (R ++ Q) z x
  have g3 : ((((A ++ L') ++ z :: [] ++ x :: (R ++ Q)).map (·.1)).set ((A ++ L').length + 1 + ([] : List (List Da × Li)).length) z.1)[(A ++ L').length]? = some z.1 := by
   rw [List.getElem?_set_ne (by simp)]; exact g2
  have w1 : IntKind.wrap .i64 (((A ++ (L' ++ [z])).length : Int) - 1) = (((A ++ L').length : Nat) : Int) := by rw [wrI (by simp <;> omega) (by simp <;> omega)]; simp <;> omega
  have w2 : IntKind.wrap .i64 ((((A ++ L').length + 1 + ([] : List (List Da × Li)).length : Nat) : Int) - 1) = (((A ++ L').length : Nat) : Int) := by rw [wrI (by simp <;> omega) (by simp <;> omega)]; simp <;> omega
  have hj : ((A ++ (L' ++ [z])).length : Int) = (((A ++ L').length + 1 + ([] : List (List Da × Li)).length : Nat) : Int) := by simp; omega
  by_cases hlt : e5q x z
  ·obtain ⟨S, p1, p2, p3⟩ := ih L' (z :: R) Q (by simpa using hn) (fun w hw => ht w (by simp at hw ⊢; grind)) (by simp; omega) (by simpa using hs) (fun y hy => by
    rcases List.mem_cons.1 hy with rfl | hy
    ·exact hlt
    ·exact hR y hy)
   refine ⟨S, p1.trans ?_, p2, fun r O b i h => ?_⟩
   ·have : (L' ++ [z]) ++ x :: R = L' ++ z :: x :: R := by simp
    rw [this]
    exact (List.Perm.swap ..).append_left L'
   ·have h4 := p3 r O b i h
    have eS : A ++ L' ++ x :: z :: R ++ Q = (A ++ L') ++ x :: [] ++ z :: (R ++ Q) := by simp
    rw [eS, ← a36q] at h4
    rw [ex] at g1 hcmp
    rw [ez] at g2 g3 hcmp
    rw [ex, ez] at h4
    apply h6q
    rw [eD, hj, w2]
    refine a6q (decide_eq_true (by simp; omega)) ⟨_, rfl, ⟨by rw [l1]; simp; omega⟩, _, rfl, _, _, _, _, _, _, _, g1, _, rfl, ⟨by rw [l1]; simp; omega⟩, _, rfl, _, _, _, _, _, _, _, g2, _, hcmp, a6q (decide_eq_true hlt) ⟨_, rfl, ⟨by rw [l1]; simp; omega⟩, _, rfl, _, _, _, _, _, _, _, g2, _, rfl, ⟨by rw [l1]; simp; omega⟩, _, rfl, _, _, _, _, _, _, _, g1, _, rfl, ⟨by rw [l1]; simp; omega⟩, _, rfl, _, _, _, _, _, _, _, g1, _, rfl, ⟨by rw [List.length_set, l1]; simp; omega⟩, _, rfl, _, _, _, _, _, _, _, g3, h4⟩⟩
  ·refine ⟨(L' ++ [z]) ++ x :: R, .refl _, R0q hO hs (fun y hy => hO.asym (hR y hy)) (a6Tq hO (s6q.1 hs).1 hlt), fun r O b i h => ?_⟩
   have e2 : A ++ (L' ++ [z] ++ x :: R) ++ Q = (A ++ L') ++ z :: [] ++ x :: (R ++ Q) := by simp
   rw [e2] at h
   rw [ex] at g1 hcmp
   rw [ez] at g2 hcmp
   apply h6q
   rw [eD, hj, w2]
   exact a6q (decide_eq_true (by simp; omega)) ⟨_, rfl, ⟨by rw [l1]; simp; omega⟩, _, rfl, _, _, _, _, _, _, _, g1, _, rfl, ⟨by rw [l1]; simp; omega⟩, _, rfl, _, _, _, _, _, _, _, g2, _, hcmp, a2q (decide_eq_false hlt) h⟩
theorem a29q (hO : SWO e5q) (A C : List (List Da × Li)) : ∀ (R S : List (List Da × Li)), (∀ z ∈ A ++ S ++ R ++ C, TgP Li.da z) → (A ++ S ++ R ++ C).length ≤ 3000000000000 → Sd e5q S → ∃ M, M.Perm (S ++ R) ∧ Sd e5q M ∧ c3q (.tup []) [(2000, .lst 85 7 ((A ++ M ++ C).map (·.1)))] (A.length : Int) ((A ++ S ++ R).length : Int) ((A ++ S).length : Int) ((A ++ S ++ R ++ C).map (·.1))
 | [], S, ht, hl, hs => by
  refine ⟨S, by simp, hs, ?_⟩
  apply h7q
  exact a2q (decide_eq_false (by simp)) ⟨rfl, by simp⟩
 | x :: R, S, ht, hl, hs => by
  have hl' : A.length + S.length + R.length + C.length + 1 ≤ 3000000000000 := by simp at hl; omega
  obtain ⟨S', p1, p2, p3⟩ := ab0q hO A x S.length S [] (R ++ C) rfl (by simpa using ht) (by simpa using hl) (by simpa using hs) (by simp)
  have pl := p1.length_eq
  simp only [List.length_append, List.length_cons, List.length_nil] at pl
  obtain ⟨M, q1, q2, q3⟩ := a29q hO A C R S' (fun w hw => ht w (by
   have hp : w ∈ S' → w ∈ S ++ [x] := fun h => p1.subset h
   simp at hw hp ⊢; grind)) (by simp; omega) p2
  refine ⟨M, q1.trans ?_, q2, ?_⟩
  ·have e : S ++ x :: R = S ++ [x] ++ R := by simp
   rw [e]
   exact p1.append_right R
  ·have h4 := p3 (.tup []) [(2000, .lst 85 7 ((A ++ M ++ C).map (·.1)))] ((A ++ S ++ x :: R).length : Int) ((A ++ S).length : Int)
   have w1 : IntKind.wrap .i64 (((A ++ S).length : Int) + 1) = ((A ++ S').length : Int) := by rw [wrI (by simp <;> omega) (by simp <;> omega)]; simp <;> omega
   have e1 : (A ++ S' ++ R).length = (A ++ S ++ x :: R).length := by simp; omega
   have e2 : A ++ S' ++ (R ++ C) = A ++ S' ++ R ++ C := by simp
   have e3 : A ++ S ++ [x] ++ (R ++ C) = A ++ S ++ x :: R ++ C := by simp
   rw [w1, e2, e3] at h4
   rw [e1] at q3
   apply h7q
   exact a6q (decide_eq_true (by simp; omega)) (h4 q3)
theorem T7q (hO : SWO e5q) (A R C : List (List Da × Li)) (ht : ∀ z ∈ A ++ R ++ C, TgP Li.da z) (hl : (A ++ R ++ C).length ≤ 3000000000000) : ∃ M, M.Perm R ∧ Sd e5q M ∧ XC pg 266 [.one (.ol 2000), Z (A.length : Int), Z ((A ++ R).length : Int), .one (.d (.fn 135))] [(2000, .lst 85 7 ((A ++ R ++ C).map (·.1)))] (.tup []) [(2000, .lst 85 7 ((A ++ M ++ C).map (·.1)))] := by
 have hl' : A.length + R.length + C.length ≤ 3000000000000 := by simp at hl; omega
 have w1 : IntKind.wrap .i64 ((A.length : Int) + 1) = ((A.length + 1 : Nat) : Int) := by rw [wrI (by omega) (by omega)]; simp
 cases R with
 | nil =>
  refine ⟨[], .refl _, .nil, ?_⟩
  apply k7q
  rw [w1]
  apply h7q
  exact a2q (decide_eq_false (by simp <;> omega)) ⟨rfl, rfl⟩
 | cons x R =>
  obtain ⟨M, p1, p2, p3⟩ := a29q hO A C R [x] (by simpa using ht) (by simpa using hl) (by simp)
  refine ⟨M, by simpa using p1, p2, ?_⟩
  apply k7q
  rw [w1]
  have e1 : (A ++ [x]).length = A.length + 1 := by simp
  have e2 : A ++ [x] ++ R = A ++ x :: R := by simp
  rw [e1, e2] at p3
  exact p3
theorem a5qq (i : Int) (x : List Da × Li) (Q : List (List Da × Li)) : ∀ (R1 D : List (List Da × Li)), (∀ z ∈ D ++ x :: R1 ++ Q, TgP Li.da z) → (D ++ x :: R1 ++ Q).length ≤ 3000000000000 → i = ((D.length + R1.length + 1 : Nat) : Int) → d4q (.tup []) [(2000, .lst 85 7 ((D ++ R1 ++ x :: Q).map (·.1)))] i (D.length : Int) ((D ++ x :: R1 ++ Q).map (·.1)) := by
 intro R1
 induction R1 with
 | nil =>
  intro D ht hl hi
  have w : IntKind.wrap .i64 (i - 1) = (D.length : Int) := by rw [wrI (by omega) (by simp at hl hi; omega)]; simp at hi; omega
  apply l7q
  rw [w]
  exact a2q (decide_eq_false (by omega)) ⟨rfl, by simp⟩
 | cons y R1 ih0 =>
  intro D ht hl hi
  have hl' : D.length + R1.length + Q.length + 2 ≤ 3000000000000 := by simp at hl; omega
  have ih := ih0 (D ++ [y]) (fun w hw => ht w (by simp at hw ⊢; grind)) (by simp; omega) (by simp at hi ⊢; omega)
  have w : IntKind.wrap .i64 (i - 1) = ((D.length + R1.length + 1 : Nat) : Int) := by rw [wrI (by omega) (by simp at hi; omega)]; simp at hi; omega
  have w1 : IntKind.wrap .i64 ((D.length : Int) + 1) = ((D.length + 1 + ([] : List (List Da × Li)).length : Nat) : Int) := by rw [wrI (by omega) (by omega)]; simp
  have eD : D ++ x :: y :: R1 ++ Q = D ++ x :: [] ++ y :: (R1 ++ Q) := by simp
  have eE : D ++ [y] ++ x :: R1 ++ Q = D ++ y :: [] ++ x :: (R1 ++ Q) := by simp
  have eO : D ++ [y] ++ R1 ++ x :: Q = D ++ y :: R1 ++ x :: Q := by simp
  have e1 : (D ++ [y]).length = D.length + 1 + ([] : List (List Da × Li)).length := by simp
  have g1 := P8q (fun z : List Da × Li => z.1) (P := D) (M := []) (Q := R1 ++ Q) (a := x) (b := y)
  have g2 := Q5q (fun z : List Da × Li => z.1) (P := D) (M := []) (Q := R1 ++ Q) (a := x) (b := y)
  have l1 := z9q (fun z : List Da × Li => z.1) D [] (R1 ++ Q) x y
  have g3 : (((D ++ x :: [] ++ y :: (R1 ++ Q)).map (·.1)).set D.length y.1)[D.length + 1 + ([] : List (List Da × Li)).length]? = some y.1 := by
   rw [List.getElem?_set_ne (by simp)]; exact g1
  obtain ⟨_, _, _, _, _, _, _, ex⟩ := (ht x (by simp)).lit
  obtain ⟨_, _, _, _, _, _, _, ey⟩ := (ht y (by simp)).lit
  rw [eE, eO, e1, ← a0Wq (fun z : List Da × Li => z.1) (P := D) (M := []) (Q := R1 ++ Q) (a := x) (b := y)] at ih
  rw [ex] at g2
  rw [ey] at g1 g3
  rw [ex, ey] at ih
  apply l7q
  rw [w, eD, w1]
  exact a6q (decide_eq_true (by omega)) ⟨_, rfl, ⟨by rw [l1]; simp; omega⟩, _, rfl, _, _, _, _, _, _, _, g1, _, rfl, ⟨by rw [l1]; simp; omega⟩, _, rfl, _, _, _, _, _, _, _, g2, _, rfl, ⟨by rw [l1]; simp; omega⟩, _, rfl, _, _, _, _, _, _, _, g2, _, rfl, ⟨by rw [List.length_set, l1]; simp; omega⟩, _, rfl, _, _, _, _, _, _, _, g3, ih⟩
theorem a6Oq (D : List (List Da × Li)) (x : List Da × Li) : ∀ (n : Nat) (L Q : List (List Da × Li)), L.length = n → (∀ z ∈ D ++ L ++ x :: Q, TgP Li.da z) → (D ++ L ++ x :: Q).length ≤ 3000000000000 → d3q (.tup []) [(2000, .lst 85 7 ((D ++ x :: L ++ Q).map (·.1)))] (D.length : Int) ((D ++ L).length : Int) ((D ++ L ++ x :: Q).map (·.1)) := by
 intro n
 induction n with
 | zero =>
  intro L Q hn ht hl
  have : L = [] := List.eq_nil_of_length_eq_zero hn
  subst this
  apply l1q
  exact a2q (decide_eq_false (by simp)) ⟨rfl, by simp⟩
 | succ n ih =>
  intro L Q hn ht hl
  obtain ⟨L', z, rfl⟩ : ∃ L' z, L = L' ++ [z] := by
   rcases List.eq_nil_or_concat L with rfl | ⟨L', z, h⟩
   ·simp at hn
   ·exact ⟨L', z, by rw [h, List.concat_eq_append]⟩
  have hl' : D.length + L'.length + Q.length + 2 ≤ 3000000000000 := by simp at hl; omega
  have i1 := ih L' (z :: Q) (by simpa using hn) (fun w hw => ht w (by simp at hw ⊢; grind)) (by simp; omega)
  have eD : D ++ (L' ++ [z]) ++ x :: Q = (D ++ L') ++ z :: [] ++ x :: Q := by simp
  have eE : D ++ L' ++ x :: z :: Q = (D ++ L') ++ x :: [] ++ z :: Q := by simp
  have eO : D ++ x :: L' ++ z :: Q = D ++ x :: (L' ++ [z]) ++ Q := by simp
  have hj : ((D ++ (L' ++ [z])).length : Int) = (((D ++ L').length + 1 + ([] : List (List Da × Li)).length : Nat) : Int) := by simp; omega
  have w2 : IntKind.wrap .i64 ((((D ++ L').length + 1 + ([] : List (List Da × Li)).length : Nat) : Int) - 1) = (((D ++ L').length : Nat) : Int) := by rw [wrI (by simp <;> omega) (by simp <;> omega)]; simp <;> omega
  have g1 := P8q (fun z : List Da × Li => z.1) (P := D ++ L') (M := []) (Q := Q) (a := z) (b := x)
  have g2 := Q5q (fun z : List Da × Li => z.1) (P := D ++ L') (M := []) (Q := Q) (a := z) (b := x)
  have l1 := z9q (fun z : List Da × Li => z.1) (D ++ L') [] Q z x
  have g3 : ((((D ++ L') ++ z :: [] ++ x :: Q).map (·.1)).set ((D ++ L').length + 1 + ([] : List (List Da × Li)).length) z.1)[(D ++ L').length]? = some z.1 := by
   rw [List.getElem?_set_ne (by simp)]; exact g2
  obtain ⟨_, _, _, _, _, _, _, ex⟩ := (ht x (by simp)).lit
  obtain ⟨_, _, _, _, _, _, _, ez⟩ := (ht z (by simp)).lit
  rw [eE, eO, ← a36q] at i1
  rw [ex] at g1
  rw [ez] at g2 g3
  rw [ex, ez] at i1
  apply l1q
  rw [eD, hj, w2]
  exact a6q (decide_eq_true (by simp; omega)) ⟨_, rfl, ⟨by rw [l1]; simp; omega⟩, _, rfl, _, _, _, _, _, _, _, g2, _, rfl, ⟨by rw [l1]; simp; omega⟩, _, rfl, _, _, _, _, _, _, _, g1, _, rfl, ⟨by rw [l1]; simp; omega⟩, _, rfl, _, _, _, _, _, _, _, g1, _, rfl, ⟨by rw [List.length_set, l1]; simp; omega⟩, _, rfl, _, _, _, _, _, _, _, g3, i1⟩
theorem aeAq (hO : SWO e5q) (A R C : List (List Da × Li)) (x : List Da × Li) (ht : ∀ z ∈ A ++ x :: R ++ C, TgP Li.da z) (hl : (A ++ x :: R ++ C).length ≤ 3000000000000) (hs : Sd e5q R) : ∃ M, M.Perm (x :: R) ∧ Sd e5q M ∧ b7q (.tup []) [(2000, .lst 85 7 ((A ++ M ++ C).map (·.1)))] (A.length : Int) ((A.length + 1 : Nat) : Int) ((A.length + 1 + R.length : Nat) : Int) ((A ++ x :: R ++ C).map (·.1)) := by
 have hl' : A.length + R.length + C.length + 1 ≤ 3000000000000 := by simp at hl; omega
 have hlen : ((A ++ x :: R ++ C).map (·.1)).length = A.length + R.length + C.length + 1 := by simp; omega
 have eD : A ++ x :: R ++ C = A ++ [x] ++ R ++ C := by simp
 have gx : ((A ++ x :: R ++ C).map (·.1))[A.length]? = some x.1 := by
  have := x3q (fun z : List Da × Li => z.1) (P := A) (R := x :: R) (Q := C) (k := 0) (y := x) rfl
  exact this
 obtain ⟨k, k1, k2, k3, k4, k5⟩ := X0q (ι := AV × List (Nat × Ob)) (p := fun t i j => b7q t.1 t.2 (A.length : Int) (i : Int) (j : Int) ((A ++ x :: R ++ C).map (·.1))) (ex := fun t i => d4q t.1 t.2 (i : Int) (A.length : Int) ((A ++ x :: R ++ C).map (·.1)))
  (fun h => ∃ y, R[h - (A.length + 1)]? = some y ∧ e5q y x) (A.length + 1) (A.length + 1 + R.length) (fun t i _ _ h => by
   apply l6q
   exact a2q (decide_eq_false (by omega)) h) (fun t i j h1 h2 h3 => by
   obtain ⟨y, hy⟩ := d0q (l := R) (i := (i + j) / 2 - (A.length + 1)) (by omega)
   have hym := List.mem_of_getElem? hy
   have hcmp := a3mq (ht y (by simp [hym])) (ht x (by simp))
   have gy := x3q (fun z : List Da × Li => z.1) (P := A ++ [x]) (Q := C) hy
   have eh : (A ++ [x]).length + ((i + j) / 2 - (A.length + 1)) = (i + j) / 2 := by simp; omega
   rw [eh, ← eD] at gy
   obtain ⟨_, _, _, _, _, _, _, ex⟩ := (ht x (by simp)).lit
   obtain ⟨_, _, _, _, _, _, _, ey⟩ := (ht y (by simp [hym])).lit
   have core : (e5q y x → b7q t.1 t.2 (A.length : Int) (((i + j) / 2 + 1 : Nat) : Int) (j : Int) ((A ++ x :: R ++ C).map (·.1))) → (¬ e5q y x → b7q t.1 t.2 (A.length : Int) (i : Int) (((i + j) / 2 : Nat) : Int) ((A ++ x :: R ++ C).map (·.1))) → b7q t.1 t.2 (A.length : Int) (i : Int) (j : Int) ((A ++ x :: R ++ C).map (·.1)) := by
    intro c1 c2
    have w1 : IntKind.wrap .i64 ((((i + j) / 2 : Nat) : Int) + 1) = (((i + j) / 2 + 1 : Nat) : Int) := by rw [wrI (by omega) (by omega)]; simp
    have gx2 := gx
    rw [ex] at gx2 hcmp
    rw [ey] at gy hcmp
    apply l6q
    rw [midw (by omega), w1]
    refine a6q (decide_eq_true (by omega)) ⟨⟨F3q⟩, _, rfl, ⟨by rw [hlen]; omega⟩, _, rfl, _, _, _, _, _, _, _, gy, _, rfl, ⟨by rw [hlen]; omega⟩, _, rfl, _, _, _, _, _, _, _, gx2, _, hcmp, ?_⟩
    by_cases hlt : e5q y x
    ·exact a6q (decide_eq_true hlt) (c1 hlt)
    ·exact a2q (decide_eq_false hlt) (c2 hlt)
   refine ⟨fun hf hp => core (fun _ => hp) fun hn => ?_, fun hn hp => core (fun hlt => absurd ⟨y, hy, hlt⟩ hn) fun _ => hp⟩
   obtain ⟨y', hy', hlt⟩ := hf
   rw [hy] at hy'
   cases hy'
   exact absurd hlt hn) R.length (A.length + 1) (A.length + 1 + R.length) (by omega) (Nat.le_refl _) (by omega) (Nat.le_refl _) (.inl rfl) (.inl rfl)
 obtain ⟨q, rfl⟩ : ∃ q, k = A.length + 1 + q := ⟨k - (A.length + 1), by omega⟩
 have hq : q ≤ R.length := by omega
 have hsR : Sd e5q (R.take q ++ R.drop q) := by rw [List.take_append_drop]; exact hs
 obtain ⟨s1, s2, _⟩ := s6q.1 hsR
 have hR1 : ∀ y ∈ R.take q, e5q y x := by
  refine a0jq hO s1 ?_
  rcases k3 with h | ⟨y, hy, hlt⟩
  ·have : q = 0 := by omega
   subst this; exact .inl (by simp)
  ·by_cases h0 : q = 0
   ·subst h0; exact .inl (by simp)
   ·refine .inr ⟨y, ?_, hlt⟩
    rw [List.length_take, Nat.min_eq_left hq, List.getElem?_take_of_lt (by omega)]
    rw [← hy]; congr 1; omega
 have hR2 : ∀ y ∈ R.drop q, ¬ e5q y x := by
  refine H0q hO s2 ?_
  rcases k4 with h | h
  ·exact .inl (List.drop_eq_nil_of_le (by omega))
  ·by_cases h0 : q = R.length
   ·exact .inl (List.drop_eq_nil_of_le (by omega))
   ·obtain ⟨y, hy⟩ := d0q (l := R) (i := q) (by omega)
    refine .inr ⟨y, by rw [List.getElem?_drop]; simpa using hy, fun hlt => h ⟨y, ?_, hlt⟩⟩
    rw [← hy]; congr 1; omega
 refine ⟨R.take q ++ x :: R.drop q, ?_, R0q hO hsR hR2 (fun y hy => hO.asym (hR1 y hy)), k5 (_, _) ?_⟩
 ·refine List.perm_middle.trans ?_
  rw [List.take_append_drop]
 ·have h := a5qq ((A.length + 1 + q : Nat) : Int) x (R.drop q ++ C) (R.take q) A (fun w hw => ht w (by
   have e : A ++ x :: R.take q ++ (R.drop q ++ C) = A ++ x :: R ++ C := by
    simp only [List.append_assoc, List.cons_append]; rw [← List.append_assoc (R.take q), List.take_append_drop]
   rw [e] at hw; exact hw)) (by simp; omega) (by simp; omega)
  have e1 : A ++ x :: R.take q ++ (R.drop q ++ C) = A ++ x :: R ++ C := by
   simp only [List.append_assoc, List.cons_append]; rw [← List.append_assoc (R.take q), List.take_append_drop]
  have e2 : A ++ R.take q ++ x :: (R.drop q ++ C) = A ++ (R.take q ++ x :: R.drop q) ++ C := by simp
  rw [e1, e2] at h
  exact h
theorem adIq (hO : SWO e5q) (A L C : List (List Da × Li)) (x : List Da × Li) (ht : ∀ z ∈ A ++ L ++ x :: C, TgP Li.da z) (hl : (A ++ L ++ x :: C).length ≤ 3000000000000) (hs : Sd e5q L) : ∃ M, M.Perm (L ++ [x]) ∧ Sd e5q M ∧ b6q (.tup []) [(2000, .lst 85 7 ((A ++ M ++ C).map (·.1)))] ((A.length + L.length : Nat) : Int) (A.length : Int) ((A.length + L.length : Nat) : Int) ((A ++ L ++ x :: C).map (·.1)) := by
 have hl' : A.length + L.length + C.length + 1 ≤ 3000000000000 := by simp at hl; omega
 have hlen : ((A ++ L ++ x :: C).map (·.1)).length = A.length + L.length + C.length + 1 := by simp; omega
 have gx : ((A ++ L ++ x :: C).map (·.1))[A.length + L.length]? = some x.1 := by simp
 obtain ⟨k, k1, k2, k3, k4, k5⟩ := X0q (ι := AV × List (Nat × Ob)) (p := fun t i j => b6q t.1 t.2 ((A.length + L.length : Nat) : Int) (i : Int) (j : Int) ((A ++ L ++ x :: C).map (·.1))) (ex := fun t i => d3q t.1 t.2 (i : Int) ((A.length + L.length : Nat) : Int) ((A ++ L ++ x :: C).map (·.1)))
  (fun h => ∃ y, L[h - A.length]? = some y ∧ ¬ e5q x y) A.length (A.length + L.length) (fun t i _ _ h => by
   apply l2q
   exact a2q (decide_eq_false (by omega)) h) (fun t i j h1 h2 h3 => by
   obtain ⟨y, hy⟩ := d0q (l := L) (i := (i + j) / 2 - A.length) (by omega)
   have hym := List.mem_of_getElem? hy
   have hcmp := a3mq (ht x (by simp)) (ht y (by simp [hym]))
   have gy := x3q (fun z : List Da × Li => z.1) (P := A) (Q := x :: C) hy
   have eh : A.length + ((i + j) / 2 - A.length) = (i + j) / 2 := by omega
   rw [eh] at gy
   obtain ⟨_, _, _, _, _, _, _, ex⟩ := (ht x (by simp)).lit
   obtain ⟨_, _, _, _, _, _, _, ey⟩ := (ht y (by simp [hym])).lit
   have core : (¬ e5q x y → b6q t.1 t.2 ((A.length + L.length : Nat) : Int) (((i + j) / 2 + 1 : Nat) : Int) (j : Int) ((A ++ L ++ x :: C).map (·.1))) → (e5q x y → b6q t.1 t.2 ((A.length + L.length : Nat) : Int) (i : Int) (((i + j) / 2 : Nat) : Int) ((A ++ L ++ x :: C).map (·.1))) → b6q t.1 t.2 ((A.length + L.length : Nat) : Int) (i : Int) (j : Int) ((A ++ L ++ x :: C).map (·.1)) := by
    intro c1 c2
    have w1 : IntKind.wrap .i64 ((((i + j) / 2 : Nat) : Int) + 1) = (((i + j) / 2 + 1 : Nat) : Int) := by rw [wrI (by omega) (by omega)]; simp
    have gx2 := gx
    rw [ex] at gx2 hcmp
    rw [ey] at gy hcmp
    apply l2q
    rw [midw (by omega), w1]
    refine a6q (decide_eq_true (by omega)) ⟨⟨F3q⟩, _, rfl, ⟨by rw [hlen]; omega⟩, _, rfl, _, _, _, _, _, _, _, gx2, _, rfl, ⟨by rw [hlen]; omega⟩, _, rfl, _, _, _, _, _, _, _, gy, _, hcmp, ?_⟩
    by_cases hlt : e5q x y
    ·exact a2q (by rw [decide_eq_true (show Li.cmp x.2 y.2 < 0 from hlt)]; rfl) (c2 hlt)
    ·exact a6q (by rw [decide_eq_false (show ¬ Li.cmp x.2 y.2 < 0 from hlt)]; rfl) (c1 hlt)
   refine ⟨fun hf hp => core (fun _ => hp) fun hn => ?_, fun hn hp => core (fun hlt => absurd ⟨y, hy, hlt⟩ hn) fun _ => hp⟩
   obtain ⟨y', hy', hlt⟩ := hf
   rw [hy] at hy'
   cases hy'
   exact absurd hn hlt) L.length A.length (A.length + L.length) (by omega) (Nat.le_refl _) (by omega) (Nat.le_refl _) (.inl rfl) (.inl rfl)
 obtain ⟨q, rfl⟩ : ∃ q, k = A.length + q := ⟨k - A.length, by omega⟩
 have hq : q ≤ L.length := by omega
 have hsL : Sd e5q (L.take q ++ L.drop q) := by rw [List.take_append_drop]; exact hs
 obtain ⟨s1, s2, _⟩ := s6q.1 hsL
 have hL1 : ∀ y ∈ L.take q, ¬ e5q x y := by
  refine a07q hO s1 ?_
  by_cases h0 : q = 0
  ·subst h0; exact .inl (by simp)
  ·rcases k3 with h | ⟨y, hy, hlt⟩
   ·exact absurd (by omega) h0
   ·refine .inr ⟨y, ?_, hlt⟩
    rw [List.length_take, Nat.min_eq_left hq, List.getElem?_take_of_lt (by omega)]
    rw [← hy]; congr 1; omega
 have hL2 : ∀ y ∈ L.drop q, e5q x y := by
  refine a7rq hO s2 ?_
  by_cases h0 : q = L.length
  ·exact .inl (List.drop_eq_nil_of_le (by omega))
  ·rcases k4 with h | h
   ·exact absurd (by omega) h0
   ·obtain ⟨y, hy⟩ := d0q (l := L) (i := q) (by omega)
    refine .inr ⟨y, by rw [List.getElem?_drop]; simpa using hy, Classical.byContradiction fun hlt => h ⟨y, ?_, hlt⟩⟩
    rw [← hy]; congr 1; omega
 refine ⟨L.take q ++ x :: L.drop q, ?_, R0q hO hsL (fun y hy => hO.asym (hL2 y hy)) hL1, k5 (_, _) ?_⟩
 ·refine List.perm_middle.trans ?_
  rw [List.take_append_drop]
  exact (List.perm_append_singleton x L).symm
 ·have e1 : A ++ L.take q ++ L.drop q ++ x :: C = A ++ L ++ x :: C := by rw [List.append_assoc A, List.take_append_drop]
  have h := a6Oq (A ++ L.take q) x (L.drop q).length (L.drop q) C rfl (by rw [e1]; exact ht) (by rw [e1]; exact hl)
  have e2 : A ++ L.take q ++ x :: L.drop q ++ C = A ++ (L.take q ++ x :: L.drop q) ++ C := by simp
  have e3 : (A ++ L.take q).length = A.length + q := by simp; omega
  have e4 : (A ++ L.take q ++ L.drop q).length = A.length + L.length := by simp
  rw [e1, e2, e3, e4] at h
  exact h
theorem af0q (hO : SWO e5q) (A L1 L2 R1 R2 C : List (List Da × Li)) (a m b mid k e : Nat) (ha : a = A.length) (hk : k = a + L1.length) (hm : m = k + L2.length) (he : e = m + R1.length) (hb : b = e + R2.length) (hmid : mid = k + R1.length) (ht : ∀ z ∈ A ++ L1 ++ L2 ++ R1 ++ R2 ++ C, TgP Li.da z) (hl : (A ++ L1 ++ L2 ++ R1 ++ R2 ++ C).length ≤ 3000000000000) (hL : Sd e5q (L1 ++ L2)) (hR : Sd e5q (R1 ++ R2))
  (f1 : (L1 = [] ∨ R2 = []) ∨ ∃ y0 z0, L1[L1.length - 1]? = some y0 ∧ R2[0]? = some z0 ∧ ¬ e5q z0 y0) (f2 : (L2 = [] ∨ R1 = []) ∨ ∃ y0 z0, L2[0]? = some y0 ∧ R1[R1.length - 1]? = some z0 ∧ e5q z0 y0)
  (ih : ∀ (A L R C : List (List Da × Li)), (L ++ R).length < (L1 ++ L2 ++ R1 ++ R2).length → L ≠ [] → R ≠ [] → (∀ z ∈ A ++ L ++ R ++ C, TgP Li.da z) → (A ++ L ++ R ++ C).length ≤ 3000000000000 → Sd e5q L → Sd e5q R → ∃ M, M.Perm (L ++ R) ∧ Sd e5q M ∧ XC pg 267 [.one (.ol 2000), Z (A.length : Int), Z ((A ++ L).length : Int), Z ((A ++ L ++ R).length : Int), .one (.d (.fn 135))] [(2000, .lst 85 7 ((A ++ L ++ R ++ C).map (·.1)))] (.tup []) [(2000, .lst 85 7 ((A ++ M ++ C).map (·.1)))])
  (hlt1 : (L1 ++ R1).length < (L1 ++ L2 ++ R1 ++ R2).length) (hlt2 : (L2 ++ R2).length < (L1 ++ L2 ++ R1 ++ R2).length) :
  ∃ M, M.Perm (L1 ++ L2 ++ (R1 ++ R2)) ∧ Sd e5q M ∧ ∀ s21 s22 : Int, s21 = k → a9q (.tup []) [(2000, .lst 85 7 ((A ++ M ++ C).map (·.1)))] (a : Int) (m : Int) (b : Int) (mid : Int) ((mid + m : Nat) : Int) (k : Int) s21 s22 ((A ++ L1 ++ L2 ++ R1 ++ R2 ++ C).map (·.1)) := by
 have hl' : A.length + L1.length + L2.length + R1.length + R2.length + C.length ≤ 3000000000000 := by simp at hl; omega
 obtain ⟨hs1, hs2, hs12⟩ := s6q.1 hL
 obtain ⟨hr1, hr2, hr12⟩ := s6q.1 hR
 obtain ⟨M1, p1, q1, z1, c1⟩ : ∃ M1, M1.Perm (L1 ++ R1) ∧ Sd e5q M1 ∧ ((L1 = [] ∨ R1 = []) → M1 = L1 ++ R1) ∧ (L1 ≠ [] → R1 ≠ [] → XC pg 267 [.one (.ol 2000), Z (a : Int), Z (k : Int), Z (mid : Int), .one (.d (.fn 135))] [(2000, .lst 85 7 ((A ++ L1 ++ R1 ++ L2 ++ R2 ++ C).map (·.1)))] (.tup []) [(2000, .lst 85 7 ((A ++ M1 ++ L2 ++ R2 ++ C).map (·.1)))]) := by
  by_cases h : L1 = [] ∨ R1 = []
  ·refine ⟨L1 ++ R1, .refl _, ?_, fun _ => rfl, fun h1 h2 => absurd h (by simp [h1, h2])⟩
   rcases h with rfl | rfl
   ·simpa using hr1
   ·simpa using hs1
  ·have h1 : L1 ≠ [] := fun e => h (.inl e)
   have h2 : R1 ≠ [] := fun e => h (.inr e)
   obtain ⟨M1, p, q, c⟩ := ih A L1 R1 (L2 ++ R2 ++ C) hlt1 h1 h2 (fun w hw => ht w (by simp at hw ⊢; grind)) (by simp; omega) hs1 hr1
   refine ⟨M1, p, q, fun e => absurd e h, fun _ _ => ?_⟩
   have e1 : (A ++ L1).length = k := by simp; omega
   have e2 : (A ++ L1 ++ R1).length = mid := by simp; omega
   have e3 : A ++ L1 ++ R1 ++ (L2 ++ R2 ++ C) = A ++ L1 ++ R1 ++ L2 ++ R2 ++ C := by simp
   have e4 : A ++ M1 ++ (L2 ++ R2 ++ C) = A ++ M1 ++ L2 ++ R2 ++ C := by simp
   rw [e1, e2, e3, e4, ← ha] at c
   exact c
 have pl1 := p1.length_eq
 simp only [List.length_append] at pl1
 obtain ⟨M2, p2, q2, z2, c2⟩ : ∃ M2, M2.Perm (L2 ++ R2) ∧ Sd e5q M2 ∧ ((L2 = [] ∨ R2 = []) → M2 = L2 ++ R2) ∧ (L2 ≠ [] → R2 ≠ [] → XC pg 267 [.one (.ol 2000), Z (mid : Int), Z (e : Int), Z (b : Int), .one (.d (.fn 135))] [(2000, .lst 85 7 ((A ++ M1 ++ L2 ++ R2 ++ C).map (·.1)))] (.tup []) [(2000, .lst 85 7 ((A ++ M1 ++ M2 ++ C).map (·.1)))]) := by
  by_cases h : L2 = [] ∨ R2 = []
  ·refine ⟨L2 ++ R2, .refl _, ?_, fun _ => rfl, fun h1 h2 => absurd h (by simp [h1, h2])⟩
   rcases h with rfl | rfl
   ·simpa using hr2
   ·simpa using hs2
  ·have h1 : L2 ≠ [] := fun e => h (.inl e)
   have h2 : R2 ≠ [] := fun e => h (.inr e)
   obtain ⟨M2, p, q, c⟩ := ih (A ++ M1) L2 R2 C hlt2 h1 h2 (fun w hw => ht w (by
    have hp : w ∈ M1 → w ∈ L1 ++ R1 := fun h => p1.subset h
    simp at hw hp ⊢; grind)) (by simp; omega) hs2 hr2
   refine ⟨M2, p, q, fun e => absurd e h, fun _ _ => ?_⟩
   have e1 : (A ++ M1).length = mid := by simp; omega
   have e2 : (A ++ M1 ++ L2).length = e := by simp; omega
   have e3 : (A ++ M1 ++ L2 ++ R2).length = b := by simp; omega
   rw [e1, e2, e3] at c
   exact c
 have hcross1 : ∀ x ∈ L1, ∀ y ∈ R2, ¬ e5q y x := fun x hx y hy => by
  rcases f1 with (h | h) | ⟨y0, z0, g1, g2, g3⟩
  ·simp [h] at hx
  ·simp [h] at hy
  ·exact H0q hO hr2 (.inr ⟨z0, g2, a07q hO hs1 (.inr ⟨y0, g1, g3⟩) x hx⟩) y hy
 have hcross2 : ∀ x ∈ R1, ∀ y ∈ L2, ¬ e5q y x := fun x hx y hy => by
  rcases f2 with (h | h) | ⟨y0, z0, g1, g2, g3⟩
  ·simp [h] at hy
  ·simp [h] at hx
  ·exact H0q hO hs2 (.inr ⟨y0, g1, hO.asym (a0jq hO hr1 (.inr ⟨z0, g2, g3⟩) x hx)⟩) y hy
 refine ⟨M1 ++ M2, ?_, s6q.2 ⟨q1, q2, fun x hx y hy => ?_⟩, fun s21 s22 h21 => ?_⟩
 ·refine (p1.append p2).trans ?_
  have e1 : L1 ++ R1 ++ (L2 ++ R2) = L1 ++ ((R1 ++ L2) ++ R2) := by simp
  have e2 : L1 ++ L2 ++ (R1 ++ R2) = L1 ++ ((L2 ++ R1) ++ R2) := by simp
  rw [e1, e2]
  exact (List.perm_append_comm.append_right R2).append_left L1
 ·have hx := p1.subset hx
  have hy := p2.subset hy
  rcases List.mem_append.1 hx with hx | hx <;> rcases List.mem_append.1 hy with hy | hy
  ·exact hs12 x hx y hy
  ·exact hcross1 x hx y hy
  ·exact hcross2 x hx y hy
  ·exact hr12 x hx y hy
 ·subst h21
  obtain ⟨D3, hD3⟩ : ∃ D3, D3 = A ++ M1 ++ M2 ++ C := ⟨_, rfl⟩
  have eO : A ++ (M1 ++ M2) ++ C = D3 := by rw [hD3]; simp
  rw [eO]
  have hRight : ifB (decide ((mid : Int) < ((e : Nat) : Int))) (ifB (decide (((e : Nat) : Int) < (b : Int))) (∃ xs', XC pg 267 [.one (.ol 2000), Z (mid : Int), Z ((e : Nat) : Int), Z (b : Int), .one (.d (.fn 135))] [(2000, .lst 85 7 ((A ++ M1 ++ L2 ++ R2 ++ C).map (·.1)))] (.tup []) [(2000, .lst 85 7 xs')] ∧ ((AV.tup []) = .tup [] ∧ [((2000 : Nat), Ob.lst 85 7 (xs'))] = [(2000, Ob.lst 85 7 (D3.map (·.1)))])) ((AV.tup []) = .tup [] ∧ [((2000 : Nat), Ob.lst 85 7 ((A ++ M1 ++ L2 ++ R2 ++ C).map (·.1)))] = [(2000, Ob.lst 85 7 (D3.map (·.1)))])) ((AV.tup []) = .tup [] ∧ [((2000 : Nat), Ob.lst 85 7 ((A ++ M1 ++ L2 ++ R2 ++ C).map (·.1)))] = [(2000, Ob.lst 85 7 (D3.map (·.1)))]) := by
   by_cases h2 : L2 = []
   ·refine a2q (decide_eq_false (by subst h2; simp at hm; omega)) ⟨rfl, ?_⟩
    rw [hD3, z2 (.inl h2)]; simp
   ·have := List.length_pos_iff.2 h2
    refine a6q (decide_eq_true (by omega)) ?_
    by_cases h3 : R2 = []
    ·refine a2q (decide_eq_false (by subst h3; simp at hb; omega)) ⟨rfl, ?_⟩
     rw [hD3, z2 (.inr h3)]; simp
    ·have := List.length_pos_iff.2 h3
     exact a6q (decide_eq_true (by omega)) ⟨_, c2 h2 h3, rfl, by rw [hD3]⟩
  have hLeft : ifB (decide ((a : Int) < (k : Int))) (ifB (decide ((k : Int) < (mid : Int))) (∃ xs1, XC pg 267 [.one (.ol 2000), Z (a : Int), Z (k : Int), Z (mid : Int), .one (.d (.fn 135))] [(2000, .lst 85 7 ((A ++ L1 ++ R1 ++ L2 ++ R2 ++ C).map (·.1)))] (.tup []) [(2000, .lst 85 7 xs1)] ∧ ifB (decide ((mid : Int) < ((e : Nat) : Int))) (ifB (decide (((e : Nat) : Int) < (b : Int))) (∃ xs', XC pg 267 [.one (.ol 2000), Z (mid : Int), Z ((e : Nat) : Int), Z (b : Int), .one (.d (.fn 135))] [(2000, .lst 85 7 (xs1))] (.tup []) [(2000, .lst 85 7 xs')] ∧ ((AV.tup []) = .tup [] ∧ [((2000 : Nat), Ob.lst 85 7 (xs'))] = [(2000, Ob.lst 85 7 (D3.map (·.1)))])) ((AV.tup []) = .tup [] ∧ [((2000 : Nat), Ob.lst 85 7 (xs1))] = [(2000, Ob.lst 85 7 (D3.map (·.1)))])) ((AV.tup []) = .tup [] ∧ [((2000 : Nat), Ob.lst 85 7 (xs1))] = [(2000, Ob.lst 85 7 (D3.map (·.1)))])) (ifB (decide ((mid : Int) < ((e : Nat) : Int))) (ifB (decide (((e : Nat) : Int) < (b : Int))) (∃ xs', XC pg 267 [.one (.ol 2000), Z (mid : Int), Z ((e : Nat) : Int), Z (b : Int), .one (.d (.fn 135))] [(2000, .lst 85 7 ((A ++ L1 ++ R1 ++ L2 ++ R2 ++ C).map (·.1)))] (.tup []) [(2000, .lst 85 7 xs')] ∧ ((AV.tup []) = .tup [] ∧ [((2000 : Nat), Ob.lst 85 7 (xs'))] = [(2000, Ob.lst 85 7 (D3.map (·.1)))])) ((AV.tup []) = .tup [] ∧ [((2000 : Nat), Ob.lst 85 7 ((A ++ L1 ++ R1 ++ L2 ++ R2 ++ C).map (·.1)))] = [(2000, Ob.lst 85 7 (D3.map (·.1)))])) ((AV.tup []) = .tup [] ∧ [((2000 : Nat), Ob.lst 85 7 ((A ++ L1 ++ R1 ++ L2 ++ R2 ++ C).map (·.1)))] = [(2000, Ob.lst 85 7 (D3.map (·.1)))]))) (ifB (decide ((mid : Int) < ((e : Nat) : Int))) (ifB (decide (((e : Nat) : Int) < (b : Int))) (∃ xs', XC pg 267 [.one (.ol 2000), Z (mid : Int), Z ((e : Nat) : Int), Z (b : Int), .one (.d (.fn 135))] [(2000, .lst 85 7 ((A ++ L1 ++ R1 ++ L2 ++ R2 ++ C).map (·.1)))] (.tup []) [(2000, .lst 85 7 xs')] ∧ ((AV.tup []) = .tup [] ∧ [((2000 : Nat), Ob.lst 85 7 (xs'))] = [(2000, Ob.lst 85 7 (D3.map (·.1)))])) ((AV.tup []) = .tup [] ∧ [((2000 : Nat), Ob.lst 85 7 ((A ++ L1 ++ R1 ++ L2 ++ R2 ++ C).map (·.1)))] = [(2000, Ob.lst 85 7 (D3.map (·.1)))])) ((AV.tup []) = .tup [] ∧ [((2000 : Nat), Ob.lst 85 7 ((A ++ L1 ++ R1 ++ L2 ++ R2 ++ C).map (·.1)))] = [(2000, Ob.lst 85 7 (D3.map (·.1)))])) := by
   by_cases h2 : L1 = []
   ·refine a2q (decide_eq_false (by subst h2; simp at hk; omega)) ?_
    rw [z1 (.inl h2)] at hRight
    simpa using hRight
   ·have := List.length_pos_iff.2 h2
    refine a6q (decide_eq_true (by omega)) ?_
    by_cases h3 : R1 = []
    ·refine a2q (decide_eq_false (by subst h3; simp at hmid; omega)) ?_
     rw [z1 (.inr h3)] at hRight
     simpa using hRight
    ·have := List.length_pos_iff.2 h3
     exact a6q (decide_eq_true (by omega)) ⟨_, c1 h2 h3, hRight⟩
  have w : IntKind.wrap .i64 (((mid + m : Nat) : Int) - (k : Int)) = ((e : Nat) : Int) := by rw [wrI (by omega) (by omega)]; omega
  apply l3q
  rw [w]
  refine a2q (decide_eq_false (by omega)) ?_
  by_cases h2 : L2 = []
  ·refine a2q (decide_eq_false (by subst h2; simp at hm; omega)) ?_
   have e1 : A ++ L1 ++ L2 ++ R1 ++ R2 ++ C = A ++ L1 ++ R1 ++ L2 ++ R2 ++ C := by subst h2; simp
   rw [e1]
   exact hLeft
  ·have := List.length_pos_iff.2 h2
   refine a6q (decide_eq_true (by omega)) ?_
   by_cases h3 : R1 = []
   ·refine a2q (decide_eq_false (by subst h3; simp at he; omega)) ?_
    have e1 : A ++ L1 ++ L2 ++ R1 ++ R2 ++ C = A ++ L1 ++ R1 ++ L2 ++ R2 ++ C := by subst h3; simp
    rw [e1]
    exact hLeft
   ·have := List.length_pos_iff.2 h3
    have c := a80q (A ++ L1) L2 R1 (R2 ++ C) h2 h3 (fun w hw => ht w (by simp at hw ⊢; grind)) (by simp; omega)
    have e1 : A ++ L1 ++ L2 ++ R1 ++ (R2 ++ C) = A ++ L1 ++ L2 ++ R1 ++ R2 ++ C := by simp
    have e2 : A ++ L1 ++ R1 ++ L2 ++ (R2 ++ C) = A ++ L1 ++ R1 ++ L2 ++ R2 ++ C := by simp
    have e3 : (A ++ L1).length = k := by simp; omega
    have e4 : (A ++ L1 ++ L2).length = m := by simp; omega
    have e5 : (A ++ L1 ++ L2 ++ R1).length = e := by simp; omega
    rw [e1, e2, e3, e4, e5] at c
    exact a6q (decide_eq_true (by omega)) ⟨_, c, hLeft⟩
theorem aaRq (A L R C : List (List Da × Li)) (a m b mid lo hi : Nat) (ha : a = A.length) (hm : m = a + L.length) (hb : b = m + R.length) (hlh : lo ≤ hi) (hla : a ≤ lo) (hhm : hi ≤ m) (hc : ∀ c, lo ≤ c → c < hi → m + c ≤ mid + m - 1 ∧ mid + m - 1 - c < b) (ht : ∀ z ∈ A ++ L ++ R ++ C, TgP Li.da z) (hl : (A ++ L ++ R ++ C).length ≤ 3000000000000) (hmid : mid ≤ 3000000000000) :
  ∃ k, lo ≤ k ∧ k ≤ hi ∧ (k = lo ∨ ∃ y z, L[k - 1 - a]? = some y ∧ R[mid + m - 1 - (k - 1) - m]? = some z ∧ ¬ e5q z y) ∧ (k = hi ∨ ¬ ∃ y z, L[k - a]? = some y ∧ R[mid + m - 1 - k - m]? = some z ∧ ¬ e5q z y) ∧
  ∀ t : AV × List (Nat × Ob), a9q t.1 t.2 (a : Int) (m : Int) (b : Int) (mid : Int) ((mid + m : Nat) : Int) (k : Int) (k : Int) ((mid + m - 1 : Nat) : Int) ((A ++ L ++ R ++ C).map (·.1)) → a9q t.1 t.2 (a : Int) (m : Int) (b : Int) (mid : Int) ((mid + m : Nat) : Int) (lo : Int) (hi : Int) ((mid + m - 1 : Nat) : Int) ((A ++ L ++ R ++ C).map (·.1)) := by
 have hl' : A.length + L.length + R.length + C.length ≤ 3000000000000 := by simp at hl; omega
 have hlen : ((A ++ L ++ R ++ C).map (·.1)).length = A.length + L.length + R.length + C.length := by simp; omega
 refine X0q (ι := AV × List (Nat × Ob)) (p := fun t i j => a9q t.1 t.2 (a : Int) (m : Int) (b : Int) (mid : Int) ((mid + m : Nat) : Int) (i : Int) (j : Int) ((mid + m - 1 : Nat) : Int) ((A ++ L ++ R ++ C).map (·.1))) (ex := fun t i => a9q t.1 t.2 (a : Int) (m : Int) (b : Int) (mid : Int) ((mid + m : Nat) : Int) (i : Int) (i : Int) ((mid + m - 1 : Nat) : Int) ((A ++ L ++ R ++ C).map (·.1)))
  (fun c => ∃ y z, L[c - a]? = some y ∧ R[mid + m - 1 - c - m]? = some z ∧ ¬ e5q z y) lo hi (fun t i _ _ h => h) (fun t i j h1 h2 h3 => ?_) (hi - lo) lo hi (Nat.le_refl _) (Nat.le_refl _) hlh (Nat.le_refl _) (.inl rfl) (.inl rfl)
 obtain ⟨hc1, hc2⟩ := hc ((i + j) / 2) (by omega) (by omega)
 obtain ⟨y, hy⟩ := d0q (l := L) (i := (i + j) / 2 - a) (by omega)
 obtain ⟨z, hz⟩ := d0q (l := R) (i := mid + m - 1 - (i + j) / 2 - m) (by omega)
 have hym := List.mem_of_getElem? hy
 have hzm := List.mem_of_getElem? hz
 have hcmp := a3mq (ht z (by simp [hzm])) (ht y (by simp [hym]))
 have gy := x3q (fun z : List Da × Li => z.1) (P := A) (Q := R ++ C) hy
 have gz := x3q (fun z : List Da × Li => z.1) (P := A ++ L) (Q := C) hz
 have eh : A.length + ((i + j) / 2 - a) = (i + j) / 2 := by omega
 have eg : (A ++ L).length + (mid + m - 1 - (i + j) / 2 - m) = mid + m - 1 - (i + j) / 2 := by simp; omega
 have eD : A ++ L ++ (R ++ C) = A ++ L ++ R ++ C := by simp
 rw [eh, eD] at gy
 rw [eg] at gz
 obtain ⟨_, _, _, _, _, _, _, ez⟩ := (ht z (by simp [hzm])).lit
 obtain ⟨_, _, _, _, _, _, _, ey⟩ := (ht y (by simp [hym])).lit
 have core : (¬ e5q z y → a9q t.1 t.2 (a : Int) (m : Int) (b : Int) (mid : Int) ((mid + m : Nat) : Int) (((i + j) / 2 + 1 : Nat) : Int) (j : Int) ((mid + m - 1 : Nat) : Int) ((A ++ L ++ R ++ C).map (·.1))) → (e5q z y → a9q t.1 t.2 (a : Int) (m : Int) (b : Int) (mid : Int) ((mid + m : Nat) : Int) (i : Int) (((i + j) / 2 : Nat) : Int) ((mid + m - 1 : Nat) : Int) ((A ++ L ++ R ++ C).map (·.1))) → a9q t.1 t.2 (a : Int) (m : Int) (b : Int) (mid : Int) ((mid + m : Nat) : Int) (i : Int) (j : Int) ((mid + m - 1 : Nat) : Int) ((A ++ L ++ R ++ C).map (·.1)) := by
  intro c1 c2
  have w1 : IntKind.wrap .i64 ((((i + j) / 2 : Nat) : Int) + 1) = (((i + j) / 2 + 1 : Nat) : Int) := by rw [wrI (by omega) (by omega)]; simp
  have w2 : IntKind.wrap .i64 (((mid + m - 1 : Nat) : Int) - (((i + j) / 2 : Nat) : Int)) = ((mid + m - 1 - (i + j) / 2 : Nat) : Int) := by rw [wrI (by omega) (by omega)]; omega
  rw [ez] at gz hcmp
  rw [ey] at gy hcmp
  apply l3q
  rw [midw (by omega), w1, w2]
  refine a6q (decide_eq_true (by omega)) ⟨⟨F3q⟩, _, rfl, ⟨by rw [hlen]; omega⟩, _, rfl, _, _, _, _, _, _, _, gz, _, rfl, ⟨by rw [hlen]; omega⟩, _, rfl, _, _, _, _, _, _, _, gy, _, hcmp, ?_⟩
  by_cases hlt : e5q z y
  ·exact a2q (by rw [decide_eq_true (show Li.cmp z.2 y.2 < 0 from hlt)]; rfl) (c2 hlt)
  ·exact a6q (by rw [decide_eq_false (show ¬ Li.cmp z.2 y.2 < 0 from hlt)]; rfl) (c1 hlt)
 refine ⟨fun hf hp => core (fun _ => hp) fun hn => ?_, fun hn hp => core (fun hlt => absurd ⟨y, z, hy, hz, hlt⟩ hn) fun _ => hp⟩
 obtain ⟨y', z', hy', hz', hlt⟩ := hf
 rw [hy] at hy'
 rw [hz] at hz'
 cases hy'
 cases hz'
 exact absurd hn hlt
theorem a0bq (hO : SWO e5q) : ∀ (n : Nat) (A L R C : List (List Da × Li)), (L ++ R).length ≤ n → L ≠ [] → R ≠ [] → (∀ z ∈ A ++ L ++ R ++ C, TgP Li.da z) → (A ++ L ++ R ++ C).length ≤ 3000000000000 → Sd e5q L → Sd e5q R → ∃ M, M.Perm (L ++ R) ∧ Sd e5q M ∧ XC pg 267 [.one (.ol 2000), Z (A.length : Int), Z ((A ++ L).length : Int), Z ((A ++ L ++ R).length : Int), .one (.d (.fn 135))] [(2000, .lst 85 7 ((A ++ L ++ R ++ C).map (·.1)))] (.tup []) [(2000, .lst 85 7 ((A ++ M ++ C).map (·.1)))] := by
 intro n
 induction n with
 | zero =>
  intro A L R C hn hL _ _ _ _ _
  exact absurd (List.eq_nil_of_length_eq_zero (by simp at hn; simp [hn])) hL
 | succ n ih =>
  intro A L R C hn hL hR ht hl hsL hsR
  have hL' := List.length_pos_iff.2 hL
  have hR' := List.length_pos_iff.2 hR
  have hl' : A.length + L.length + R.length + C.length ≤ 3000000000000 := by simp at hl; omega
  have hn' : L.length + R.length ≤ n + 1 := by simpa using hn
  have em : (A ++ L).length = A.length + L.length := by simp
  have eb : (A ++ L ++ R).length = A.length + L.length + R.length := by simp; omega
  have w1 : IntKind.wrap .i64 (((A.length + L.length : Nat) : Int) - (A.length : Int)) = (L.length : Int) := by rw [wrI (by omega) (by omega)]; omega
  have w2 : IntKind.wrap .i64 (((A.length + L.length + R.length : Nat) : Int) - ((A.length + L.length : Nat) : Int)) = (R.length : Int) := by rw [wrI (by omega) (by omega)]; omega
  rw [em, eb]
  by_cases h1 : L.length = 1
  ·obtain ⟨x, rfl⟩ : ∃ x, L = [x] := List.length_eq_one_iff.1 h1
   obtain ⟨M, p1, p2, p3⟩ := aeAq hO A R C x (by simpa using ht) (by simpa using hl) hsR
   refine ⟨M, p1, p2, ?_⟩
   apply g6q
   rw [w1]
   refine a6q (decide_eq_true (by omega)) ?_
   have e1 : A ++ [x] ++ R ++ C = A ++ x :: R ++ C := by simp
   rw [e1]
   exact p3
  ·by_cases h2 : R.length = 1
   ·obtain ⟨x, rfl⟩ : ∃ x, R = [x] := List.length_eq_one_iff.1 h2
    obtain ⟨M, p1, p2, p3⟩ := adIq hO A L C x (by simpa using ht) (by simpa using hl) hsL
    refine ⟨M, p1, p2, ?_⟩
    apply g6q
    rw [w1, w2]
    refine a2q (decide_eq_false (by omega)) (a6q (decide_eq_true (by omega)) ?_)
    have e1 : A ++ L ++ [x] ++ C = A ++ L ++ x :: C := by simp
    rw [e1]
    exact p3
   ·obtain ⟨a, ha⟩ : ∃ a, a = A.length := ⟨_, rfl⟩
    obtain ⟨m, hm⟩ : ∃ m, m = a + L.length := ⟨_, rfl⟩
    obtain ⟨b, hb⟩ : ∃ b, b = m + R.length := ⟨_, rfl⟩
    rw [← ha, ← hm] at w1
    rw [← ha, ← hm, ← hb] at w2 ⊢
    obtain ⟨mid, hmid⟩ : ∃ mid, mid = (a + b) / 2 := ⟨_, rfl⟩
    have wm : IntKind.wrap .i64 (((mid : Nat) : Int) + (m : Int)) = ((mid + m : Nat) : Int) := by rw [wrI (by omega) (by omega)]; simp
    have wp : IntKind.wrap .i64 (((mid + m : Nat) : Int) - 1) = ((mid + m - 1 : Nat) : Int) := by rw [wrI (by omega) (by omega)]; omega
    have hcases : ∃ lo hi, lo ≤ hi ∧ a ≤ lo ∧ hi ≤ m ∧ hi ≤ mid ∧ mid + m ≤ b + lo ∧ (∀ c, lo ≤ c → c < hi → m + c ≤ mid + m - 1 ∧ mid + m - 1 - c < b) ∧ (lo = a ∨ mid + m = b + lo) ∧ (hi = m ∨ hi = mid) ∧
      ∀ (r : AV) (O : List (Nat × Ob)), a9q r O (a : Int) (m : Int) (b : Int) (mid : Int) ((mid + m : Nat) : Int) (lo : Int) (hi : Int) ((mid + m - 1 : Nat) : Int) ((A ++ L ++ R ++ C).map (·.1)) → XC pg 267 [.one (.ol 2000), Z (a : Int), Z (m : Int), Z (b : Int), .one (.d (.fn 135))] [(2000, .lst 85 7 ((A ++ L ++ R ++ C).map (·.1)))] r O := by
     by_cases hgt : mid < m
     ·refine ⟨mid + m - b, mid, by omega, by omega, by omega, by omega, by omega, fun c h1 h2 => by omega, by omega, .inr rfl, fun r O h => ?_⟩
      have w3 : IntKind.wrap .i64 (((mid + m : Nat) : Int) - (b : Int)) = ((mid + m - b : Nat) : Int) := by rw [wrI (by omega) (by omega)]; omega
      apply g6q
      rw [w1, w2, midw (by omega), ← hmid, wm, wp, w3]
      exact a2q (decide_eq_false (by omega)) (a2q (decide_eq_false (by omega)) ⟨⟨F3q⟩, a6q (decide_eq_true (by omega)) h⟩)
     ·refine ⟨a, m, by omega, by omega, by omega, by omega, by omega, fun c h1 h2 => by omega, .inl rfl, .inl rfl, fun r O h => ?_⟩
      apply g6q
      rw [w1, w2, midw (by omega), ← hmid, wm, wp]
      exact a2q (decide_eq_false (by omega)) (a2q (decide_eq_false (by omega)) ⟨⟨F3q⟩, a2q (decide_eq_false (by omega)) h⟩)
    obtain ⟨lo, hi, c1, c2, c3, c4, c5, c6, c7, c8, c9⟩ := hcases
    obtain ⟨k, k1, k2, k3, k4, k5⟩ := aaRq A L R C a m b mid lo hi ha hm hb c1 c2 c3 c6 ht hl (by omega)
    obtain ⟨L1, L2, rfl, hL1⟩ : ∃ L1 L2, L = L1 ++ L2 ∧ L1.length = k - a := ⟨L.take (k - a), L.drop (k - a), by simp, by simp; omega⟩
    obtain ⟨R1, R2, rfl, hR1⟩ : ∃ R1 R2, R = R1 ++ R2 ∧ R1.length = mid - k := ⟨R.take (mid - k), R.drop (mid - k), by simp, by simp; omega⟩
    rw [List.length_append] at hm hb
    have f1 : (L1 = [] ∨ R2 = []) ∨ ∃ y0 z0, L1[L1.length - 1]? = some y0 ∧ R2[0]? = some z0 ∧ ¬ e5q z0 y0 := by
     by_cases hk0 : k = lo
     ·left
      rcases c7 with h | h
      ·exact .inl (List.eq_nil_of_length_eq_zero (by omega))
      ·exact .inr (List.eq_nil_of_length_eq_zero (by omega))
     ·right
      rcases k3 with h | ⟨y, z, hy, hz, hlt⟩
      ·exact absurd h hk0
      ·refine ⟨y, z, ?_, ?_, hlt⟩
       ·rw [← hy, List.getElem?_append_left (by omega)]; congr 1; omega
       ·rw [← hz, List.getElem?_append_right (by omega)]; congr 1; omega
    have f2 : (L2 = [] ∨ R1 = []) ∨ ∃ y0 z0, L2[0]? = some y0 ∧ R1[R1.length - 1]? = some z0 ∧ e5q z0 y0 := by
     by_cases hk0 : k = hi
     ·left
      rcases c8 with h | h
      ·exact .inl (List.eq_nil_of_length_eq_zero (by omega))
      ·exact .inr (List.eq_nil_of_length_eq_zero (by omega))
     ·right
      have hc := c6 k k1 (by omega)
      obtain ⟨y, hy⟩ := d0q (l := L2) (i := 0) (by omega)
      obtain ⟨z, hz⟩ := d0q (l := R1) (i := R1.length - 1) (by omega)
      refine ⟨y, z, hy, hz, Classical.byContradiction fun hlt => ?_⟩
      rcases k4 with h | h
      ·exact hk0 h
      ·refine h ⟨y, z, ?_, ?_, hlt⟩
       ·rw [← hy, List.getElem?_append_right (by omega)]; congr 1; omega
       ·rw [← hz, List.getElem?_append_left (by omega)]; congr 1; omega
    have eD : A ++ (L1 ++ L2) ++ (R1 ++ R2) ++ C = A ++ L1 ++ L2 ++ R1 ++ R2 ++ C := by simp
    have hfacts : k = a + L1.length ∧ m = k + L2.length ∧ b = m + R1.length + R2.length ∧ mid = k + R1.length := by
     clear c7 c8 c9 k3 k4 k5 f1 f2 c6 w1 w2 wm wp ih ht hl
     omega
    have hsz : mid < b ∧ a < mid := by
     clear c7 c8 c9 k3 k4 k5 f1 f2 c6 w1 w2 wm wp ih ht hl
     simp only [List.length_append] at h1 h2 hL' hR'
     omega
    have hsum : (L1 ++ L2 ++ R1 ++ R2).length = L1.length + L2.length + R1.length + R2.length := by simp; omega
    have hs1 : (L1 ++ R1).length < (L1 ++ L2 ++ R1 ++ R2).length := by
     clear c7 c8 c9 k3 k4 k5 f1 f2 c6 w1 w2 wm wp ih ht hl
     rw [hsum, List.length_append]; omega
    have hs2 : (L2 ++ R2).length < (L1 ++ L2 ++ R1 ++ R2).length := by
     clear c7 c8 c9 k3 k4 k5 f1 f2 c6 w1 w2 wm wp ih ht hl
     rw [hsum, List.length_append]; omega
    have hn2 : (L1 ++ L2 ++ R1 ++ R2).length ≤ n + 1 := by
     rw [hsum]; simp only [List.length_append] at hn'; omega
    obtain ⟨g1, g2, g3, g4⟩ := hfacts
    obtain ⟨M, p1, p2, p3⟩ := af0q hO A L1 L2 R1 R2 C a m b mid k (m + R1.length) ha g1 g2 rfl g3 g4 (by rw [← eD]; exact ht) (by rw [← eD]; exact hl) hsL hsR f1 f2 (fun A' L' R' C' hlt h1 h2 h3 h4 h5 h6 => ih A' L' R' C' (Nat.le_of_lt_succ (Nat.lt_of_lt_of_le hlt hn2)) h1 h2 h3 h4 h5 h6) hs1 hs2
    refine ⟨M, p1, p2, c9 _ _ (k5 (_, _) ?_)⟩
    rw [eD]
    exact p3 _ _ rfl
inductive P0q (k : Nat) : List (List Da × Li) → Prop
 | last {l} : l.length ≤ k → Sd e5q l → P0q k l
 | cons {b r} : b.length = k → Sd e5q b → P0q k r → P0q k (b ++ r)
theorem a1Tq {k : Nat} (hk : 0 < k) {l : List (List Da × Li)} (h : P0q k l) (hl : l.length ≤ k) : Sd e5q l := by
 cases h with
 | last _ h => exact h
 | @cons b r h1 h2 _ =>
  have : r = [] := List.eq_nil_of_length_eq_zero (by simp at hl; omega)
  subst this
  simpa using h2
theorem aaAq (hO : SWO e5q) (k : Nat) (hk : 0 < k) (hk2 : k ≤ 6000000000000) : ∀ (n : Nat) (D S : List (List Da × Li)), S.length ≤ n → (∀ z ∈ D ++ S, TgP Li.da z) → (D ++ S).length ≤ 3000000000000 → P0q k S → ∃ S', S'.Perm S ∧ P0q (2 * k) S' ∧ ∀ (r : AV) (O : List (Nat × Ob)), c4q r O ((D ++ S).length : Int) ((2 * k : Nat) : Int) ((D ++ S').map (·.1)) → f3q r O ((D ++ S).length : Int) (k : Int) (D.length : Int) ((D.length + 2 * k : Nat) : Int) ((D ++ S).map (·.1)) := by
 intro n
 induction n with
 | zero =>
  intro D S hn ht hl hb
  have : S = [] := List.eq_nil_of_length_eq_zero (by omega)
  subst this
  refine ⟨[], .refl _, .last (by simp) .nil, fun r O h => ?_⟩
  have w1 : IntKind.wrap .i64 ((D.length : Int) + (k : Int)) = ((D.length + k : Nat) : Int) := by rw [wrI (by omega) (by simp at hl; omega)]; simp
  have w2 : IntKind.wrap .i64 ((k : Int) * 2) = ((2 * k : Nat) : Int) := by rw [wrI (by omega) (by omega)]; omega
  apply g5q
  rw [w1, w2]
  exact a2q (decide_eq_false (by simp; omega)) (a2q (decide_eq_false (by simp; omega)) h)
 | succ n ih =>
  intro D S hn ht hl hb
  have hl' : D.length + S.length ≤ 3000000000000 := by simpa using hl
  have hlen : (D ++ S).length = D.length + S.length := by simp
  have w1 : IntKind.wrap .i64 ((D.length : Int) + (k : Int)) = ((D.length + k : Nat) : Int) := by rw [wrI (by omega) (by omega)]; simp
  have w2 : IntKind.wrap .i64 ((k : Int) * 2) = ((2 * k : Nat) : Int) := by rw [wrI (by omega) (by omega)]; omega
  have w3 : IntKind.wrap .i64 (2 * (k : Int)) = ((2 * k : Nat) : Int) := by rw [wrI (by omega) (by omega)]; omega
  have w4 : IntKind.wrap .i64 (((D.length + 2 * k : Nat) : Int) + ((2 * k : Nat) : Int)) = ((D.length + 2 * k + 2 * k : Nat) : Int) := by rw [wrI (by omega) (by omega)]; omega
  by_cases h1 : S.length ≤ k
  ·refine ⟨S, .refl _, .last (by omega) (a1Tq hk hb h1), fun r O h => ?_⟩
   apply g5q
   rw [w1, w2]
   exact a2q (decide_eq_false (by omega)) (a2q (decide_eq_false (by omega)) h)
  ·obtain ⟨b1, S1, rfl, hb1, hs1, hb2⟩ : ∃ b1 S1, S = b1 ++ S1 ∧ b1.length = k ∧ Sd e5q b1 ∧ P0q k S1 := by
    cases hb with
    | last h _ => exact absurd h h1
    | cons h2 h3 h4 => exact ⟨_, _, rfl, h2, h3, h4⟩
   simp only [List.length_append] at h1 hn hl'
   have hlen : (D ++ (b1 ++ S1)).length = D.length + (b1.length + S1.length) := by simp
   by_cases h2 : S1.length < k
   ·have hs2 := a1Tq hk hb2 (by omega)
    obtain ⟨M, p1, p2, p3⟩ := a0bq hO _ D b1 S1 [] (Nat.le_refl _) (by intro h; subst h; simp at hb1; omega) (by intro h; subst h; simp at h1; omega) (by simpa using ht) (by simpa using hl) hs1 hs2
    refine ⟨M, p1, .last (by rw [p1.length_eq]; simp; omega) p2, fun r O h => ?_⟩
    apply g5q
    rw [w1, w2]
    have e1 : (D ++ b1).length = D.length + k := by simp [hb1]
    have e2 : (D ++ b1 ++ S1).length = (D ++ (b1 ++ S1)).length := by simp <;> omega
    have e3 : D ++ b1 ++ S1 ++ [] = D ++ (b1 ++ S1) := by simp
    rw [e1, e2, e3, List.append_nil] at p3
    exact a2q (decide_eq_false (by omega)) (a6q (decide_eq_true (by omega)) ⟨_, p3, h⟩)
   ·obtain ⟨b2, S2, rfl, hb2l, hs2, hb3⟩ : ∃ b2 S2, S1 = b2 ++ S2 ∧ b2.length = k ∧ Sd e5q b2 ∧ P0q k S2 := by
     cases hb2 with
     | last g g' => exact ⟨_, [], by simp, by omega, g', .last (by simp) .nil⟩
     | cons g2 g3 g4 => exact ⟨_, _, rfl, g2, g3, g4⟩
    simp only [List.length_append] at h1 h2 hn hl'
    have hlen : (D ++ (b1 ++ (b2 ++ S2))).length = D.length + (b1.length + (b2.length + S2.length)) := by simp
    obtain ⟨M, p1, p2, p3⟩ := a0bq hO _ D b1 b2 S2 (Nat.le_refl _) (by intro h; subst h; simp at hb1; omega) (by intro h; subst h; simp at hb2l; omega) (by simpa using ht) (by simpa using hl) hs1 hs2
    have pl := p1.length_eq
    simp only [List.length_append] at pl
    obtain ⟨S', q1, q2, q3⟩ := ih (D ++ M) S2 (by omega) (fun w hw => ht w (by
     have hp : w ∈ M → w ∈ b1 ++ b2 := fun h => p1.subset h
     simp at hw hp ⊢; grind)) (by simp; omega) hb3
    refine ⟨M ++ S', ?_, .cons (by omega) p2 q2, fun r O h => ?_⟩
    ·have := (p1.append q1)
     simpa using this
    ·have e4 : D ++ M ++ S' = D ++ (M ++ S') := by simp
     have e5 : (D ++ M ++ S2).length = (D ++ (b1 ++ (b2 ++ S2))).length := by simp; omega
     have e6 : (D ++ M).length = D.length + 2 * k := by simp; omega
     have h5 := q3 r O
     rw [e4, e5, e6] at h5
     have e1 : (D ++ b1).length = D.length + k := by simp [hb1]
     have e2 : (D ++ b1 ++ b2).length = D.length + 2 * k := by simp; omega
     have e3 : D ++ b1 ++ b2 ++ S2 = D ++ (b1 ++ (b2 ++ S2)) := by simp
     rw [e1, e2, e3] at p3
     apply g5q
     rw [w1, w3, w4]
     exact a6q (decide_eq_true (by omega)) ⟨_, p3, h5 h⟩
theorem aaQq (hO : SWO e5q) : ∀ (n k : Nat) (S : List (List Da × Li)), S.length ≤ n + k → 0 < k → k ≤ 6000000000000 → (∀ z ∈ S, TgP Li.da z) → S.length ≤ 3000000000000 → P0q k S → ∃ S', S'.Perm S ∧ Sd e5q S' ∧ c4q (.tup []) [(2000, .lst 85 7 ((S').map (·.1)))] (S.length : Int) (k : Int) (S.map (·.1)) := by
 intro n
 induction n with
 | zero =>
  intro k S hn hk hk2 ht hl hb
  refine ⟨S, .refl _, a1Tq hk hb (by omega), ?_⟩
  apply i9q
  exact a2q (decide_eq_false (by omega)) ⟨rfl, rfl⟩
 | succ n ih =>
  intro k S hn hk hk2 ht hl hb
  by_cases h : S.length ≤ k
  ·refine ⟨S, .refl _, a1Tq hk hb h, ?_⟩
   apply i9q
   exact a2q (decide_eq_false (by omega)) ⟨rfl, rfl⟩
  ·obtain ⟨S1, p1, p2, p3⟩ := aaAq hO k hk hk2 S.length [] S (Nat.le_refl _) (by simpa using ht) (by simpa using hl) hb
   have pl := p1.length_eq
   obtain ⟨S', q1, q2, q3⟩ := ih (2 * k) S1 (by omega) (by omega) (by omega) (fun z hz => ht z (p1.subset hz)) (by omega) p2
   refine ⟨S', q1.trans p1, q2, ?_⟩
   have w3 : IntKind.wrap .i64 (2 * (k : Int)) = ((2 * k : Nat) : Int) := by rw [wrI (by omega) (by omega)]; omega
   have h5 := p3 (.tup []) [(2000, .lst 85 7 ((S').map (·.1)))]
   simp only [List.nil_append, List.length_nil, Nat.zero_add] at h5
   rw [pl] at q3
   apply i9q
   rw [w3]
   exact a6q (decide_eq_true (by omega)) (h5 q3)
theorem a6Cq (hO : SWO e5q) : ∀ (n : Nat) (D S : List (List Da × Li)), S.length ≤ n → (∀ z ∈ D ++ S, TgP Li.da z) → (D ++ S).length ≤ 3000000000000 → ∃ S', S'.Perm S ∧ P0q 20 S' ∧ ∀ (r : AV) (O : List (Nat × Ob)), c4q r O ((D ++ S).length : Int) 20 ((D ++ S').map (·.1)) → f5q r O ((D ++ S).length : Int) 20 (D.length : Int) ((D.length + 20 : Nat) : Int) ((D ++ S).map (·.1)) := by
 intro n
 induction n with
 | zero =>
  intro D S hn ht hl
  have : S = [] := List.eq_nil_of_length_eq_zero (by omega)
  subst this
  obtain ⟨M, p1, p2, p3⟩ := T7q hO D [] [] (by simpa using ht) (by simpa using hl)
  have : M = [] := List.eq_nil_of_length_eq_zero (by rw [p1.length_eq]; rfl)
  subst this
  refine ⟨[], .refl _, .last (by simp) .nil, fun r O h => ?_⟩
  simp only [List.append_nil] at p3 h ⊢
  apply j0q
  exact a2q (decide_eq_false (by omega)) ⟨_, p3, h⟩
 | succ n ih =>
  intro D S hn ht hl
  have hl' : D.length + S.length ≤ 3000000000000 := by simpa using hl
  have hlen : (D ++ S).length = D.length + S.length := by simp
  by_cases h1 : S.length < 20
  ·obtain ⟨M, p1, p2, p3⟩ := T7q hO D S [] (by simpa using ht) (by simpa using hl)
   refine ⟨M, p1, .last (by rw [p1.length_eq]; omega) p2, fun r O h => ?_⟩
   apply j0q
   rw [List.append_nil, List.append_nil] at p3
   exact a2q (decide_eq_false (by omega)) ⟨_, p3, h⟩
  ·obtain ⟨b, S2, rfl, hb⟩ : ∃ b S2, S = b ++ S2 ∧ b.length = 20 := ⟨S.take 20, S.drop 20, by simp, by simp; omega⟩
   simp only [List.length_append] at h1 hn hl'
   have hlen : (D ++ (b ++ S2)).length = D.length + (b.length + S2.length) := by simp
   obtain ⟨M, p1, p2, p3⟩ := T7q hO D b S2 (by simpa using ht) (by simpa using hl)
   have pl := p1.length_eq
   obtain ⟨S', q1, q2, q3⟩ := ih (D ++ M) S2 (by omega) (fun w hw => ht w (by
    have hp : w ∈ M → w ∈ b := fun h => p1.subset h
    simp at hw hp ⊢; grind)) (by simp; omega)
   refine ⟨M ++ S', p1.append q1, .cons (by omega) p2 q2, fun r O h => ?_⟩
   have e4 : D ++ M ++ S' = D ++ (M ++ S') := by simp
   have e5 : (D ++ M ++ S2).length = (D ++ (b ++ S2)).length := by simp; omega
   have e6 : (D ++ M).length = D.length + 20 := by simp; omega
   have h5 := q3 r O
   rw [e4, e5, e6] at h5
   have e1 : (D ++ b).length = D.length + 20 := by simp [hb]
   have e3 : D ++ b ++ S2 = D ++ (b ++ S2) := by simp
   have w4 : IntKind.wrap .i64 (((D.length + 20 : Nat) : Int) + 20) = ((D.length + 20 + 20 : Nat) : Int) := by rw [wrI (by omega) (by omega)]; omega
   rw [e1, e3] at p3
   apply j0q
   rw [w4]
   exact a6q (decide_eq_true (by omega)) ⟨_, p3, h5 h⟩
theorem aaBq (hO : SWO e5q) (S : List (List Da × Li)) (ht : ∀ z ∈ S, TgP Li.da z) (hl : S.length ≤ 3000000000000) : ∃ S', S'.Perm S ∧ Sd e5q S' ∧ XC pg 235 [.one (.ol 2000), .one (.d (.fn 135))] [(2000, .lst 85 7 ((S).map (·.1)))] (.tup []) [(2000, .lst 85 7 ((S').map (·.1)))] := by
 obtain ⟨S1, p1, p2, p3⟩ := a6Cq hO S.length [] S (Nat.le_refl _) (by simpa using ht) (by simpa using hl)
 have pl := p1.length_eq
 obtain ⟨S', q1, q2, q3⟩ := aaQq hO S.length 20 S1 (by omega) (by omega) (by omega) (fun z hz => ht z (p1.subset hz)) (by omega) p2
 refine ⟨S', q1.trans p1, q2, ?_⟩
 have h5 := p3 (.tup []) [(2000, .lst 85 7 ((S').map (·.1)))]
 simp only [List.nil_append, List.length_nil, Nat.zero_add] at h5
 rw [pl] at q3
 apply w3q
 refine ⟨_, x7q ?_, rfl, rfl⟩
 rw [List.length_map]
 exact h5 q3
theorem a4jq {x y r s : Int} (h : r = -s) : u7q x y r = -u7q y x s := by
 unfold u7q; split <;> split <;> (try split) <;> omega
theorem a73q {x y r : Int} : u7q x y r ≤ 0 ↔ x < y ∨ (x = y ∧ r ≤ 0) := by
 unfold u7q; split
 ·omega
 ·split <;> omega
mutual
theorem Tm.cmp_neg : ∀ a b : Tm, Tm.cmp a b = -Tm.cmp b a
 | .mk f v ks, .mk g u ls => by
  rw [Tm.cmp_mk, Tm.cmp_mk]
  exact a4jq (a4jq (a4jq (Tm.cmps_neg ks ls)))
theorem Tm.cmps_neg : ∀ a b : List Tm, Tm.cmps a b = -Tm.cmps b a
 | [], [] => by simp [Tm.cmps]
 | [], _ :: _ => by simp [Tm.cmps]
 | _ :: _, [] => by simp [Tm.cmps]
 | t :: r, u :: s => by
  have h1 := Tm.cmp_neg t u
  have h2 := Tm.cmps_neg r s
  rw [Tm.cmps_cons, Tm.cmps_cons]
  split <;> split <;> omega
end
mutual
theorem Tm.cmp_eq : ∀ a b : Tm, Tm.cmp a b = 0 → a = b
 | .mk f v ks, .mk g u ls, h => by
  obtain ⟨h1, h2, h3, h4⟩ := Tm.cmp0.1 h
  rw [h1, h2, Tm.cmps_eq ks ls h3 h4]
theorem Tm.cmps_eq : ∀ a b : List Tm, a.length = b.length → Tm.cmps a b = 0 → a = b
 | [], [], _, _ => rfl
 | [], _ :: _, h, _ => by simp at h
 | _ :: _, [], h, _ => by simp at h
 | t :: r, u :: s, h, h2 => by
  rw [Tm.cmps_cons] at h2
  split at h2
  ·rename_i h3
   rw [Tm.cmp_eq t u h3, Tm.cmps_eq r s (by simpa using h) h2]
  ·rename_i h3
   exact absurd h2 h3
end
mutual
theorem Tm.cmp_tr : ∀ a b c : Tm, Tm.cmp a b ≤ 0 → Tm.cmp b c ≤ 0 → Tm.cmp a c ≤ 0
 | .mk f v ks, .mk g u ls, .mk p w ms, h1, h2 => by
  have ih := Tm.cmps_tr ks ls ms
  rw [Tm.cmp_mk, a73q, a73q, a73q] at h1 h2 ⊢
  rcases h1 with h1 | ⟨h1, h1' | ⟨h1', h1'' | ⟨h1'', h3⟩⟩⟩ <;> rcases h2 with h2 | ⟨h2, h2' | ⟨h2', h2'' | ⟨h2'', h4⟩⟩⟩
  all_goals first
   | omega
   | exact .inr ⟨by omega, .inr ⟨by omega, .inr ⟨by omega, ih (by omega) (by omega) h3 h4⟩⟩⟩
theorem Tm.cmps_tr : ∀ a b c : List Tm, a.length = b.length → b.length = c.length → Tm.cmps a b ≤ 0 → Tm.cmps b c ≤ 0 → Tm.cmps a c ≤ 0
 | [], [], [], _, _, _, _ => by simp [Tm.cmps]
 | [], _ :: _, _, h, _, _, _ => by simp at h
 | _ :: _, [], _, h, _, _, _ => by simp at h
 | _, [], _ :: _, _, h, _, _ => by simp at h
 | _, _ :: _, [], _, h, _, _ => by simp at h
 | t :: r, u :: s, w :: q, h1, h2, h3, h4 => by
  have i1 := Tm.cmp_tr t u w
  have i2 := Tm.cmps_tr r s q (by simpa using h1) (by simpa using h2)
  have n1 := Tm.cmp_neg t u
  rw [Tm.cmps_cons] at h3 h4 ⊢
  by_cases e1 : Tm.cmp t u = 0
  ·have := Tm.cmp_eq t u e1
   subst this
   rw [if_pos e1] at h3
   by_cases e2 : Tm.cmp t w = 0
   ·rw [if_pos e2] at h4 ⊢; exact i2 h3 h4
   ·rw [if_neg e2] at h4 ⊢; exact h4
  ·rw [if_neg e1] at h3
   by_cases e2 : Tm.cmp u w = 0
   ·have := Tm.cmp_eq u w e2
    subst this
    rw [if_neg e1]; exact h3
   ·rw [if_neg e2] at h4
    have h5 := i1 h3 h4
    by_cases e3 : Tm.cmp t w = 0
    ·have := Tm.cmp_eq t w e3
     subst this
     omega
    ·rw [if_neg e3]; exact h5
end
theorem Li.cmp_neg (a b : Li) : Li.cmp a b = -Li.cmp b a := by
 have h1 := Tm.cmp_neg a.l b.l
 have h2 := Tm.cmp_neg a.r b.r
 unfold Li.cmp
 by_cases hp : a.p = b.p
 ·rw [if_pos hp, if_pos hp.symm]
  split <;> split <;> omega
 ·have e : b.p = !a.p := by cases hb : b.p <;> cases ha : a.p <;> simp_all
  rw [if_neg hp, if_neg (show ¬ b.p = a.p from fun h => hp h.symm), e]
  cases a.p <;> rfl
theorem Li.cmp_eq (a b : Li) (h : Li.cmp a b = 0) : a = b := by
 obtain ⟨p, l, r⟩ := a
 obtain ⟨p', l', r'⟩ := b
 unfold Li.cmp at h
 dsimp only at h
 by_cases hp : p = p'
 ·rw [if_pos hp] at h
  split at h
  ·rename_i hl
   rw [hp, Tm.cmp_eq l l' hl, Tm.cmp_eq r r' h]
  ·rename_i hl
   exact absurd h hl
 ·rw [if_neg hp] at h
  split at h <;> simp at h
theorem Li.cmp_tr (a b c : Li) (h1 : Li.cmp a b ≤ 0) (h2 : Li.cmp b c ≤ 0) : Li.cmp a c ≤ 0 := by
 obtain ⟨p, l, r⟩ := a
 obtain ⟨p', l', r'⟩ := b
 obtain ⟨p2, l2, r2⟩ := c
 unfold Li.cmp at h1 h2 ⊢
 dsimp only at h1 h2 ⊢
 have n1 := Tm.cmp_neg l l'
 have t1 := Tm.cmp_tr l l' l2
 have t2 := Tm.cmp_tr r r' r2
 have e1 := Tm.cmp_eq l l'
 have e2 := Tm.cmp_eq l' l2
 have e3 := Tm.cmp_eq l l2
 cases p <;> cases p' <;> cases p2 <;> simp at h1 h2 ⊢
 all_goals
  by_cases c1 : Tm.cmp l l' = 0
  ·have := e1 c1
   subst this
   rw [if_pos c1] at h1
   by_cases c2 : Tm.cmp l l2 = 0
   ·rw [if_pos c2] at h2 ⊢; exact t2 h1 h2
   ·rw [if_neg c2] at h2 ⊢; exact h2
  ·rw [if_neg c1] at h1
   by_cases c2 : Tm.cmp l' l2 = 0
   ·have := e2 c2
    subst this
    rw [if_neg c1]; exact h1
   ·rw [if_neg c2] at h2
    have h5 := t1 h1 h2
    by_cases c3 : Tm.cmp l l2 = 0
    ·have := e3 c3
     subst this
     omega
    ·rw [if_neg c3]; exact h5
theorem ah2q : SWO e6q := ⟨fun {a b} h h2 => by have := Tm.cmp_neg a.2 b.2; unfold e6q at h h2; omega, fun {a b c} h1 h2 h3 => by
 have n1 := Tm.cmp_neg a.2 b.2
 have n2 := Tm.cmp_neg b.2 c.2
 have n3 := Tm.cmp_neg a.2 c.2
 have t := Tm.cmp_tr a.2 b.2 c.2
 unfold e6q at h1 h2 h3
 have := t (by omega) (by omega)
 omega⟩
theorem ah1q : SWO e5q := ⟨fun {a b} h h2 => by have := Li.cmp_neg a.2 b.2; unfold e5q at h h2; omega, fun {a b c} h1 h2 h3 => by
 have n1 := Li.cmp_neg a.2 b.2
 have n2 := Li.cmp_neg b.2 c.2
 have n3 := Li.cmp_neg a.2 c.2
 have t := Li.cmp_tr a.2 b.2 c.2
 unfold e5q at h1 h2 h3
 have := t (by omega) (by omega)
 omega⟩
def y6q {α : Type} (cmp : α → α → Int) (x : α) : List α → List α
 | [] => [x]
 | y :: r => if cmp y x ≤ 0 then y :: y6q cmp x r else x :: y :: r
def q5q {α : Type} (cmp : α → α → Int) (l : List α) : List α := l.foldl (fun a x => y6q cmp x a) []
theorem a2xq {α : Type} (cmp : α → α → Int) (x : α) : ∀ l : List α, (y6q cmp x l).Perm (x :: l)
 | [] => .refl _
 | y :: r => by
  unfold y6q; split
  ·exact ((a2xq cmp x r).cons y).trans (.swap ..)
  ·exact .refl _
theorem A3q {α : Type} (cmp : α → α → Int) (l : List α) : (q5q cmp l).Perm l := by
 have : ∀ (l a : List α), (l.foldl (fun a x => y6q cmp x a) a).Perm (a ++ l) := by
  intro l
  induction l with
  | nil => intro a; simp
  | cons x r ih =>
   intro a
   refine (ih _).trans ?_
   refine ((a2xq cmp x a).append_right r).trans ?_
   exact List.perm_middle.symm
 have h := this l []
 rw [List.nil_append] at h
 exact h
abbrev SdC {α : Type} (cmp : α → α → Int) (l : List α) : Prop := l.Pairwise (fun a b => cmp a b ≤ 0)
structure TotC {α : Type} (cmp : α → α → Int) : Prop where
 neg : ∀ a b, cmp a b = -cmp b a
 eq : ∀ a b, cmp a b = 0 → a = b
 tr : ∀ a b c, cmp a b ≤ 0 → cmp b c ≤ 0 → cmp a c ≤ 0
theorem acfq : TotC Tm.cmp := ⟨Tm.cmp_neg, Tm.cmp_eq, Tm.cmp_tr⟩
theorem a8zq : TotC Li.cmp := ⟨Li.cmp_neg, Li.cmp_eq, Li.cmp_tr⟩
theorem abnq {α : Type} {cmp : α → α → Int} (h : TotC cmp) (x : α) : ∀ {l : List α}, SdC cmp l → SdC cmp (y6q cmp x l)
 | [], _ => by simp [y6q, SdC]
 | y :: r, hs => by
  obtain ⟨h1, h2⟩ := List.pairwise_cons.1 hs
  unfold y6q; split
  ·rename_i hy
   refine List.pairwise_cons.2 ⟨fun z hz => ?_, abnq h x h2⟩
   rcases List.mem_cons.1 ((a2xq cmp x r).subset hz) with rfl | hz
   ·exact hy
   ·exact h1 z hz
  ·rename_i hy
   have hxy : cmp x y ≤ 0 := by have := h.neg x y; omega
   refine List.pairwise_cons.2 ⟨fun z hz => ?_, hs⟩
   rcases List.mem_cons.1 hz with rfl | hz
   ·exact hxy
   ·exact h.tr _ _ _ hxy (h1 z hz)
theorem a4dq {α : Type} {cmp : α → α → Int} (h : TotC cmp) (l : List α) : SdC cmp (q5q cmp l) := by
 have : ∀ (l a : List α), SdC cmp a → SdC cmp (l.foldl (fun a x => y6q cmp x a) a) := by
  intro l
  induction l with
  | nil => intro a h; exact h
  | cons x r ih => intro a ha; exact ih _ (abnq h x ha)
 exact this l [] (by simp [SdC])
theorem a6Dq {α : Type} {cmp : α → α → Int} (h : TotC cmp) : ∀ {a b : List α}, SdC cmp a → SdC cmp b → a.Perm b → a = b
 | [], b, _, _, hp => (List.Perm.nil_eq hp)
 | x :: r, b, ha, hb, hp => by
  cases b with
  | nil => exact absurd hp.length_eq (by simp)
  | cons y s =>
   obtain ⟨a1, a2⟩ := List.pairwise_cons.1 ha
   obtain ⟨b1, b2⟩ := List.pairwise_cons.1 hb
   have hxy : x = y := by
    have h1 : cmp x y ≤ 0 := by
     rcases List.mem_cons.1 (hp.symm.subset (List.mem_cons_self (a := y) (l := s))) with e | h1
     ·have := h.neg x y; rw [e] at this ⊢; omega
     ·exact a1 y h1
    have h2 : cmp y x ≤ 0 := by
     rcases List.mem_cons.1 (hp.subset (List.mem_cons_self (a := x) (l := r))) with e | h2
     ·have := h.neg x y; rw [e] at this ⊢; omega
     ·exact b1 x h2
    exact h.eq x y (by have := h.neg x y; omega)
   subst hxy
   rw [a6Dq h a2 b2 hp.cons_inv]
theorem adxq {α : Type} {cmp : α → α → Int} (h : TotC cmp) {l : List (List Da × α)} (hs : Sd (fun a b : List Da × α => cmp a.2 b.2 < 0) l) : SdC cmp (l.map (·.2)) := by
 rw [SdC, List.pairwise_map]
 exact hs.imp fun {a b} h1 => by have := h.neg a.2 b.2; omega
theorem abaq (ts : List Tm) (hl : ts.length ≤ 3000000000000) : XC pg 201 [.one (.ol 2000), .one (.d (.fn 143))] [(2000, .tr 30 3 (Tm.das ts))] (.tup []) [(2000, .tr 30 3 (Tm.das (q5q Tm.cmp ts)))] := by
 refine abrq fun xs' hx => ?_
 rw [Tm.das_map] at hx
 obtain ⟨zs, rfl, rfl, ht⟩ := a1uq hx
 obtain ⟨S', p1, p2, p3⟩ := aaUq ah2q zs ht (by simpa using hl)
 refine ⟨S'.map (·.1), ⟨[], by rw [List.append_nil]; exact p1.map _⟩, ?_, p3⟩
 rw [a1Oq fun z hz => ht z (p1.subset hz), Tm.das_map]
 congr 1
 exact a6Dq acfq (adxq acfq p2) (a4dq acfq _) ((p1.map _).trans (A3q _ _).symm)
theorem ab3q (ts : List Li) (hl : ts.length ≤ 3000000000000) : XC pg 235 [.one (.ol 2000), .one (.d (.fn 135))] [(2000, .tr 85 7 (ts.map Li.da))] (.tup []) [(2000, .tr 85 7 ((q5q Li.cmp ts).map Li.da))] := by
 refine abrq fun xs' hx => ?_
 obtain ⟨zs, rfl, rfl, ht⟩ := a1uq hx
 obtain ⟨S', p1, p2, p3⟩ := aaBq ah1q zs ht (by simpa using hl)
 refine ⟨S'.map (·.1), ⟨[], by rw [List.append_nil]; exact p1.map _⟩, ?_, p3⟩
 rw [a1Oq fun z hz => ht z (p1.subset hz)]
 congr 1
 exact a6Dq a8zq (adxq a8zq p2) (a4dq a8zq _) ((p1.map _).trans (A3q _ _).symm)
def bl (s : List Sy) (f : Int) : Bool := inR f 0 ((s.length : Int) - 1) && ((s[f.toNat]?).map (·.ac)).getD false
mutual
def nrm (s : List Sy) : Tm → Tm
 | .mk f v ks => .mk f v (if bl s f then q5q Tm.cmp (nrmK s (bl s f) f ks) else nrmK s (bl s f) f ks)
def nrmK (s : List Sy) (b : Bool) (f : Int) : List Tm → List Tm
 | [] => []
 | t :: r => (if b = true ∧ (nrm s t).f = f then (nrm s t).ks else [nrm s t]) ++ nrmK s b f r
end
theorem ag0q (a b : List Tm) : Tm.cns (a ++ b) = Tm.cns a + Tm.cns b := by
 induction a with
 | nil => simp [Tm.cns]
 | cons x r ih => simp only [List.cons_append, Tm.cns, ih]; omega
theorem af7q {a b : List Tm} (h : a.Perm b) : Tm.cns a = Tm.cns b := by
 rw [Tm.cns_cnL, Tm.cns_cnL, cnL, cnL, h.length_eq, (h.map _).sum_nat]
theorem Tm.cn_ks (t : Tm) : Tm.cns t.ks = t.cn := by cases t; simp [Tm.ks, Tm.cn]
mutual
theorem Q9q (s : List Sy) : ∀ t : Tm, (nrm s t).cn ≤ t.cn
 | .mk f v ks => by
  have h := nrmK_cns s (bl s f) f ks
  simp only [nrm, Tm.cn]
  split
  ·rw [af7q (A3q _ _)]; exact h
  ·exact h
theorem nrmK_cns (s : List Sy) (b : Bool) (f : Int) : ∀ l : List Tm, Tm.cns (nrmK s b f l) ≤ Tm.cns l
 | [] => by simp [nrmK, Tm.cns]
 | t :: r => by
  have h1 := Q9q s t
  have h2 := nrmK_cns s b f r
  simp only [nrmK, ag0q, Tm.cns]
  split
  ·rw [Tm.cn_ks]; omega
  ·simp only [Tm.cns]; omega
end
theorem O2q {x lo hi : Int} : inR x lo hi = true ↔ lo ≤ x ∧ x ≤ hi := by simp [inR]
theorem adTq {s : List Sy} {f : Int} {m : Nat} {x : Sy} (hf : f = (m : Int)) (hm : s[m]? = some x) : bl s f = x.ac := by
 have h := (List.getElem?_eq_some_iff.1 hm).1
 subst hf
 have : inR (m : Int) 0 ((s.length : Int) - 1) = true := O2q.2 ⟨by omega, by omega⟩
 simp [bl, this, hm]
theorem a60q (s : List Sy) (f : Int) (hs : s.length ≤ 10000000) : XC pg 151 [L (s.map Sy.da), Z f] [] (B (bl s f)) [] := by
 have w : IntKind.wrap .i64 ((s.length : Int) - 1) = (s.length : Int) - 1 := wrI (by omega) (by omega)
 apply a8xq
 rw [List.length_map, w]
 refine ⟨_, A0q f 0 _, ?_⟩
 by_cases h : inR f 0 ((s.length : Int) - 1) = true
 ·obtain ⟨h1, h2⟩ := O2q.1 h
  obtain ⟨m, rfl⟩ : ∃ m : Nat, f = (m : Int) := ⟨f.toNat, by omega⟩
  obtain ⟨x, hx⟩ := d0q (l := s) (i := m) (by omega)
  have hx2 := i4q (g := Sy.da) hx
  refine a6q h ⟨m, rfl, _, _, _, hx2, ?_, rfl⟩
  rw [adTq rfl hx]
 ·exact a2q (Bool.eq_false_iff.2 h) ⟨by simp [bl, h], rfl⟩
theorem ab9q (s : List Sy) (f : Int) (hs : s.length ≤ 10000000) : XC pg 161 [L (s.map Sy.da), Z f] [] (B (inR f 0 ((s.length : Int) - 1))) [] := by
 have w : IntKind.wrap .i64 ((s.length : Int) - 1) = (s.length : Int) - 1 := wrI (by omega) (by omega)
 apply a25q
 rw [List.length_map, w]
 exact ⟨_, C9q f 0 _, rfl, rfl⟩
theorem a0Uq (s : List Sy) (f : Int) (hs : s.length ≤ 10000000) : XC pg 98 [L (s.map Sy.da), Z f] [] (B (bl s f)) [] := by
 apply a8eq
 refine ⟨_, ab9q s f hs, ?_⟩
 by_cases h : inR f 0 ((s.length : Int) - 1) = true
 ·obtain ⟨h1, h2⟩ := O2q.1 h
  obtain ⟨m, rfl⟩ : ∃ m : Nat, f = (m : Int) := ⟨f.toNat, by omega⟩
  obtain ⟨x, hx⟩ := d0q (l := s) (i := m) (by omega)
  have hx2 := i4q (g := Sy.da) hx
  refine a6q h ⟨m, rfl, _, _, _, hx2, ?_, rfl⟩
  rw [adTq rfl hx]
 ·exact a2q (Bool.eq_false_iff.2 h) ⟨by simp [bl, h], rfl⟩
theorem J9q {α β : Type} (g : α → β) (p : List α) : List.drop p.length (p.map g) = [] := List.drop_eq_nil_of_le (by simp)
theorem a5Nq {α : Type} (cmp : α → α → Int) (l : List α) (x : α) : q5q cmp (l ++ [x]) = y6q cmp x (q5q cmp l) := by simp [q5q, List.foldl_append]
theorem a3cq (a b : List Tm) : Tm.das (a ++ b) = Tm.das a ++ Tm.das b := by simp [Tm.das_map]
theorem a4Pq (t : Tm) (l : List Tm) (hl : l.length ≤ 3000000000000) : ∀ (q p : List Tm), l = p ++ q → A5q (.one (.ol 0)) [(0, .lst 30 3 (Tm.das (p ++ y6q Tm.cmp t q)))] (Tm.das l) (p.length : Int) t.f t.v (Tm.das t.ks)
 | [], p, e => by
  have e3 : [] ++ (Tm.das l).take p.length ++ [[.int .i64 t.f, .int .i64 t.v, .sl (Tm.das t.ks)]] ++ (Tm.das l).drop p.length = Tm.das (p ++ y6q Tm.cmp t []) := by
   subst e
   obtain ⟨f, v, ks⟩ := t
   simp [Tm.das_map, y6q, u1q, J9q, Tm.da, Tm.f, Tm.v, Tm.ks]
  have hpl : l.length = p.length := by rw [e]; simp
  apply Y6q
  refine a2q (decide_eq_false (by rw [b3q]; omega)) ⟨p.length, rfl, ⟨by rw [b3q]; omega⟩, ⟨X9q _⟩, ⟨fun y hy => X9q _ y (List.mem_of_mem_take (List.mem_of_mem_drop hy))⟩, ⟨?_⟩, ⟨?_⟩, p.length, rfl, ⟨by rw [b3q]; omega⟩, ⟨X9q _⟩, ⟨fun y hy => X9q _ y (List.mem_of_mem_take (List.mem_of_mem_drop hy))⟩, ⟨?_⟩, rfl, ?_⟩
  ·simp [b3q]; omega
  ·simp [b3q]; omega
  ·simp [b3q]; omega
  ·rw [← e3]; simp
 | y :: q, p, e => by
  have ih := a4Pq t l hl q (p ++ [y]) (by simp [e])
  have hb := B2q t y
  have hn := Tm.cmp_neg t y
  have hx : (Tm.das l)[p.length]? = some y.da := by rw [e]; exact q2q
  have hpl : l.length = p.length + q.length + 1 := by rw [e]; simp; omega
  rw [h1q] at ih
  have e3 : Tm.cmp t y < 0 → [] ++ (Tm.das l).take p.length ++ [[.int .i64 t.f, .int .i64 t.v, .sl (Tm.das t.ks)]] ++ (Tm.das l).drop p.length = Tm.das (p ++ y6q Tm.cmp t (y :: q)) := fun h => by
   subst e
   have e4 : y6q Tm.cmp t (y :: q) = t :: y :: q := by rw [y6q, if_neg (by omega)]
   rw [e4]
   obtain ⟨f, v, ks⟩ := t
   simp [Tm.das_map, List.take_append, List.drop_append, u1q, J9q, Tm.da, Tm.f, Tm.v, Tm.ks]
  have et : t.da = [.int .i64 t.f, .int .i64 t.v, .sl (Tm.das t.ks)] := by obtain ⟨f, v, ks⟩ := t; rfl
  rw [et] at hb
  have ih2 : ¬ Tm.cmp t y < 0 → p ++ y6q Tm.cmp t (y :: q) = p ++ [y] ++ y6q Tm.cmp t q := fun h => by
   rw [y6q, if_pos (by omega)]; simp
  obtain ⟨g, u, ms⟩ := y
  apply Y6q
  refine a6q (decide_eq_true (by rw [b3q]; omega)) ⟨p.length, rfl, g, u, Tm.das ms, hx, _, hb, ?_⟩
  by_cases h : Tm.cmp t (.mk g u ms) < 0
  ·refine a2q (by simp [h]) ⟨p.length, rfl, ⟨by rw [b3q]; omega⟩, ⟨X9q _⟩, ⟨fun y hy => X9q _ y (List.mem_of_mem_take (List.mem_of_mem_drop hy))⟩, ⟨?_⟩, ⟨?_⟩, p.length, rfl, ⟨by rw [b3q]; omega⟩, ⟨X9q _⟩, ⟨fun y hy => X9q _ y (List.mem_of_mem_take (List.mem_of_mem_drop hy))⟩, ⟨?_⟩, rfl, ?_⟩
   ·simp [b3q]; omega
   ·simp [b3q]; omega
   ·simp [b3q]; omega
   ·rw [← e3 h]; simp
  ·rw [ih2 h, wr1 (n := p.length + 1) (by omega) (by omega)]
   exact a6q (by simp [h]) ih
theorem a5Tq (t : Tm) (l : List Tm) (hl : l.length ≤ 3000000000000) : XC pg 199 [L (Tm.das l), .dat t.da] [] (.one (.ol 0)) [(0, .lst 30 3 (Tm.das (y6q Tm.cmp t l)))] := by
 have h := a4Pq t l hl l [] rfl
 obtain ⟨f, v, ks⟩ := t
 exact a84q h
theorem a3Hq (r : AV) (O : List (Nat × Ob)) (s0 : List (List Da)) (s6 s3 s31 : Int) (s32 : List (List Da)) (s5 s51 n2 n3 : Int) (w : List Tm) : ∀ (q p acc : List Tm), w = p ++ q → acc.length + q.length ≤ 2500000000000 → p.length + q.length ≤ 2500000000000 → q7q r O s0 (IntKind.wrap .i64 (s6 + 1)) s3 s31 s32 0 0 s5 s51 (Tm.das (q5q Tm.cmp (acc ++ q))) → C2q r O s0 s6 (p.length : Int) s3 s31 s32 0 0 s5 s51 n2 n3 (Tm.das w) (Tm.das (q5q Tm.cmp acc))
 | [], p, acc, e, _, _, h => by
  apply a0lq
  subst e
  exact a2q (d9q (by simp [b3q])) (by simpa using h)
 | y :: q, p, acc, e, h1, h2, h => by
  simp only [List.length_cons] at h1 h2
  have ih := a3Hq r O s0 s6 s3 s31 s32 s5 s51 n2 n3 w q (p ++ [y]) (acc ++ [y]) (by simp [e]) (by simp; omega) (by simp; omega) (by simpa using h)
  have c := a5Tq y (q5q Tm.cmp acc) (by rw [(A3q _ _).length_eq]; omega)
  have hx : (Tm.das w)[p.length]? = some y.da := by rw [e]; exact q2q
  have hlt : p.length < w.length := by rw [e]; simp
  rw [h1q, a5Nq] at ih
  obtain ⟨g, u, ms⟩ := y
  apply a0lq
  refine a6q (f0q (by rw [b3q]; exact hlt)) ⟨p.length, rfl, g, u, Tm.das ms, hx, _, c, ?_⟩
  rw [wr1 (n := p.length + 1) (by omega) (by omega)]
  exact ih
theorem a2bq (s : List Sy) (hs : s.length ≤ 10000000) (f v : Int) (ks : List Tm) (hk : Tm.cns ks ≤ 1200000000000) : ∀ (q p acc : List Tm), ks = p ++ q → acc.length + Tm.cns q ≤ 2400000000000 → (∀ t ∈ q, t.cn ≤ 1200000000000 ∧ XC pg 141 [L (s.map Sy.da), .dat t.da] [] (.dat (nrm s t).da) []) → q7q (.dat (Tm.mk f v (if bl s f then q5q Tm.cmp (acc ++ nrmK s (bl s f) f q) else acc ++ nrmK s (bl s f) f q)).da) [] (s.map Sy.da) (p.length : Int) f v (Tm.das ks) 0 0 f v (Tm.das (if bl s f then q5q Tm.cmp acc else acc))
 | [], p, acc, e, _, _ => by
  apply a0uq
  subst e
  refine a2q (d9q (by simp [b3q])) ⟨?_, rfl⟩
  simp only [nrmK, List.append_nil]
  rfl
 | y :: q, p, acc, e, ha, hc => by
  have hcn : Tm.cns (y :: q) = 1 + y.cn + Tm.cns q := by simp [Tm.cns]
  have hkl := Tm.cns_cnL ks ▸ g2q Tm.cn ks
  obtain ⟨hyc, cy⟩ := hc y (by simp)
  have hnc := Q9q s y
  have hnl := Tm.len_cns (nrm s y).ks
  rw [Tm.cn_ks] at hnl
  have hx : (Tm.das ks)[p.length]? = some y.da := by rw [e]; exact q2q
  have hlt : p.length < ks.length := by rw [e]; simp
  have hw := wr1 hlt (by omega)
  have ih := fun acc' h => a2bq s hs f v ks hk q (p ++ [y]) acc' (by simp [e]) h (fun t ht => hc t (List.mem_cons_of_mem _ ht))
  rw [h1q] at ih
  have eb := a60q s f hs
  have eK : nrmK s (bl s f) f (y :: q) = (if bl s f = true ∧ (nrm s y).f = f then (nrm s y).ks else [nrm s y]) ++ nrmK s (bl s f) f q := by rw [nrmK]
  rw [eK]
  have cP := a5Tq (nrm s y) (q5q Tm.cmp acc) (by rw [(A3q _ _).length_eq]; omega)
  generalize hny : nrm s y = ny at *
  generalize bl s f = b at *
  obtain ⟨g, u, ms⟩ := y
  obtain ⟨g', u', ms'⟩ := ny
  apply a0uq
  rw [hw]
  refine a6q (f0q (by rw [b3q]; exact hlt)) ⟨p.length, rfl, g, u, Tm.das ms, hx, _, _, _, cy, _, eb, ?_⟩
  cases b with
  | false =>
   refine a6q rfl ⟨⟨by simp [b3q]; omega⟩, ?_⟩
   have := ih (acc ++ [.mk g' u' ms']) (by simp; omega)
   simpa [a3cq, Tm.das, Tm.da] using this
  | true =>
   refine a2q rfl ?_
   by_cases hg : g' = f
   ·refine a2q (decide_eq_false (by simp [hg])) ?_
    have := ih (acc ++ ms') (by simp [Tm.ks] at hnl ⊢; omega)
    have h7 := a3Hq (.dat (Tm.mk f v (if true = true then q5q Tm.cmp (acc ++ ((if true = true ∧ (Tm.mk g' u' ms').f = f then (Tm.mk g' u' ms').ks else [.mk g' u' ms']) ++ nrmK s true f q)) else acc ++ ((if true = true ∧ (Tm.mk g' u' ms').f = f then (Tm.mk g' u' ms').ks else [.mk g' u' ms']) ++ nrmK s true f q))).da) [] (s.map Sy.da) (p.length : Int) f v (Tm.das ks) f v g' u' ms' ms' [] acc rfl (by simp [Tm.ks] at hnl; omega) (by simp [Tm.ks] at hnl ⊢; omega)
    rw [hw] at h7
    refine h7 ?_
    simpa [Tm.f, Tm.ks, hg, List.append_assoc] using this
   ·refine a6q (decide_eq_true (by simpa using hg)) ⟨_, cP, ?_⟩
    have := ih (acc ++ [.mk g' u' ms']) (by simp; omega)
    simp only [if_true, a5Nq] at this
    simpa [Tm.f, hg, List.append_assoc] using this
theorem T2q (s : List Sy) (hs : s.length ≤ 10000000) (t : Tm) : t.cn ≤ 1200000000000 → XC pg 141 [L (s.map Sy.da), .dat t.da] [] (.dat (nrm s t).da) [] := by
 induction t using Tm.ind with
 | h f v ks ih =>
 intro hc
 have hcn : (Tm.mk f v ks).cn = Tm.cns ks := by simp [Tm.cn]
 rw [hcn] at hc
 apply a8Nq
 have := a2bq s hs f v ks hc ks [] [] rfl (by simp; omega) (fun t ht => by
  have hb : t.cn ≤ 1200000000000 := by have := Tm.cns_cnL ks ▸ i8q (cn := Tm.cn) ht; omega
  exact ⟨hb, ih t ht hb⟩)
 simpa [nrm, q5q, Tm.das] using this
theorem a1Zq (s : List Sy) (hs : s.length ≤ 10000000) (f v : Int) (ks : List Tm) (hk : Tm.cns ks ≤ 1200000000000) : ∀ (q p acc : List Tm), ks = p ++ q → acc.length + Tm.cns q ≤ 2400000000000 → (∀ t ∈ q, t.cn ≤ 1200000000000 ∧ XC pg 144 [L (s.map Sy.da), .dat t.da] [] (.agg [.d (.int .i64 (nrm s t).f), .d (.int .i64 (nrm s t).v), .ol 0]) [(0, .tr 30 3 (Tm.das (nrm s t).ks))]) → u9q (.agg [.d (.int .i64 f), .d (.int .i64 v), .ol 0]) [(0, .tr 30 3 (Tm.das (if bl s f then q5q Tm.cmp (acc ++ nrmK s (bl s f) f q) else acc ++ nrmK s (bl s f) f q)))] (s.map Sy.da) (Tm.das ks) (ks.length : Int) (p.length : Int) f v (Tm.das ks) 0 0 (Tm.das acc)
 | [], p, acc, e, ha, _ => by
  have eb := a0Uq s f hs
  have cs := abaq acc (by omega)
  apply a0qq
  subst e
  refine a2q (d9q (by simp)) ⟨_, eb, ?_⟩
  simp only [nrmK, List.append_nil]
  generalize bl s f = b at *
  cases b with
  | true => exact a6q rfl ⟨_, cs, by simp⟩
  | false => exact a2q rfl (by simp)
 | y :: q, p, acc, e, ha, hc => by
  have hcn : Tm.cns (y :: q) = 1 + y.cn + Tm.cns q := by simp [Tm.cns]
  have hkl := Tm.cns_cnL ks ▸ g2q Tm.cn ks
  obtain ⟨hyc, cy⟩ := hc y (by simp)
  have hnc := Q9q s y
  have hnl := Tm.len_cns (nrm s y).ks
  rw [Tm.cn_ks] at hnl
  have hx : (Tm.das ks)[p.length]? = some y.da := by rw [e]; exact q2q
  have hlt : p.length < ks.length := by rw [e]; simp
  have hw := wr1 hlt (by omega)
  have ih := fun acc' h => a1Zq s hs f v ks hk q (p ++ [y]) acc' (by simp [e]) h (fun t ht => hc t (List.mem_cons_of_mem _ ht))
  rw [h1q] at ih
  have eb := a0Uq s f hs
  have eK : nrmK s (bl s f) f (y :: q) = (if bl s f = true ∧ (nrm s y).f = f then (nrm s y).ks else [nrm s y]) ++ nrmK s (bl s f) f q := by rw [nrmK]
  rw [eK]
  generalize hny : nrm s y = ny at *
  generalize bl s f = b at *
  obtain ⟨g, u, ms⟩ := y
  obtain ⟨g', u', ms'⟩ := ny
  apply a0qq
  rw [hw]
  refine a6q (f0q hlt) ⟨p.length, rfl, g, u, Tm.das ms, hx, _, _, _, cy, _, eb, ?_⟩
  simp only [Tm.f, Tm.v, Tm.ks] at hnl ⊢
  cases b with
  | false =>
   refine a2q rfl ⟨⟨by simp [b3q]; omega⟩, ?_⟩
   have := ih (acc ++ [.mk g' u' ms']) (by simp; omega)
   simpa [a3cq, Tm.das, Tm.da] using this
  | true =>
   refine a6q rfl ?_
   by_cases hg : g' = f
   ·refine a6q (decide_eq_true hg) ⟨⟨by simp [b3q]; omega⟩, ?_⟩
    have := ih (acc ++ ms') (by simp; omega)
    simpa [a3cq, hg, List.append_assoc] using this
   ·refine a2q (decide_eq_false hg) ⟨⟨by simp [b3q]; omega⟩, ?_⟩
    have := ih (acc ++ [.mk g' u' ms']) (by simp; omega)
    simpa [a3cq, Tm.das, Tm.da, hg, List.append_assoc] using this
theorem T5q (s : List Sy) (hs : s.length ≤ 10000000) (t : Tm) : t.cn ≤ 1200000000000 → XC pg 144 [L (s.map Sy.da), .dat t.da] [] (.agg [.d (.int .i64 (nrm s t).f), .d (.int .i64 (nrm s t).v), .ol 0]) [(0, .tr 30 3 (Tm.das (nrm s t).ks))] := by
 induction t using Tm.ind with
 | h f v ks ih =>
 intro hc
 have hcn : (Tm.mk f v ks).cn = Tm.cns ks := by simp [Tm.cn]
 rw [hcn] at hc
 apply aanq
 have := a1Zq s hs f v ks hc ks [] [] rfl (by simp; omega) (fun t ht => by
  have hb : t.cn ≤ 1200000000000 := by have := Tm.cns_cnL ks ▸ i8q (cn := Tm.cn) ht; omega
  exact ⟨hb, ih t ht hb⟩)
 rw [b3q]
 simpa [nrm, Tm.f, Tm.v, Tm.ks, Tm.das] using this
def lmk (s : List Sy) (pos : Bool) (a b : Tm) : Li := if Tm.cmp (nrm s a) (nrm s b) < 0 then ⟨pos, nrm s b, nrm s a⟩ else ⟨pos, nrm s a, nrm s b⟩
theorem ad4q (s : List Sy) (pos : Bool) (a b : Tm) : (lmk s pos a b).cn ≤ a.cn + b.cn := by
 have h1 := Q9q s a
 have h2 := Q9q s b
 unfold lmk Li.cn; split <;> dsimp only <;> omega
theorem Y3q (s : List Sy) (hs : s.length ≤ 10000000) (pos : Bool) (a b : Tm) (ha : a.cn ≤ 1200000000000) (hb : b.cn ≤ 1200000000000) : XC pg 92 [L (s.map Sy.da), B pos, .dat a.da, .dat b.da] [] (.dat (lmk s pos a b).da) [] := by
 have h1 := T2q s hs a ha
 have h2 := T2q s hs b hb
 have h3 := B2q (nrm s a) (nrm s b)
 unfold lmk
 generalize nrm s a = x at *
 generalize nrm s b = y at *
 obtain ⟨f, v, ks⟩ := a
 obtain ⟨g, u, ls⟩ := b
 obtain ⟨f', v', ks'⟩ := x
 obtain ⟨g', u', ls'⟩ := y
 apply a5Bq
 refine ⟨_, _, _, h1, _, _, _, h2, _, h3, ?_⟩
 by_cases h : Tm.cmp (.mk f' v' ks') (.mk g' u' ls') < 0
 ·rw [if_pos h]; exact a6q (decide_eq_true h) ⟨rfl, rfl⟩
 ·rw [if_neg h]; exact a2q (decide_eq_false h) ⟨rfl, rfl⟩
theorem Z6q (s : List Sy) (hs : s.length ≤ 10000000) (pos : Bool) (a b : Tm) (ha : a.cn ≤ 1200000000000) (hb : b.cn ≤ 1200000000000) : XC pg 136 [L (s.map Sy.da), B pos, .dat a.da, .dat b.da] [] (.agg [.d (.bool (lmk s pos a b).p), .d (.int .i64 (lmk s pos a b).l.f), .d (.int .i64 (lmk s pos a b).l.v), .ol 0, .d (.int .i64 (lmk s pos a b).r.f), .d (.int .i64 (lmk s pos a b).r.v), .ol 1]) [(0, .tr 30 3 (Tm.das (lmk s pos a b).l.ks)), (1, .tr 30 3 (Tm.das (lmk s pos a b).r.ks))] := by
 have h1 := T5q s hs a ha
 have h2 := T5q s hs b hb
 have h3 := K3q (nrm s a) (nrm s b)
 unfold lmk
 generalize nrm s a = x at *
 generalize nrm s b = y at *
 obtain ⟨f, v, ks⟩ := a
 obtain ⟨g, u, ls⟩ := b
 obtain ⟨f', v', ks'⟩ := x
 obtain ⟨g', u', ls'⟩ := y
 apply a5hq
 refine ⟨_, _, _, h1, _, _, _, h2, _, h3, ?_⟩
 by_cases h : Tm.cmp (.mk f' v' ks') (.mk g' u' ls') < 0
 ·rw [if_pos h]; exact a6q (decide_eq_true h) ⟨rfl, rfl⟩
 ·rw [if_neg h]; exact a2q (decide_eq_false h) ⟨rfl, rfl⟩
theorem a9yq : ∀ l : List Sy, E1q l = 3 * l.length
 | [] => by simp [E1q]
 | ⟨a, b, c⟩ :: r => by
  have h := a9yq r
  rw [a4Xq, h, List.length_cons]
  simp only [a1Pq]
  omega
theorem aepq {α : Type} (cn : α → Nat) (x : α) (r : List α) : cnL cn (x :: r) = 1 + cn x + cnL cn r := by simp [cnL]; omega
theorem a8Mq : ∀ l : List Bd, L0q l ≤ 3 * cnL Bd.cn l
 | [] => by simp [L0q]
 | ⟨v, .mk f u ks⟩ :: r => by
  have h := a8Mq r
  have e : Bd.cn ⟨v, .mk f u ks⟩ = Tm.cns ks := by simp [Bd.cn, Tm.cn]
  rw [a5dq, aepq, e]
  simp only [a1wq]
  omega
theorem aa8q (x : Bd) (hc : x.cn ≤ 1048576) : XC pg 69 [.dat x.da] [] (.agg [.d (.int .i64 x.v), .d (.int .i64 x.t.f), .d (.int .i64 x.t.v), .ol 0]) [(0, .tr 30 3 (Tm.das x.t.ks))] := by
 have h1 := Y0q x.t hc
 obtain ⟨v, ⟨f, u, ks⟩⟩ := x
 apply a6jq
 exact ⟨_, _, _, h1, rfl, rfl⟩
theorem a7yq (l : List Bd) (hc : cnL Bd.cn l ≤ 1048576) : XC pg 26 [L (l.map Bd.da)] [] (.one (.ol 0)) [(0, .tr 116 4 (l.map Bd.da))] := by
 have hl := g2q Bd.cn l
 apply a4Jq
 refine ⟨l.length, l.length, by simp, by simp, ⟨by omega, by omega, by omega⟩, ?_⟩
 have key := j8q (p := fun i => w0q (.one (.ol 0)) [(0, .tr 116 4 (l.map Bd.da))] (l.map Bd.da) (i : Int) ((l.map Bd.da).take i ++ List.replicate ((l.map Bd.da).length - i) [.int .i64 0, .int .i64 0, .int .i64 0, .sl []])) l.length ?_ ?_ 0 (Nat.zero_le _)
 ·rw [List.take_zero, List.nil_append, Nat.sub_zero, List.length_map] at key
  exact key
 ·apply R1q
  refine a2q (d9q (by simp)) ⟨rfl, ?_⟩
  rw [a1rq rfl (by simp)]
 ·intro i hi ih
  obtain ⟨x, hx⟩ := d0q hi
  have hx1 := i4q (g := Bd.da) hx
  have hm := i8q (cn := Bd.cn) (List.mem_of_getElem? hx)
  have hxc := aa8q x (by omega)
  have hd := Bd.da_len x
  obtain ⟨v, ⟨f, u, ks⟩⟩ := x
  apply R1q
  refine a6q (f0q (by simpa using hi)) ⟨i, rfl, _, _, _, _, hx1, _, _, _, _, hxc, i, rfl, ⟨by simp; omega⟩, i, by omega, _, _, _, _, a1qq rfl (by simpa using hi), ?_⟩
  rw [wr1 hi (by omega)]
  have he := a0dq (z := [.int .i64 0, .int .i64 0, .int .i64 0, .sl []]) (n := (l.map Bd.da).length) rfl hx1 hd rfl
  exact he ▸ ih
def s9q : List Bd → Int → Tm
 | [], v => .mk (-1) v []
 | b :: r, v => if b.v = v then b.t else s9q r v
def O5q : List Bd → Int → Tm × Bool
 | [], _ => (.mk 0 0 [], false)
 | b :: r, v => if b.v = v then (b.t, true) else O5q r v
theorem a7wq : ∀ (u : List Bd) (v : Int), s9q u v = if (O5q u v).2 then (O5q u v).1 else .mk (-1) v []
 | [], v => rfl
 | b :: r, v => by
  unfold s9q O5q; split
  ·rfl
  ·exact a7wq r v
theorem a4xq : ∀ (u : List Bd) (v : Int), (s9q u v).cn ≤ cnL Bd.cn u
 | [], v => by simp [s9q, Tm.cn, Tm.cns]
 | b :: r, v => by
  have h := a4xq r v
  have e : cnL Bd.cn (b :: r) = 1 + b.t.cn + cnL Bd.cn r := by simp [cnL, Bd.cn]; omega
  unfold s9q; split
  ·omega
  ·omega
mutual
def fil (u : List Bd) : Tm → Tm
 | .mk f v ks => if f = -1 ∧ ks.length = 0 then s9q u v else .mk f v (fils u ks)
def fils (u : List Bd) : List Tm → List Tm
 | [] => []
 | t :: r => fil u t :: fils u r
end
theorem a1vq (u : List Bd) (l : List Tm) : fils u l = l.map (fil u) := by induction l <;> simp_all [fils]
mutual
theorem a4Tq (u : List Bd) : ∀ t : Tm, (fil u t).cn + 1 ≤ (t.cn + 1) * (cnL Bd.cn u + 1)
 | .mk f v ks => by
  have h := fils_cns u ks
  have hl := a4xq u v
  simp only [fil, Tm.cn]
  rw [Nat.add_mul, Nat.one_mul]
  split
  ·omega
  ·simp only [Tm.cn]; omega
theorem fils_cns (u : List Bd) : ∀ l : List Tm, Tm.cns (fils u l) ≤ Tm.cns l * (cnL Bd.cn u + 1)
 | [] => by simp [fils, Tm.cns]
 | t :: r => by
  have h1 := a4Tq u t
  have h2 := fils_cns u r
  have e : Tm.cns (t :: r) = (t.cn + 1) + Tm.cns r := by simp [Tm.cns]; omega
  rw [e, Nat.add_mul]
  simp only [fils, Tm.cns]
  omega
end
theorem a7bq {u : List Bd} {t : Tm} (h1 : t.cn ≤ 1048576) (h2 : cnL Bd.cn u ≤ 1048576) : (fil u t).cn ≤ 1099513724928 := by
 have h := a4Tq u t
 have := Nat.mul_le_mul (show t.cn + 1 ≤ 1048577 by omega) (show cnL Bd.cn u + 1 ≤ 1048577 by omega)
 omega
theorem a27q (u : List Bd) (hu : cnL Bd.cn u ≤ 1048576) (v : Int) : ∀ (q p : List Bd), u = p ++ q → D4q (.dat (s9q q v).da) [] (u.map Bd.da) v (p.length : Int) 0 0
 | [], p, e => by
  apply a0pq
  subst e
  exact a2q (d9q (by simp)) ⟨_, _, _, a8tq ⟨rfl, rfl⟩, rfl, rfl⟩
 | b :: q, p, e => by
  have ih := a27q u hu v q (p ++ [b]) (by simp [e])
  have hl := g2q Bd.cn u
  have hm := i8q (cn := Bd.cn) (l := u) (x := b) (by simp [e])
  have hbc : b.cn = b.t.cn := rfl
  have hx : (u.map Bd.da)[p.length]? = some b.da := by rw [e]; exact g3q
  have hlt : p.length < u.length := by rw [e]; simp
  have hw := wr1 hlt (by omega)
  have c := aaXq b.t (by omega)
  rw [h1q] at ih
  obtain ⟨w, ⟨f, x, ks⟩⟩ := b
  apply a0pq
  rw [hw]
  refine a6q (f0q (by simpa using hlt)) ⟨p.length, rfl, _, _, _, _, hx, ?_⟩
  by_cases h : w = v
  ·refine a6q (decide_eq_true h) ⟨p.length, rfl, _, _, _, _, hx, _, _, _, c, ?_, rfl⟩
   simp [s9q, h, Tm.da]
  ·refine a2q (decide_eq_false h) ?_
   have e2 : s9q (⟨w, .mk f x ks⟩ :: q) v = s9q q v := by simp [s9q, h]
   rw [e2]
   exact ih
theorem a7Iq (u : List Bd) (hu : cnL Bd.cn u ≤ 1048576) (v : Int) : XC pg 200 [L (u.map Bd.da), Z v] [] (.dat (s9q u v).da) [] := by
 apply a9Cq
 exact a27q u hu v u [] rfl
theorem a5rq (u : List Bd) (hl : u.length ≤ 1048576) (v : Int) : ∀ (q p : List Bd), u = p ++ q → A4q (.tup [.dat (O5q q v).1.da, B (O5q q v).2]) [] v (u.map Bd.da) (u.length : Int) (p.length : Int) 0 0
 | [], p, e => by
  apply Z0q
  subst e
  exact a2q (d9q (by simp)) ⟨rfl, rfl⟩
 | b :: q, p, e => by
  have ih := a5rq u hl v q (p ++ [b]) (by simp [e])
  have hx : (u.map Bd.da)[p.length]? = some b.da := by rw [e]; exact g3q
  have hlt : p.length < u.length := by rw [e]; simp
  have hw := wr1 hlt (by omega)
  rw [h1q] at ih
  obtain ⟨w, ⟨f, x, ks⟩⟩ := b
  apply Z0q
  rw [hw]
  refine a6q (f0q hlt) ⟨p.length, rfl, _, _, _, _, hx, ?_⟩
  by_cases h : w = v
  ·refine a6q (decide_eq_true h) ⟨?_, rfl⟩
   simp [O5q, h, Tm.da]
  ·refine a2q (decide_eq_false h) ?_
   have e2 : O5q (⟨w, .mk f x ks⟩ :: q) v = O5q q v := by simp [O5q, h]
   rw [e2]
   exact ih
theorem acgq (u : List Bd) (hl : u.length ≤ 1048576) (v : Int) : XC pg 232 [L (u.map Bd.da), Z v] [] (.tup [.dat (O5q u v).1.da, B (O5q u v).2]) [] := by
 apply a7Rq
 rw [List.length_map]
 exact a5rq u hl v u [] rfl
theorem a8gq (u : List Bd) (hu : cnL Bd.cn u ≤ 1048576) (v : Int) : XC pg 202 [L (u.map Bd.da), Z v] [] (.agg [.d (.int .i64 (s9q u v).f), .d (.int .i64 (s9q u v).v), .ol 0]) [(0, .tr 30 3 (Tm.das (s9q u v).ks))] := by
 have hl := g2q Bd.cn u
 have h1 := acgq u (by omega) v
 have hlc := a4xq u v
 rw [a7wq] at hlc ⊢
 generalize O5q u v = tb at *
 obtain ⟨t, b⟩ := tb
 dsimp only at h1 hlc ⊢
 cases b with
 | false =>
  obtain ⟨f, x, ks⟩ := t
  apply a2qq
  exact ⟨_, _, _, _, h1, a6q rfl ⟨_, _, a4vq ⟨rfl, rfl⟩, rfl, rfl⟩⟩
 | true =>
  have c := a8hq t (by simp at hlc; omega)
  obtain ⟨f, x, ks⟩ := t
  apply a2qq
  exact ⟨_, _, _, _, h1, a2q rfl ⟨_, _, _, c, rfl, rfl⟩⟩
theorem a5Zq (u : List Bd) (f v : Int) (ks : List Tm) (hc : ks.length ≤ 1048576) : ∀ (q p : List Tm), ks = p ++ q → (∀ t ∈ q, XC pg 142 [L (u.map Bd.da), .dat t.da] [] (.dat (fil u t).da) []) → v7q (.dat (Tm.mk f v (fils u ks)).da) [] (u.map Bd.da) (p.length : Int) f v (Tm.das ks) 0 0 f v (Tm.das (fils u p))
 | [], p, e, _ => by
  apply Y4q
  subst e
  exact a2q (d9q (by simp [b3q])) ⟨by simp [Tm.da], rfl⟩
 | y :: q, p, e, ht => by
  have ih := a5Zq u f v ks hc q (p ++ [y]) (by simp [e]) (fun t h => ht t (List.mem_cons_of_mem _ h))
  have c := ht y (by simp)
  have hx : (Tm.das ks)[p.length]? = some y.da := by rw [e]; exact q2q
  have hlt : p.length < ks.length := by rw [e]; simp
  have hw := wr1 hlt (by omega)
  have hb : ((Tm.das (fils u p)).length + 1) * 40 ≤ 140737488355328 := by rw [b3q, a1vq, List.length_map]; omega
  have e2 : Tm.das (fils u (p ++ [y])) = Tm.das (fils u p) ++ [(fil u y).da] := by simp [a1vq, Tm.das_map]
  rw [h1q, e2] at ih
  generalize fil u y = z at *
  obtain ⟨g, x, ms⟩ := y
  obtain ⟨g', x', ms'⟩ := z
  apply Y4q
  rw [hw]
  exact a6q (f0q (by rw [b3q]; exact hlt)) ⟨p.length, rfl, _, _, _, hx, _, _, _, c, ⟨hb⟩, ih⟩
theorem acAq (u : List Bd) (hu : cnL Bd.cn u ≤ 1048576) (t : Tm) : t.cn ≤ 1048576 → XC pg 142 [L (u.map Bd.da), .dat t.da] [] (.dat (fil u t).da) [] := by
 induction t using Tm.ind with
 | h f v ks ih =>
 intro hc
 have hcn : (Tm.mk f v ks).cn = Tm.cns ks := by simp [Tm.cn]
 rw [hcn] at hc
 have hkl := Tm.cns_cnL ks ▸ g2q Tm.cn ks
 have lp := a5Zq u f v ks (by omega) ks [] rfl (fun t ht => ih t ht (by have := Tm.cns_cnL ks ▸ i8q (cn := Tm.cn) ht; omega))
 have lk := a7Iq u hu v
 apply a82q
 by_cases hf : f = -1
 ·refine a6q (decide_eq_true hf) ?_
  by_cases hk : ks.length = 0
  ·have e : fil u (.mk f v ks) = s9q u v := by rw [fil, if_pos ⟨hf, hk⟩]
   rw [e]
   refine a6q (by rw [b3q]; simp [hk]) ?_
   generalize s9q u v = z at *
   obtain ⟨g, x, ms⟩ := z
   exact ⟨_, _, _, lk, rfl, rfl⟩
  ·have e : fil u (.mk f v ks) = .mk f v (fils u ks) := by rw [fil, if_neg (fun h => hk h.2)]
   rw [e]
   exact a2q (by rw [b3q]; simp [hk]) lp
 ·have e : fil u (.mk f v ks) = .mk f v (fils u ks) := by rw [fil, if_neg (fun h => hf h.1)]
  rw [e]
  exact a2q (decide_eq_false hf) lp
theorem a3Nq (u : List Bd) (f v : Int) (ks : List Tm) (hc : ks.length ≤ 1048576) : ∀ (q p : List Tm), ks = p ++ q → (∀ t ∈ q, XC pg 145 [L (u.map Bd.da), .dat t.da] [] (.agg [.d (.int .i64 (fil u t).f), .d (.int .i64 (fil u t).v), .ol 0]) [(0, .tr 30 3 (Tm.das (fil u t).ks))]) → t6q (.agg [.d (.int .i64 f), .d (.int .i64 v), .ol 0]) [(0, .tr 30 3 (Tm.das (fils u ks)))] (u.map Bd.da) (Tm.das ks) (ks.length : Int) (p.length : Int) f v (Tm.das ks) 0 0 (Tm.das (fils u p))
 | [], p, e, _ => by
  apply U0q
  subst e
  exact a2q (d9q (by simp)) ⟨rfl, by simp⟩
 | y :: q, p, e, ht => by
  have ih := a3Nq u f v ks hc q (p ++ [y]) (by simp [e]) (fun t h => ht t (List.mem_cons_of_mem _ h))
  have c := ht y (by simp)
  have hx : (Tm.das ks)[p.length]? = some y.da := by rw [e]; exact q2q
  have hlt : p.length < ks.length := by rw [e]; simp
  have hw := wr1 hlt (by omega)
  have hb : ((Tm.das (fils u p)).length + 1) * 40 ≤ 140737488355328 := by rw [b3q, a1vq, List.length_map]; omega
  have e2 : Tm.das (fils u (p ++ [y])) = Tm.das (fils u p) ++ [(fil u y).da] := by simp [a1vq, Tm.das_map]
  rw [h1q, e2] at ih
  generalize fil u y = z at *
  obtain ⟨g, x, ms⟩ := y
  obtain ⟨g', x', ms'⟩ := z
  apply U0q
  rw [hw]
  exact a6q (f0q hlt) ⟨p.length, rfl, _, _, _, hx, _, _, _, c, ⟨hb⟩, ih⟩
theorem aaOq (u : List Bd) (hu : cnL Bd.cn u ≤ 1048576) (t : Tm) : t.cn ≤ 1048576 → XC pg 145 [L (u.map Bd.da), .dat t.da] [] (.agg [.d (.int .i64 (fil u t).f), .d (.int .i64 (fil u t).v), .ol 0]) [(0, .tr 30 3 (Tm.das (fil u t).ks))] := by
 induction t using Tm.ind with
 | h f v ks ih =>
 intro hc
 have hcn : (Tm.mk f v ks).cn = Tm.cns ks := by simp [Tm.cn]
 rw [hcn] at hc
 have hkl := Tm.cns_cnL ks ▸ g2q Tm.cn ks
 have lp := a3Nq u f v ks (by omega) ks [] rfl (fun t ht => ih t ht (by have := Tm.cns_cnL ks ▸ i8q (cn := Tm.cn) ht; omega))
 have lk := a8gq u hu v
 apply a68q
 rw [b3q]
 refine ⟨_, a0Gq (.mk f v ks), ?_⟩
 by_cases hf : f = -1
 ·refine a6q (decide_eq_true hf) ?_
  by_cases hk : ks.length = 0
  ·have e : fil u (.mk f v ks) = s9q u v := by rw [fil, if_pos ⟨hf, hk⟩]
   rw [e]
   exact a6q (by simp [hk]) ⟨_, _, _, lk, rfl, rfl⟩
  ·have e : fil u (.mk f v ks) = .mk f v (fils u ks) := by rw [fil, if_neg (fun h => hk h.2)]
   rw [e]
   exact a2q (by simp [hk]) lp
 ·have e : fil u (.mk f v ks) = .mk f v (fils u ks) := by rw [fil, if_neg (fun h => hf h.1)]
  rw [e]
  exact a2q (decide_eq_false hf) lp
def r9q (s : List Sy) (u : List Bd) (t : Tm) : Tm := nrm s (fil u t)
theorem a35q {s : List Sy} {u : List Bd} {t : Tm} (h1 : t.cn ≤ 1048576) (h2 : cnL Bd.cn u ≤ 1048576) : (r9q s u t).cn ≤ 1099513724928 := Nat.le_trans (Q9q s _) (a7bq h1 h2)
def j9q (s : List Sy) (u : List Bd) (x : Li) : Li := lmk s x.p (r9q s u x.l) (r9q s u x.r)
theorem a0Sq (s : List Sy) (hs : s.length ≤ 10000000) (u : List Bd) (hu : cnL Bd.cn u ≤ 1048576) (t : Tm) (hc : t.cn ≤ 1048576) : XC pg 79 [L (s.map Sy.da), L (u.map Bd.da), .dat t.da] [] (.dat (r9q s u t).da) [] := by
 have h1 := acAq u hu t hc
 have h2 := T2q s hs (fil u t) (by have := a7bq hc hu; omega)
 unfold r9q
 generalize nrm s (fil u t) = y at *
 generalize fil u t = x at *
 obtain ⟨f, v, ks⟩ := t
 obtain ⟨f', v', ks'⟩ := x
 obtain ⟨g, w, ms⟩ := y
 apply a7Uq
 exact ⟨_, _, _, h1, _, _, _, h2, rfl, rfl⟩
theorem a1fq (s : List Sy) (hs : s.length ≤ 10000000) (u : List Bd) (hu : cnL Bd.cn u ≤ 1048576) (t : Tm) (hc : t.cn ≤ 1048576) : XC pg 81 [L (s.map Sy.da), L (u.map Bd.da), .dat t.da] [] (.agg [.d (.int .i64 (r9q s u t).f), .d (.int .i64 (r9q s u t).v), .ol 0]) [(0, .tr 30 3 (Tm.das (r9q s u t).ks))] := by
 have h1 := aaOq u hu t hc
 have h2 := T5q s hs (fil u t) (by have := a7bq hc hu; omega)
 unfold r9q
 generalize nrm s (fil u t) = y at *
 generalize fil u t = x at *
 obtain ⟨f, v, ks⟩ := t
 obtain ⟨f', v', ks'⟩ := x
 obtain ⟨g, w, ms⟩ := y
 apply a8cq
 exact ⟨_, _, _, h1, _, _, _, h2, rfl, rfl⟩
theorem E4q (s : List Sy) (hs : s.length ≤ 10000000) (u : List Bd) (hu : cnL Bd.cn u ≤ 1048576) (x : Li) (hc : x.cn ≤ 1048576) : XC pg 66 [L (s.map Sy.da), L (u.map Bd.da), .dat x.da] [] (.dat (j9q s u x).da) [] := by
 have h0 : x.cn = x.l.cn + x.r.cn := rfl
 have h1 := a0Sq s hs u hu x.l (by omega)
 have h2 := a0Sq s hs u hu x.r (by omega)
 have h3 := Y3q s hs x.p (r9q s u x.l) (r9q s u x.r) (by have := a35q (s := s) (u := u) (t := x.l) (by omega) hu; omega) (by have := a35q (s := s) (u := u) (t := x.r) (by omega) hu; omega)
 unfold j9q
 generalize lmk s x.p (r9q s u x.l) (r9q s u x.r) = z at *
 generalize r9q s u x.l = a at *
 generalize r9q s u x.r = b at *
 obtain ⟨p, ⟨f, v, ks⟩, ⟨g, w, ms⟩⟩ := x
 obtain ⟨f1, v1, k1⟩ := a
 obtain ⟨f2, v2, k2⟩ := b
 obtain ⟨p3, ⟨f3, v3, k3⟩, ⟨f4, v4, k4⟩⟩ := z
 apply a4Cq
 exact ⟨_, _, _, h1, _, _, _, h2, _, _, _, _, _, _, _, h3, rfl, rfl⟩
theorem F0q (s : List Sy) (hs : s.length ≤ 10000000) (u : List Bd) (hu : cnL Bd.cn u ≤ 1048576) (x : Li) (hc : x.cn ≤ 1048576) : XC pg 72 [L (s.map Sy.da), L (u.map Bd.da), .dat x.da] [] (.agg [.d (.bool (j9q s u x).p), .d (.int .i64 (j9q s u x).l.f), .d (.int .i64 (j9q s u x).l.v), .ol 0, .d (.int .i64 (j9q s u x).r.f), .d (.int .i64 (j9q s u x).r.v), .ol 1]) [(0, .tr 30 3 (Tm.das (j9q s u x).l.ks)), (1, .tr 30 3 (Tm.das (j9q s u x).r.ks))] := by
 have h0 : x.cn = x.l.cn + x.r.cn := rfl
 have h1 := a1fq s hs u hu x.l (by omega)
 have h2 := a1fq s hs u hu x.r (by omega)
 have h3 := Z6q s hs x.p (r9q s u x.l) (r9q s u x.r) (by have := a35q (s := s) (u := u) (t := x.l) (by omega) hu; omega) (by have := a35q (s := s) (u := u) (t := x.r) (by omega) hu; omega)
 unfold j9q
 generalize lmk s x.p (r9q s u x.l) (r9q s u x.r) = z at *
 generalize r9q s u x.l = a at *
 generalize r9q s u x.r = b at *
 obtain ⟨p, ⟨f, v, ks⟩, ⟨g, w, ms⟩⟩ := x
 obtain ⟨f1, v1, k1⟩ := a
 obtain ⟨f2, v2, k2⟩ := b
 obtain ⟨p3, ⟨f3, v3, k3⟩, ⟨f4, v4, k4⟩⟩ := z
 apply a4fq
 exact ⟨_, _, _, h1, _, _, _, h2, _, _, _, _, _, _, _, h3, rfl, rfl⟩
def o9q {α : Type} (cmp : α → α → Int) (x : α) : List α → List α
 | [] => [x]
 | y :: r => if cmp y x < 0 then y :: o9q cmp x r else if cmp y x = 0 then y :: r else x :: y :: r
def O0q {α : Type} (cmp : α → α → Int) (l : List α) : List α := l.foldl (fun a x => o9q cmp x a) []
def n5q {β : Type} (eq : β → β → Bool) : β → List β → List β
 | _, [] => []
 | p, y :: r => if eq y p then n5q eq y r else y :: n5q eq y r
def T4q {β : Type} (eq : β → β → Bool) : List β → List β
 | [] => []
 | x :: r => x :: n5q eq x r
abbrev SsC {α : Type} (cmp : α → α → Int) (l : List α) : Prop := l.Pairwise (fun a b => cmp a b < 0)
section
variable {α : Type} {cmp : α → α → Int}
theorem TotC.lt_tr (h : TotC cmp) {a b c : α} (h1 : cmp a b < 0) (h2 : cmp b c ≤ 0) : cmp a c < 0 := by
 have h3 := h.tr a b c (by omega) h2
 by_cases h4 : cmp a c = 0
 ·have := h.eq a c h4
  subst this
  have := h.neg a b
  omega
 ·omega
theorem TotC.self (h : TotC cmp) (a : α) : cmp a a = 0 := by have := h.neg a a; omega
theorem a46q (h : TotC cmp) {x y : α} : ∀ {l : List α}, y ∈ o9q cmp x l ↔ y = x ∨ y ∈ l
 | [] => by simp [o9q]
 | z :: r => by
  have ih := a46q h (x := x) (y := y) (l := r)
  unfold o9q
  split
  ·rw [List.mem_cons, ih, List.mem_cons]
   constructor <;> rintro (h | h | h) <;> simp [h]
  ·split
   ·rename_i h2
    have := h.eq _ _ h2
    subst this
    simp
   ·simp
theorem abxq (h : TotC cmp) {x : α} : ∀ {l : List α}, SsC cmp l → SsC cmp (o9q cmp x l)
 | [], _ => by simp [o9q, SsC]
 | z :: r, hs => by
  obtain ⟨h1, h2⟩ := List.pairwise_cons.1 hs
  unfold o9q
  split
  ·rename_i hz
   refine List.pairwise_cons.2 ⟨fun w hw => ?_, abxq h h2⟩
   rcases (a46q h).1 hw with rfl | hw
   ·exact hz
   ·exact h1 w hw
  ·split
   ·exact hs
   ·have hxz : cmp x z < 0 := by have := h.neg x z; omega
    refine List.pairwise_cons.2 ⟨fun w hw => ?_, hs⟩
    rcases List.mem_cons.1 hw with rfl | hw
    ·exact hxz
    ·exact h.lt_tr hxz (by have := h1 w hw; omega)
theorem aeZq (h : TotC cmp) (l : List α) : ∀ a : List α, SsC cmp a → SsC cmp (l.foldl (fun a x => o9q cmp x a) a) ∧ ∀ y, y ∈ l.foldl (fun a x => o9q cmp x a) a ↔ y ∈ l ∨ y ∈ a := by
 induction l with
 | nil => intro a ha; exact ⟨ha, by simp⟩
 | cons x r ih =>
  intro a ha
  obtain ⟨h1, h2⟩ := ih _ (abxq h ha)
  refine ⟨h1, fun y => ?_⟩
  rw [List.foldl_cons, h2, a46q h, List.mem_cons]
  constructor
  ·rintro (h | h | h) <;> simp [h]
  ·rintro ((h | h) | h) <;> simp [h]
theorem absq (h : TotC cmp) : ∀ {a b : List α}, SsC cmp a → SsC cmp b → (∀ x, x ∈ a ↔ x ∈ b) → a = b
 | [], [], _, _, _ => rfl
 | [], y :: s, _, _, hm => by have := (hm y).2 (by simp); simp at this
 | x :: r, [], _, _, hm => by have := (hm x).1 (by simp); simp at this
 | x :: r, y :: s, ha, hb, hm => by
  obtain ⟨a1, a2⟩ := List.pairwise_cons.1 ha
  obtain ⟨b1, b2⟩ := List.pairwise_cons.1 hb
  have hxy : x = y := by
   rcases List.mem_cons.1 ((hm x).1 (by simp)) with e | h1
   ·exact e
   ·rcases List.mem_cons.1 ((hm y).2 (by simp)) with e | h2
    ·exact e.symm
    ·have := a1 y h2; have := b1 x h1; have := h.neg x y; omega
  subst hxy
  rw [absq h a2 b2 fun z => ?_]
  have := hm z
  rw [List.mem_cons, List.mem_cons] at this
  constructor
  ·intro hz
   rcases this.1 (.inr hz) with e | h1
   ·subst e; have := a1 z hz; have := h.self z; omega
   ·exact h1
  ·intro hz
   rcases this.2 (.inr hz) with e | h1
   ·subst e; have := b1 z hz; have := h.self z; omega
   ·exact h1
theorem a9Yq {eq : α → α → Bool} (he : ∀ a b, eq a b = true → a = b) {y : α} : ∀ {l : List α} {p : α}, (y ∈ n5q eq p l → y ∈ l) ∧ (y ∈ l → y = p ∨ y ∈ n5q eq p l)
 | [], p => by simp [n5q]
 | x :: r, p => by
  obtain ⟨h1, h2⟩ := a9Yq he (y := y) (l := r) (p := x)
  unfold n5q
  split
  ·rename_i h3
   have := he _ _ h3
   subst this
   exact ⟨fun h => List.mem_cons_of_mem _ (h1 h), fun h => by
    rcases List.mem_cons.1 h with h | h
    ·exact .inl h
    ·exact h2 h⟩
  ·refine ⟨fun h => ?_, fun h => ?_⟩
   ·rcases List.mem_cons.1 h with h | h
    ·simp [h]
    ·exact List.mem_cons_of_mem _ (h1 h)
   ·rcases List.mem_cons.1 h with h | h
    ·simp [h]
    ·rcases h2 h with h | h <;> simp [h]
theorem abhq (h : TotC cmp) {eq : α → α → Bool} (he : ∀ a b, eq a b = decide (cmp a b = 0)) : ∀ {l : List α} {p : α}, SdC cmp (p :: l) → SsC cmp (p :: n5q eq p l)
 | [], p, _ => by simp [n5q, SsC]
 | x :: r, p, hs => by
  obtain ⟨h1, h2⟩ := List.pairwise_cons.1 hs
  have ih := abhq h he h2
  unfold n5q
  split
  ·rename_i h3
   rw [he, decide_eq_true_eq] at h3
   have := h.eq _ _ h3
   subst this
   exact ih
  ·rename_i h3
   rw [he, decide_eq_true_eq] at h3
   have hpx : cmp p x < 0 := by have := h1 x (by simp); have := h.neg p x; omega
   refine List.pairwise_cons.2 ⟨fun w hw => ?_, ih⟩
   rcases List.mem_cons.1 hw with rfl | hw
   ·exact hpx
   ·exact h.lt_tr hpx (by have := (List.pairwise_cons.1 ih).1 w hw; omega)
theorem acuq (h : TotC cmp) {eq : α → α → Bool} (he : ∀ a b, eq a b = decide (cmp a b = 0)) (l : List α) : T4q eq (q5q cmp l) = O0q cmp l := by
 obtain ⟨h1, h2⟩ := aeZq h l [] (by simp [SsC])
 have hs := a4dq h l
 have hp := A3q cmp l
 have hee : ∀ a b, eq a b = true → a = b := fun a b e => h.eq a b (by simpa [he] using e)
 generalize q5q cmp l = s at hs hp
 refine absq h ?_ h1 fun x => ?_
 ·cases s with
  | nil => simp [T4q, SsC]
  | cons p r => exact abhq h he hs
 ·rw [O0q, h2, ← hp.mem_iff]
  cases s with
  | nil => simp [T4q]
  | cons p r =>
   obtain ⟨g1, g2⟩ := a9Yq hee (y := x) (l := r) (p := p)
   simp only [T4q, List.mem_cons, List.not_mem_nil, or_false]
   constructor
   ·rintro (h | h)
    ·exact .inl h
    ·exact .inr (g1 h)
   ·rintro (h | h)
    ·exact .inl h
    ·exact g2 h
theorem a7hq {β : Type} (eq : β → β → Bool) : ∀ (l : List β) (p : β), ∃ r, (n5q eq p l ++ r).Perm l
 | [], p => ⟨[], by simp [n5q]⟩
 | y :: l, p => by
  obtain ⟨r, h⟩ := a7hq eq l y
  unfold n5q
  split
  ·exact ⟨y :: r, List.perm_middle.trans (h.cons y)⟩
  ·exact ⟨r, h.cons y⟩
theorem a9rq {β γ : Type} (g : β → γ) (eq : γ → γ → Bool) : ∀ (l : List β) (p : β), (n5q (fun a b => eq (g a) (g b)) p l).map g = n5q eq (g p) (l.map g)
 | [], p => rfl
 | y :: l, p => by
  have h := a9rq g eq l y
  simp only [n5q, List.map_cons]
  split
  ·exact h
  ·rw [List.map_cons, h]
theorem a8Oq {cn : α → Nat} {x : α} : ∀ l : List α, (((o9q cmp x l).map cn).sum + (o9q cmp x l).length) ≤ cn x + 1 + ((l.map cn).sum + l.length)
 | [] => by simp [o9q]
 | y :: r => by
  have h := a8Oq (cn := cn) (x := x) r
  unfold o9q; split
  ·simp only [List.map_cons, List.sum_cons, List.length_cons]; omega
  ·split <;> simp only [List.map_cons, List.sum_cons, List.length_cons] <;> omega
end
theorem a2uq (a b : Li) : XC pg 65 [.dat a.da, .dat b.da] [] (B (decide (Li.cmp a b = 0))) [] := by
 have h1 := F7q a.l b.l
 have h2 := F7q a.r b.r
 obtain ⟨p, ⟨f, v, ks⟩, ⟨g, u, ls⟩⟩ := a
 obtain ⟨p', ⟨f', v', ks'⟩, ⟨g', u', ls'⟩⟩ := b
 apply a5Dq
 refine d2q (fun h => ⟨_, h1, g8q (fun h3 => ⟨_, h2, bE ?_⟩) fun h3 => bE ?_⟩) fun h => bE ?_
 ·subst h
  have h3 : Tm.cmp (.mk f v ks) (.mk f' v' ks') = 0 := by simpa using h3
  simp only [Li.cmp, if_true, if_pos h3]
 ·subst h
  have h3 : ¬ Tm.cmp (.mk f v ks) (.mk f' v' ks') = 0 := by simpa using h3
  simp only [Li.cmp, if_true, if_neg h3]
  simp [h3]
 ·simp only [Li.cmp, if_neg h]
  cases p <;> cases p' <;> simp_all
def a4Vq (a b : Li) : Bool := decide (Li.cmp a b = 0)
def s3q (a b : List Da × Li) : Bool := a4Vq a.2 b.2
theorem a3Gq {z w : List Da × Li} (hz : TgP Li.da z) (hw : TgP Li.da w) : XC pg 71 [.dat z.1, .dat w.1] [] (B (s3q z w)) [] := XC.ut (by
 show XC _ _ [.dat (Da.utL z.1), .dat (Da.utL w.1)] _ _ _
 rw [hz.ut Li.ut_da, hw.ut Li.ut_da]; exact Z7q _ _)
theorem adRq : ∀ (R F G : List (List Da × Li)) (y : List Da × Li) (K j : Nat), (∀ z ∈ F ++ G ++ y :: R, TgP Li.da z) → K + j = F.length + G.length + 1 → 1 ≤ j → (F ++ G ++ y :: R).length ≤ 3000000000000 → f2q (.one (.ol 0)) [(0, .lst 85 7 ((F ++ n5q s3q y R).map (·.1)))] (F.length : Int) K (j + R.length) (j : Int) ((F ++ G ++ y :: R).map (·.1)) := by
 intro R
 induction R with
 | nil =>
  intro F G y K j ht hK hj hl
  apply o7q
  refine a2q (decide_eq_false (by simp)) ⟨F.length, rfl, ⟨by simp, Nat.le_refl _⟩, ⟨by simp⟩, F.length, rfl, ⟨by omega, by simp⟩, ⟨by simp⟩, rfl, ?_⟩
  simp [n5q, List.take_append, u1q]
 | cons x R ih =>
  intro F G y K j ht hK hj hl
  have hlen : (F ++ G ++ y :: x :: R).length = F.length + G.length + R.length + 2 := by simp; omega
  have hx := ht x (by simp)
  have hy := ht y (by simp)
  have c := a3Gq hx hy
  obtain ⟨b, n1, n2, d, n3, n4, d1, ex⟩ := hx.lit
  obtain ⟨b', m1, m2, d', m3, m4, d1', ey⟩ := hy.lit
  have gx : ((F ++ G ++ y :: x :: R).map (·.1))[K + j]? = some x.1 := by
   have h := g3q (g := fun z : List Da × Li => z.1) (p := F ++ G ++ [y]) (x := x) (q := R)
   rw [show (F ++ G ++ [y]).length = K + j by simp; omega] at h
   simpa using h
  have gy : ((F ++ G ++ y :: x :: R).map (·.1))[K + (j - 1)]? = some y.1 := by
   have h := g3q (g := fun z : List Da × Li => z.1) (p := F ++ G) (x := y) (q := x :: R)
   rw [show (F ++ G).length = K + (j - 1) by simp; omega] at h
   exact h
  have w0 : IntKind.wrap .i64 ((j : Int) - 1) = ((j - 1 : Nat) : Int) := by rw [wrI (by omega) (by omega)]; omega
  have w1 : IntKind.wrap .i64 ((j : Int) + 1) = ((j + 1 : Nat) : Int) := by rw [wrI (by omega) (by omega)]; omega
  have w2 : IntKind.wrap .i64 ((F.length : Int) + 1) = ((F.length + 1 : Nat) : Int) := by rw [wrI (by omega) (by omega)]; omega
  have gx2 := gx
  rw [ex] at c gx2
  rw [ey] at c gy
  apply o7q
  rw [w0, w1, w2]
  refine a6q (decide_eq_true (by simp; omega)) ⟨j, rfl, ⟨by simp⟩, K + j, rfl, _, _, _, _, _, _, _, gx2, j - 1, rfl, ⟨by simp; omega⟩, K + (j - 1), rfl, _, _, _, _, _, _, _, gy, _, c, ?_⟩
  by_cases hs : s3q x y = true
  ·refine a2q (by simp [hs]) ?_
   have h := ih F (G ++ [y]) x K (j + 1) (by simpa using ht) (by simp; omega) (by omega) (by simp at hl ⊢; omega)
   have e1 : F ++ (G ++ [y]) ++ x :: R = F ++ G ++ y :: x :: R := by simp
   have e2 : n5q s3q y (x :: R) = n5q s3q x R := by rw [n5q, if_pos hs]
   rw [e1] at h
   rw [e2, show j + (x :: R).length = j + 1 + R.length by simp; omega]
   exact h
  ·refine a6q (by simpa using hs) ?_
   obtain ⟨g, H, eG⟩ : ∃ g H, G ++ [y] = g :: H := by
    cases G with
    | nil => exact ⟨y, [], rfl⟩
    | cons g G' => exact ⟨g, G' ++ [y], rfl⟩
   have hHl : H.length = G.length := by have := congrArg List.length eG; simp at this; omega
   have e0 : F ++ G ++ y :: x :: R = F ++ g :: (H ++ x :: R) := by
    rw [show F ++ G ++ y :: x :: R = F ++ (G ++ [y]) ++ x :: R by simp, eG]; simp
   have hg := ht g (by rw [e0]; simp)
   obtain ⟨b2, k1, k2, d2, k3, k4, d3, eg⟩ := hg.lit
   have gg : ((F ++ G ++ y :: x :: R).map (·.1))[F.length]? = some g.1 := by rw [e0]; exact g3q
   rw [eg] at gg
   refine ⟨j, rfl, ⟨by simp⟩, K + j, rfl, _, _, _, _, _, _, _, gx2, F.length, rfl, ⟨by simp; omega⟩, F.length, rfl, _, _, _, _, _, _, _, gg, ?_⟩
   have h := ih (F ++ [x]) H x K (j + 1) (fun z hz => by
    apply ht z
    rw [e0]
    simp at hz ⊢
    rcases hz with h | h | h | h | h <;> simp [h]) (by simp; omega) (by omega) (by simp at hl ⊢; omega)
   have e3 : (F ++ [x] ++ H ++ x :: R).map (·.1) = ((F ++ G ++ y :: x :: R).map (·.1)).set F.length x.1 := by rw [e0]; simp [List.set_append]
   have e2 : F ++ n5q s3q y (x :: R) = F ++ [x] ++ n5q s3q x R := by rw [n5q, if_neg hs]; simp
   rw [e3, ex, show (F ++ [x]).length = F.length + 1 by simp] at h
   rw [e2, show j + (x :: R).length = j + 1 + R.length by simp; omega]
   exact h
theorem abNq : ∀ (R P : List (List Da × Li)) (y : List Da × Li), (∀ z ∈ P ++ y :: R, TgP Li.da z) → (P ++ y :: R).length ≤ 3000000000000 → g7q (.one (.ol 0)) [(0, .lst 85 7 ((P ++ y :: n5q s3q y R).map (·.1)))] ((P.length + 1 : Nat) : Int) ((P ++ y :: R).map (·.1)) := by
 intro R
 induction R with
 | nil =>
  intro P y ht hl
  apply o8q
  exact a2q (decide_eq_false (by simp)) ⟨rfl, by simp [n5q]⟩
 | cons x R ih =>
  intro P y ht hl
  have hx := ht x (by simp)
  have hy := ht y (by simp)
  have c := a3Gq hx hy
  obtain ⟨b, n1, n2, d, n3, n4, d1, ex⟩ := hx.lit
  obtain ⟨b', m1, m2, d', m3, m4, d1', ey⟩ := hy.lit
  have gx : ((P ++ y :: x :: R).map (·.1))[P.length + 1]? = some x.1 := by
   have h := g3q (g := fun z : List Da × Li => z.1) (p := P ++ [y]) (x := x) (q := R)
   rw [show (P ++ [y]).length = P.length + 1 by simp, show P ++ [y] ++ x :: R = P ++ y :: x :: R by simp] at h
   exact h
  have gy : ((P ++ y :: x :: R).map (·.1))[P.length]? = some y.1 := g3q
  have hlen : (P ++ y :: x :: R).length = P.length + R.length + 2 := by simp; omega
  have w0 : IntKind.wrap .i64 (((P.length + 1 : Nat) : Int) - 1) = (P.length : Int) := by rw [wrI (by omega) (by omega)]; omega
  have w1 : IntKind.wrap .i64 (((P.length + 1 : Nat) : Int) + 1) = ((P.length + 1 + 1 : Nat) : Int) := by rw [wrI (by omega) (by omega)]; omega
  rw [ex] at c gx
  rw [ey] at c gy
  apply o8q
  rw [w0, w1]
  refine a6q (decide_eq_true (by simp; omega)) ⟨P.length + 1, rfl, ⟨by simp⟩, P.length + 1, rfl, _, _, _, _, _, _, _, gx, P.length, rfl, ⟨by simp⟩, P.length, rfl, _, _, _, _, _, _, _, gy, _, c, ?_⟩
  by_cases hs : s3q x y = true
  ·refine a6q hs ⟨P.length + 1, rfl, ⟨by simp, Nat.le_refl _⟩, ?_⟩
   have h := adRq R (P ++ [y]) [] x (P.length + 1) 1 (by simpa using ht) (by simp) (Nat.le_refl _) (by simp at hl ⊢; omega)
   have e1 : P ++ [y] ++ [] ++ x :: R = P ++ y :: x :: R := by simp
   have e2 : P ++ y :: n5q s3q y (x :: R) = P ++ [y] ++ n5q s3q x R := by rw [n5q, if_pos hs]; simp
   rw [e1, show (P ++ [y]).length = P.length + 1 by simp] at h
   rw [e2, show ((P ++ y :: x :: R).map (·.1)).length - (P.length + 1) = 1 + R.length by simp; omega, Nat.zero_add]
   exact h
  ·refine a2q (by simpa using hs) ?_
   have h := ih (P ++ [y]) x (by simpa using ht) (by simp at hl ⊢; omega)
   have e1 : P ++ [y] ++ x :: R = P ++ y :: x :: R := by simp
   have e2 : P ++ y :: n5q s3q y (x :: R) = P ++ [y] ++ x :: n5q s3q x R := by rw [n5q, if_neg hs]; simp
   rw [e1, show (P ++ [y]).length = P.length + 1 by simp] at h
   rw [e2]
   exact h
theorem ab7q (zs : List (List Da × Li)) (ht : ∀ z ∈ zs, TgP Li.da z) (hl : zs.length ≤ 3000000000000) : XC pg 236 [.one (.ol 2000), .one (.d (.fn 71))] [(2000, .lst 85 7 (zs.map (·.1)))] (.one (.ol 0)) [(0, .lst 85 7 ((T4q s3q zs).map (·.1)))] := by
 apply B4q
 match zs, ht, hl with
 | [], _, _ => exact a6q (by simp) ⟨rfl, rfl⟩
 | [z], _, _ => exact a6q (by simp) ⟨rfl, rfl⟩
 | z :: x :: R, ht, hl =>
  refine a2q (decide_eq_false (by simp; omega)) ?_
  exact abNq (x :: R) [] z ht hl
theorem adKq {β : Type} (eq : β → β → Bool) : ∀ l : List β, ∃ r, (T4q eq l ++ r).Perm l
 | [] => ⟨[], by simp [T4q]⟩
 | x :: l => by
  obtain ⟨r, h⟩ := a7hq eq l x
  exact ⟨r, h.cons x⟩
theorem aeFq {β γ : Type} (g : β → γ) (eq : γ → γ → Bool) : ∀ l : List β, (T4q (fun a b => eq (g a) (g b)) l).map g = T4q eq (l.map g)
 | [] => rfl
 | x :: l => by
  show g x :: _ = _
  rw [a9rq g eq l x]; rfl
theorem aaHq (ls : List Li) (hl : ls.length ≤ 3000000000000) : XC pg 236 [.one (.ol 2000), .one (.d (.fn 71))] [(2000, .tr 85 7 (ls.map Li.da))] (.one (.ol 0)) [(0, .tr 85 7 ((T4q a4Vq ls).map Li.da))] := by
 refine aeoq fun xs' hx => ?_
 obtain ⟨zs, rfl, rfl, ht⟩ := a1uq hx
 obtain ⟨r, hp⟩ := adKq s3q zs
 refine ⟨(T4q s3q zs).map (·.1), ⟨r.map (·.1), ?_⟩, ?_, ab7q zs ht (by simpa using hl)⟩
 ·rw [← List.map_append]
  exact hp.map _
 ·rw [a1Oq fun z hz => ht z (hp.subset (List.mem_append_left _ hz))]
  congr 1
  exact aeFq (fun z : List Da × Li => z.2) a4Vq zs
def t2q (s : List Sy) (x : Li) : Li := lmk s x.p x.l x.r
def clm (s : List Sy) (ls : List Li) : List Li := O0q Li.cmp (ls.map (t2q s))
theorem afyq (s : List Sy) (x : Li) : (t2q s x).cn ≤ x.cn := ad4q s x.p x.l x.r
theorem a97q (l : List Li) : ∀ a : List Li, cnL Li.cn (l.foldl (fun a x => o9q Li.cmp x a) a) ≤ cnL Li.cn a + cnL Li.cn l := by
 induction l with
 | nil => intro a; simp
 | cons x r ih =>
  intro a
  have h1 := ih (o9q Li.cmp x a)
  have h2 := a8Oq (cmp := Li.cmp) (cn := Li.cn) (x := x) a
  have e1 : cnL Li.cn (x :: r) = 1 + x.cn + cnL Li.cn r := by simp [cnL]; omega
  have e2 : cnL Li.cn a = a.length + (a.map Li.cn).sum := by simp [cnL]
  have e3 : cnL Li.cn (o9q Li.cmp x a) = (o9q Li.cmp x a).length + ((o9q Li.cmp x a).map Li.cn).sum := by simp [cnL]
  rw [List.foldl_cons]
  omega
theorem a9Jq (s : List Sy) (l : List Li) : cnL Li.cn (l.map (t2q s)) ≤ cnL Li.cn l := by
 induction l with
 | nil => simp
 | cons x r ih =>
  have h := afyq s x
  have e1 : cnL Li.cn (x :: r) = 1 + x.cn + cnL Li.cn r := by simp [cnL]; omega
  have e2 : cnL Li.cn ((x :: r).map (t2q s)) = 1 + (t2q s x).cn + cnL Li.cn (r.map (t2q s)) := by simp [cnL]; omega
  omega
theorem ad1q (s : List Sy) (ls : List Li) : cnL Li.cn (clm s ls) ≤ cnL Li.cn ls := by
 have h1 := a97q (ls.map (t2q s)) []
 have h2 := a9Jq s ls
 have h3 : cnL Li.cn ([] : List Li) = 0 := by simp [cnL]
 unfold clm O0q
 omega
theorem M2q (s : List Sy) (hs : s.length ≤ 10000000) (ls : List Li) (hc : cnL Li.cn ls ≤ 1200000000000) : ∀ (q p : List Li), ls = p ++ q → q9q (.agg [.ol 0]) [(0, .tr 85 7 ((clm s ls).map Li.da))] (s.map Sy.da) (ls.map Li.da) (ls.length : Int) (p.length : Int) ((p.map (t2q s)).map Li.da)
 | [], p, e => by
  have hl := g2q Li.cn ls
  have c1 := ab3q (ls.map (t2q s)) (by simp; omega)
  have c2 := aaHq (q5q Li.cmp (ls.map (t2q s))) (by rw [(A3q _ _).length_eq]; simp; omega)
  have e1 : T4q a4Vq (q5q Li.cmp (ls.map (t2q s))) = clm s ls := acuq a8zq (fun _ _ => rfl) _
  rw [e1] at c2
  apply H1q
  have ep : ls = p := by simpa using e
  subst ep
  exact a2q (decide_eq_false (by omega)) ⟨_, c1, _, c2, rfl, rfl⟩
 | x :: q, p, e => by
  have ih := M2q s hs ls hc q (p ++ [x]) (by simp [e])
  have hm := i8q (cn := Li.cn) (l := ls) (x := x) (by simp [e])
  have hl := g2q Li.cn ls
  have hxc : x.cn = x.l.cn + x.r.cn := rfl
  have c := Z6q s hs x.p x.l x.r (by omega) (by omega)
  have hx : (ls.map Li.da)[p.length]? = some x.da := by rw [e]; exact g3q
  have hlt : p.length < ls.length := by rw [e]; simp
  have hw := wr1 hlt (by omega)
  have e2 : ((p ++ [x]).map (t2q s)).map Li.da = (p.map (t2q s)).map Li.da ++ [(t2q s x).da] := by simp
  have e3 : t2q s x = lmk s x.p x.l x.r := rfl
  rw [h1q, e2, e3] at ih
  generalize lmk s x.p x.l x.r = y at *
  obtain ⟨pp, ⟨f, v, ks⟩, ⟨g, u, ms⟩⟩ := x
  obtain ⟨pp', ⟨f', v', ks'⟩, ⟨g', u', ms'⟩⟩ := y
  apply H1q
  rw [hw]
  exact a6q (decide_eq_true (by omega)) ⟨p.length, rfl, _, _, _, _, _, _, _, hx, _, _, _, _, _, _, _, c, ⟨by simp; omega⟩, ih⟩
theorem L8q (s : List Sy) (hs : s.length ≤ 10000000) (ls : List Li) (hc : cnL Li.cn ls ≤ 1200000000000) : XC pg 196 [L (s.map Sy.da), L (ls.map Li.da)] [] (.agg [.ol 0]) [(0, .tr 85 7 ((clm s ls).map Li.da))] := by
 apply a2Vq
 rw [List.length_map]
 exact M2q s hs ls hc ls [] rfl
theorem lis7 (l : List Li) : ∀ y ∈ l.map Li.da, y.length = 7 := by
 intro y hy
 obtain ⟨x, _, rfl⟩ := List.mem_map.1 hy
 obtain ⟨p, ⟨f, v, ks⟩, ⟨g, u, ms⟩⟩ := x
 rfl
theorem U3q (r : AV) (O : List (Nat × Ob)) (s1 : List (List Da)) (s0 : List (List Da)) (s6 : Int) (x : Li) (l : List Li) (hl : l.length ≤ 1200000000000) (h : f8q r O s0 s1 (IntKind.wrap .i64 (s6 + 1)) ((o9q Li.cmp x l).map Li.da)) : ∀ (q p : List Li), l = p ++ q → o9q Li.cmp x l = p ++ o9q Li.cmp x q → r1q r O s0 s1 s6 (p.length : Int) x.p x.l.f x.l.v (Tm.das x.l.ks) x.r.f x.r.v (Tm.das x.r.ks) (l.map Li.da)
 | [], p, e, e2 => by
  have hpl : l.length = p.length := by rw [e]; simp
  have ed : x.da = [.bool x.p, .int .i64 x.l.f, .int .i64 x.l.v, .sl (Tm.das x.l.ks), .int .i64 x.r.f, .int .i64 x.r.v, .sl (Tm.das x.r.ks)] := by obtain ⟨pp, ⟨f, v, ks⟩, ⟨g, u, ms⟩⟩ := x; rfl
  apply I4q
  refine a2q (decide_eq_false (by simp; omega)) (a2q (decide_eq_false (by simp; omega)) ⟨p.length, rfl, ⟨by omega, by simp; omega⟩, ⟨by simp; omega⟩, ⟨lis7 l⟩, ⟨by simp; omega⟩, ⟨by simp; omega⟩, p.length, rfl, ⟨by simp; omega, Nat.le_refl _⟩, ⟨by simp; omega⟩, ⟨lis7 l⟩, ⟨by simp; omega⟩, ?_⟩)
  have h' : f8q r O s0 s1 (IntKind.wrap .i64 (s6 + 1)) ([] ++ ((l.map Li.da).drop (0 + 0)).take (p.length - 0) ++ [x.da] ++ ((l.map Li.da).drop (0 + p.length)).take ((l.map Li.da).length - p.length)) := by
   rw [e2] at h
   subst e
   simpa [o9q, u1q, J9q] using h
  rw [ed] at h'
  exact h'
 | y :: q, p, e, e2 => by
  have hpl : l.length = p.length + q.length + 1 := by rw [e]; simp; omega
  have ed : x.da = [.bool x.p, .int .i64 x.l.f, .int .i64 x.l.v, .sl (Tm.das x.l.ks), .int .i64 x.r.f, .int .i64 x.r.v, .sl (Tm.das x.r.ks)] := by obtain ⟨pp, ⟨f, v, ks⟩, ⟨g, u, ms⟩⟩ := x; rfl
  have hx : (l.map Li.da)[p.length]? = some y.da := by rw [e]; exact g3q
  have c1 := a1dq y x
  have c2 := a2uq y x
  rw [ed] at c1 c2
  have hlt : p.length < l.length := by omega
  have hw := wr1 hlt (by omega)
  have ih := fun h2 => U3q r O s1 s0 s6 x l hl h q (p ++ [y]) (by simp [e]) h2
  rw [h1q] at ih
  apply I4q
  rw [hw]
  by_cases hb : Li.cmp y x < 0
  ·have ih2 := ih (by rw [e2, o9q, if_pos hb]; simp)
   clear ih
   obtain ⟨pp, ⟨f, v, ks⟩, ⟨g, u, ms⟩⟩ := y
   exact a6q (decide_eq_true (by simp; omega)) ⟨p.length, rfl, ⟨by simp; omega⟩, p.length, rfl, _, _, _, _, _, _, _, hx, _, c1, a6q (decide_eq_true hb) ih2⟩
  ·by_cases hs : Li.cmp y x = 0
   ·have el : o9q Li.cmp x l = l := by rw [e2, o9q, if_neg hb, if_pos hs, ← e]
    rw [el] at h
    obtain ⟨pp, ⟨f, v, ks⟩, ⟨g, u, ms⟩⟩ := y
    exact a6q (decide_eq_true (by simp; omega)) ⟨p.length, rfl, ⟨by simp; omega⟩, p.length, rfl, _, _, _, _, _, _, _, hx, _, c1, a2q (decide_eq_false hb) (a6q (decide_eq_true (by simp; omega)) ⟨p.length, rfl, ⟨by simp; omega⟩, p.length, rfl, _, _, _, _, _, _, _, hx, _, c2, a6q (decide_eq_true hs) h⟩)⟩
   ·have el : o9q Li.cmp x l = p ++ x :: y :: q := by rw [e2, o9q, if_neg hb, if_neg hs]
    rw [el] at h
    have h' : f8q r O s0 s1 (IntKind.wrap .i64 (s6 + 1)) ([] ++ ((l.map Li.da).drop (0 + 0)).take (p.length - 0) ++ [x.da] ++ ((l.map Li.da).drop (0 + p.length)).take ((l.map Li.da).length - p.length)) := by
     have e3 : [] ++ ((l.map Li.da).drop (0 + 0)).take (p.length - 0) ++ [x.da] ++ ((l.map Li.da).drop (0 + p.length)).take ((l.map Li.da).length - p.length) = (p ++ x :: y :: q).map Li.da := by
      rw [e]; simp [List.take_append, List.drop_append, u1q, J9q]
     rw [e3]; exact h
    rw [ed] at h'
    obtain ⟨pp, ⟨f, v, ks⟩, ⟨g, u, ms⟩⟩ := y
    exact a6q (decide_eq_true (by simp; omega)) ⟨p.length, rfl, ⟨by simp; omega⟩, p.length, rfl, _, _, _, _, _, _, _, hx, _, c1, a2q (decide_eq_false hb) (a6q (decide_eq_true (by simp; omega)) ⟨p.length, rfl, ⟨by simp; omega⟩, p.length, rfl, _, _, _, _, _, _, _, hx, _, c2, a2q (decide_eq_false hs) ⟨p.length, rfl, ⟨by omega, by simp; omega⟩, ⟨by simp; omega⟩, ⟨lis7 l⟩, ⟨by simp; omega⟩, ⟨by simp; omega⟩, p.length, rfl, ⟨by simp; omega, Nat.le_refl _⟩, ⟨by simp; omega⟩, ⟨lis7 l⟩, ⟨by simp; omega⟩, h'⟩⟩)⟩
theorem M6q (s : List Sy) (hs : s.length ≤ 10000000) (ls : List Li) (hc : cnL Li.cn ls ≤ 1200000000000) : ∀ (q p : List Li), ls = p ++ q → f8q (.dat (Cl.mk (clm s ls)).da) [] (s.map Sy.da) (ls.map Li.da) (p.length : Int) ((O0q Li.cmp (p.map (t2q s))).map Li.da)
 | [], p, e => by
  apply H6q
  have ep : ls = p := by simpa using e
  subst ep
  exact a2q (decide_eq_false (by simp)) ⟨rfl, rfl⟩
 | x :: q, p, e => by
  have ih := M6q s hs ls hc q (p ++ [x]) (by simp [e])
  have hm := i8q (cn := Li.cn) (l := ls) (x := x) (by simp [e])
  have hl := g2q Li.cn ls
  have hxc : x.cn = x.l.cn + x.r.cn := rfl
  have c := Y3q s hs x.p x.l x.r (by omega) (by omega)
  have hx : (ls.map Li.da)[p.length]? = some x.da := by rw [e]; exact g3q
  have hlt : p.length < ls.length := by rw [e]; simp
  have hw := wr1 hlt (by omega)
  have e2 : O0q Li.cmp ((p ++ [x]).map (t2q s)) = o9q Li.cmp (lmk s x.p x.l x.r) (O0q Li.cmp (p.map (t2q s))) := by simp [O0q, List.foldl_append, t2q]
  have hlen : (O0q Li.cmp (p.map (t2q s))).length ≤ 1200000000000 := by
   have h1 := a97q (p.map (t2q s)) []
   have h2 := a9Jq s p
   have h3 : cnL Li.cn ([] : List Li) = 0 := by simp [cnL]
   have h4 := g2q Li.cn (O0q Li.cmp (p.map (t2q s)))
   have h5 : cnL Li.cn ls = cnL Li.cn p + cnL Li.cn (x :: q) := by rw [e]; simp [cnL]; omega
   unfold O0q at h4 ⊢
   omega
  rw [h1q, e2, ← hw] at ih
  have h7 := U3q _ _ _ _ _ (lmk s x.p x.l x.r) (O0q Li.cmp (p.map (t2q s))) hlen ih (O0q Li.cmp (p.map (t2q s))) [] rfl rfl
  generalize lmk s x.p x.l x.r = y at *
  obtain ⟨pp, ⟨f, v, ks⟩, ⟨g, u, ms⟩⟩ := x
  obtain ⟨pp', ⟨f', v', ks'⟩, ⟨g', u', ms'⟩⟩ := y
  apply H6q
  exact a6q (decide_eq_true (by simp; omega)) ⟨p.length, rfl, _, _, _, _, _, _, _, hx, p.length, rfl, _, _, _, _, _, _, _, hx, p.length, rfl, _, _, _, _, _, _, _, hx, _, _, _, _, _, _, _, c, h7⟩
theorem M9q (s : List Sy) (hs : s.length ≤ 10000000) (ls : List Li) (hc : cnL Li.cn ls ≤ 1200000000000) : XC pg 194 [L (s.map Sy.da), L (ls.map Li.da)] [] (.dat (Cl.mk (clm s ls)).da) [] := by
 apply a2tq
 exact M6q s hs ls hc ls [] rfl
def clA (s : List Sy) (u : List Bd) (ls : List Li) : List Li := clm s (ls.map (j9q s u))
theorem ae4q (s : List Sy) (u : List Bd) (x : Li) : (j9q s u x).cn + 2 ≤ (x.cn + 2) * (cnL Bd.cn u + 1) := by
 have h1 := a4Tq u x.l
 have h2 := a4Tq u x.r
 have h3 := ad4q s x.p (r9q s u x.l) (r9q s u x.r)
 have h4 := Q9q s (fil u x.l)
 have h5 := Q9q s (fil u x.r)
 have h0 : x.cn = x.l.cn + x.r.cn := rfl
 have e1 : r9q s u x.l = nrm s (fil u x.l) := rfl
 have e2 : r9q s u x.r = nrm s (fil u x.r) := rfl
 rw [← e1] at h4
 rw [← e2] at h5
 have e : (x.cn + 2) * (cnL Bd.cn u + 1) = (x.l.cn + 1) * (cnL Bd.cn u + 1) + (x.r.cn + 1) * (cnL Bd.cn u + 1) := by rw [← Nat.add_mul, h0]; congr 1; omega
 unfold j9q
 omega
theorem afcq (s : List Sy) (u : List Bd) (l : List Li) : cnL Li.cn (l.map (j9q s u)) ≤ (2 * cnL Li.cn l) * (cnL Bd.cn u + 1) := by
 induction l with
 | nil => simp [cnL]
 | cons x r ih =>
  have h := ae4q s u x
  have e1 : cnL Li.cn (x :: r) = 1 + x.cn + cnL Li.cn r := by simp [cnL]; omega
  have e2 : cnL Li.cn ((x :: r).map (j9q s u)) = 1 + (j9q s u x).cn + cnL Li.cn (r.map (j9q s u)) := by simp [cnL]; omega
  have e3 : (2 * cnL Li.cn (x :: r)) * (cnL Bd.cn u + 1) = (x.cn + 2) * (cnL Bd.cn u + 1) + x.cn * (cnL Bd.cn u + 1) + (2 * cnL Li.cn r) * (cnL Bd.cn u + 1) := by
   rw [← Nat.add_mul, ← Nat.add_mul, e1]; congr 1; omega
  omega
theorem aeGq {a b : Nat} (h : a + b ≤ 1048577) : 4 * (a * b) ≤ 1099513724929 := by
 have key : 4 * (a * b) ≤ (a + b) * (a + b) := by
  rcases Nat.le_total a b with h1 | h1
  ·obtain ⟨d, rfl⟩ := Nat.exists_eq_add_of_le h1
   have e1 : a * (a + d) = a * a + a * d := Nat.mul_add ..
   have e2 : (a + (a + d)) * (a + (a + d)) = 4 * (a * a) + 4 * (a * d) + d * d := by
    simp only [Nat.add_mul, Nat.mul_add, Nat.mul_comm d a]; omega
   omega
  ·obtain ⟨d, rfl⟩ := Nat.exists_eq_add_of_le h1
   have e1 : (b + d) * b = b * b + d * b := Nat.add_mul ..
   have e2 : (b + d + b) * (b + d + b) = 4 * (b * b) + 4 * (d * b) + d * d := by
    simp only [Nat.add_mul, Nat.mul_add, Nat.mul_comm b d]; omega
   omega
 have := Nat.mul_le_mul h h
 omega
theorem a4iq (s : List Sy) {u : List Bd} {l : List Li} (h : cnL Li.cn l + cnL Bd.cn u ≤ 1048576) : cnL Li.cn (l.map (j9q s u)) ≤ 600000000000 := by
 have h1 := afcq s u l
 have h2 := aeGq (a := cnL Li.cn l) (b := cnL Bd.cn u + 1) (by omega)
 rw [Nat.mul_assoc] at h1
 omega
theorem aa3q (s : List Sy) (u : List Bd) (l : List Li) (h : cnL Li.cn l + cnL Bd.cn u ≤ 1048576) : cnL Li.cn (clA s u l) ≤ 600000000000 := by
 have h1 := a4iq s h
 have h2 := ad1q s (l.map (j9q s u))
 unfold clA
 omega
theorem I7q (s : List Sy) (hs : s.length ≤ 10000000) (u : List Bd) (ls : List Li) (hc : cnL Li.cn ls + cnL Bd.cn u ≤ 1048576) : ∀ (q p : List Li), ls = p ++ q → p5q (.dat (Cl.mk (clA s u ls)).da) [] (s.map Sy.da) (u.map Bd.da) (p.length : Int) (ls.map Li.da) ((p.map (j9q s u)).map Li.da)
 | [], p, e => by
  have c := M9q s hs (ls.map (j9q s u)) (by have := a4iq s hc; omega)
  apply F6q
  have ep : ls = p := by simpa using e
  subst ep
  exact a2q (decide_eq_false (by simp)) ⟨_, c, rfl, rfl⟩
 | x :: q, p, e => by
  have ih := I7q s hs u ls hc q (p ++ [x]) (by simp [e])
  have hm := i8q (cn := Li.cn) (l := ls) (x := x) (by simp [e])
  have hl := g2q Li.cn ls
  have c := E4q s hs u (by omega) x (by omega)
  have hx : (ls.map Li.da)[p.length]? = some x.da := by rw [e]; exact g3q
  have hlt : p.length < ls.length := by rw [e]; simp
  have hw := wr1 hlt (by omega)
  have e2 : ((p ++ [x]).map (j9q s u)).map Li.da = (p.map (j9q s u)).map Li.da ++ [(j9q s u x).da] := by simp
  rw [h1q, e2] at ih
  generalize j9q s u x = y at *
  obtain ⟨pp, ⟨f, v, ks⟩, ⟨g, w, ms⟩⟩ := x
  obtain ⟨pp', ⟨f', v', ks'⟩, ⟨g', w', ms'⟩⟩ := y
  apply F6q
  rw [hw]
  exact a6q (decide_eq_true (by simp; omega)) ⟨p.length, rfl, _, _, _, _, _, _, _, hx, _, _, _, _, _, _, _, c, ⟨by simp; omega⟩, ih⟩
theorem a1zq (s : List Sy) (hs : s.length ≤ 10000000) (u : List Bd) (c : Cl) (hc : c.cn + cnL Bd.cn u ≤ 1048576) : XC pg 132 [L (s.map Sy.da), L (u.map Bd.da), .dat c.da] [] (.dat (Cl.mk (clA s u c.ls)).da) [] := by
 obtain ⟨ls⟩ := c
 apply a2fq
 exact I7q s hs u ls hc ls [] rfl
theorem J5q (s : List Sy) (hs : s.length ≤ 10000000) (u : List Bd) (ls : List Li) (hc : cnL Li.cn ls + cnL Bd.cn u ≤ 1048576) : ∀ (q p : List Li), ls = p ++ q → p7q (.agg [.ol 0]) [(0, .tr 85 7 ((clA s u ls).map Li.da))] (s.map Sy.da) (u.map Bd.da) (ls.map Li.da) (ls.length : Int) (p.length : Int) ((p.map (j9q s u)).map Li.da)
 | [], p, e => by
  have c := L8q s hs (ls.map (j9q s u)) (by have := a4iq s hc; omega)
  apply F1q
  have ep : ls = p := by simpa using e
  subst ep
  exact a2q (decide_eq_false (by omega)) ⟨_, c, rfl, rfl⟩
 | x :: q, p, e => by
  have ih := J5q s hs u ls hc q (p ++ [x]) (by simp [e])
  have hm := i8q (cn := Li.cn) (l := ls) (x := x) (by simp [e])
  have hl := g2q Li.cn ls
  have c := F0q s hs u (by omega) x (by omega)
  have hx : (ls.map Li.da)[p.length]? = some x.da := by rw [e]; exact g3q
  have hlt : p.length < ls.length := by rw [e]; simp
  have hw := wr1 hlt (by omega)
  have e2 : ((p ++ [x]).map (j9q s u)).map Li.da = (p.map (j9q s u)).map Li.da ++ [(j9q s u x).da] := by simp
  rw [h1q, e2] at ih
  generalize j9q s u x = y at *
  obtain ⟨pp, ⟨f, v, ks⟩, ⟨g, w, ms⟩⟩ := x
  obtain ⟨pp', ⟨f', v', ks'⟩, ⟨g', w', ms'⟩⟩ := y
  apply F1q
  rw [hw]
  exact a6q (decide_eq_true (by omega)) ⟨p.length, rfl, _, _, _, _, _, _, _, hx, _, _, _, _, _, _, _, c, ⟨by simp; omega⟩, ih⟩
theorem a1Dq (s : List Sy) (hs : s.length ≤ 10000000) (u : List Bd) (c : Cl) (hc : c.cn + cnL Bd.cn u ≤ 1048576) : XC pg 138 [L (s.map Sy.da), L (u.map Bd.da), .dat c.da] [] (.agg [.ol 0]) [(0, .tr 85 7 ((clA s u c.ls).map Li.da))] := by
 obtain ⟨ls⟩ := c
 apply a2lq
 rw [List.length_map]
 exact J5q s hs u ls hc ls [] rfl
def ixN : List Int → Int → Nat
 | [], _ => 0
 | x :: r, v => if x = v then 0 else ixN r v + 1
theorem abkq : ∀ (l : List Int) (v : Int) (i : Nat), v ∈ l → E6q (fun x => decide (v = x)) l i = ((i + ixN l v : Nat) : Int)
 | [], v, i, h => by simp at h
 | x :: r, v, i, h => by
  unfold E6q ixN
  by_cases hx : v = x
  ·rw [if_pos (decide_eq_true hx), if_pos hx.symm]; simp
  ·rw [if_neg (by simpa using hx), if_neg (fun e => hx e.symm), abkq r v (i + 1) (by
    rcases List.mem_cons.1 h with h | h
    ·exact absurd h hx
    ·exact h)]
   omega
mutual
def Tm.rn (vs : List Int) : Tm → Tm
 | .mk f v ks => .mk f (if f = -1 then (ixN vs v : Int) else v) (Tm.rns vs ks)
def Tm.rns (vs : List Int) : List Tm → List Tm
 | [] => []
 | t :: r => Tm.rn vs t :: Tm.rns vs r
end
theorem Tm.rns_map (vs : List Int) (l : List Tm) : Tm.rns vs l = l.map (Tm.rn vs) := by induction l <;> simp_all [Tm.rns]
mutual
theorem Tm.rn_cn (vs : List Int) : ∀ t : Tm, (t.rn vs).cn = t.cn
 | .mk f v ks => by
  have h := Tm.rns_cns vs ks
  simp [Tm.rn, Tm.cn, h]
theorem Tm.rns_cns (vs : List Int) : ∀ l : List Tm, Tm.cns (Tm.rns vs l) = Tm.cns l
 | [] => rfl
 | t :: r => by
  have h1 := Tm.rn_cn vs t
  have h2 := Tm.rns_cns vs r
  simp [Tm.rns, Tm.cns, h1, h2]
end
def Li.rn (vs : List Int) (x : Li) : Li := ⟨x.p, x.l.rn vs, x.r.rn vs⟩
theorem Li.rn_cn (vs : List Int) (x : Li) : (x.rn vs).cn = x.cn := by simp [Li.rn, Li.cn, Tm.rn_cn]
theorem aacq (vs : List Int) (l : List Li) : cnL Li.cn (l.map (Li.rn vs)) = cnL Li.cn l := by
 simp [cnL, Function.comp_def, Li.rn_cn]
def tdy (s : List Sy) (ls : List Li) : List Li := clm s (ls.map (Li.rn (cvs ls [])))
theorem a9gq (s : List Sy) (ls : List Li) : cnL Li.cn (tdy s ls) ≤ cnL Li.cn ls := by
 have h1 := ad1q s (ls.map (Li.rn (cvs ls [])))
 rw [aacq] at h1
 exact h1
theorem ablq : ∀ (l : List Li) (out : List Int) (y : Int), y ∈ cvs l out ↔ y ∈ out ∨ ∃ x ∈ l, x.l.occ y ∨ x.r.occ y
 | [], out, y => by simp [cvs]
 | x :: q, out, y => by
  rw [cvs, ablq q, Tm.mem_vs, Tm.mem_vs]
  simp [or_assoc]
theorem a43q (vs : List Int) (f v k : Int) (ks : List Tm) (hc : ks.length ≤ 1200000000000) : ∀ (q p : List Tm), ks = p ++ q → (∀ t ∈ q, XC pg 193 [.dat t.da, L (vs.map In.da)] [] (.dat (t.rn vs).da) []) → k8q (.dat (Tm.mk f k (Tm.rns vs ks)).da) [] (vs.map In.da) (p.length : Int) f v (Tm.das ks) 0 0 f k (Tm.das (Tm.rns vs p))
 | [], p, e, _ => by
  subst e
  apply K9q
  rw [List.append_nil]
  exact a2q (decide_eq_false (by rw [b3q]; omega)) ⟨rfl, rfl⟩
 | y :: q, p, e, ht => by
  have ih := a43q vs f v k ks hc q (p ++ [y]) (by simp [e]) (fun t h => ht t (List.mem_cons_of_mem _ h))
  have c := ht y (by simp)
  have hx : (Tm.das ks)[p.length]? = some y.da := by rw [e]; exact q2q
  have hlt : p.length < ks.length := by rw [e]; simp
  have hw := wr1 hlt (by omega)
  have hb : ((Tm.das (Tm.rns vs p)).length + 1) * 40 ≤ 140737488355328 := by rw [b3q, Tm.rns_map, List.length_map]; omega
  have e2 : Tm.das (Tm.rns vs (p ++ [y])) = Tm.das (Tm.rns vs p) ++ [(y.rn vs).da] := by simp [Tm.rns_map, Tm.das_map]
  rw [h1q, e2] at ih
  generalize y.rn vs = z at *
  obtain ⟨g, x, ms⟩ := y
  obtain ⟨g', x', ms'⟩ := z
  apply K9q
  rw [hw]
  exact a6q (f0q (by rw [b3q]; exact hlt)) ⟨p.length, rfl, _, _, _, hx, _, _, _, c, ⟨hb⟩, ih⟩
theorem abiq (vs : List Int) (hv : vs.length ≤ 10000000000000) (r : AV) (O : List (Nat × Ob)) (f v : Int) (t2 : List (List Da)) (s4 s41 o1 : Int) (o2 : Int) : ∀ (q p : List Int), vs = p ++ q → k8q r O (vs.map In.da) 0 f v t2 s4 s41 o1 ((p.length + ixN q v : Nat) : Int) [] → s2q r O (vs.map In.da) (p.length : Int) f v t2 s4 s41 o1 o2
 | [], p, e, h => by
  apply K5q
  subst e
  refine a2q (decide_eq_false (by simp)) ?_
  simpa [ixN] using h
 | x :: q, p, e, h => by
  have ih := abiq vs hv r O f v t2 s4 s41 o1 o2 q (p ++ [x]) (by simp [e])
  have hx : (vs.map In.da)[p.length]? = some [.int .i64 x] := i4q (g := In.da) (by rw [e]; exact f7q)
  have hlt : p.length < vs.length := by rw [e]; simp
  have hw := wr1 hlt (by omega)
  rw [h1q] at ih
  apply K5q
  rw [hw]
  refine a6q (f0q (by simpa using hlt)) ⟨p.length, rfl, _, hx, ?_⟩
  by_cases hxv : x = v
  ·refine a2q (by simp [hxv]) ?_
   simpa [ixN, hxv] using h
  ·refine a6q (by simpa using hxv) (ih ?_)
   have e3 : p.length + 1 + ixN q v = p.length + ixN (x :: q) v := by rw [ixN, if_neg hxv]; omega
   rw [e3]; exact h
theorem a11q (vs : List Int) (hv : vs.length ≤ 10000000000000) (t : Tm) : t.cn ≤ 1200000000000 → XC pg 193 [.dat t.da, L (vs.map In.da)] [] (.dat (t.rn vs).da) [] := by
 induction t using Tm.ind with
 | h f v ks ih =>
 intro hc
 have hcn : (Tm.mk f v ks).cn = Tm.cns ks := by simp [Tm.cn]
 rw [hcn] at hc
 have hkl := Tm.len_cns ks
 have hk : ∀ t ∈ ks, XC pg 193 [.dat t.da, L (vs.map In.da)] [] (.dat (t.rn vs).da) [] := fun t ht => ih t ht (by
  have := i8q (cn := Tm.cn) ht
  rw [← Tm.cns_cnL] at this
  omega)
 apply a3Aq
 by_cases hf : f = -1
 ·refine a6q (decide_eq_true hf) ?_
  have h := a43q vs f v (ixN vs v : Int) ks (by omega) ks [] rfl hk
  have e : Tm.rn vs (.mk f v ks) = .mk f (ixN vs v : Int) (Tm.rns vs ks) := by rw [Tm.rn, if_pos hf]
  rw [e]
  refine abiq vs hv _ _ f v _ 0 0 f v vs [] rfl ?_
  simpa [Tm.rns, Tm.das] using h
 ·refine a2q (decide_eq_false hf) ?_
  have h := a43q vs f v v ks (by omega) ks [] rfl hk
  have e : Tm.rn vs (.mk f v ks) = .mk f v (Tm.rns vs ks) := by rw [Tm.rn, if_neg hf]
  rw [e]
  simpa [Tm.rns, Tm.das] using h
theorem a23q (s : List Sy) (hs : s.length ≤ 10000000) (vs : List Int) (hv : vs.length ≤ 10000000000000) (ls : List Li) (hc : cnL Li.cn ls ≤ 1200000000000) : ∀ (q p : List Li), ls = p ++ q → C8q (.dat (Cl.mk (clm s (ls.map (Li.rn vs)))).da) [] (s.map Sy.da) (vs.map In.da) (p.length : Int) (ls.map Li.da) ((p.map (Li.rn vs)).map Li.da)
 | [], p, e => by
  have c := M9q s hs (ls.map (Li.rn vs)) (by rw [aacq]; exact hc)
  apply a05q
  have ep : ls = p := by simpa using e
  subst ep
  exact a2q (decide_eq_false (by simp)) ⟨_, c, rfl, rfl⟩
 | x :: q, p, e => by
  have ih := a23q s hs vs hv ls hc q (p ++ [x]) (by simp [e])
  have hm := i8q (cn := Li.cn) (l := ls) (x := x) (by simp [e])
  have hl := g2q Li.cn ls
  have hxc : x.cn = x.l.cn + x.r.cn := rfl
  have c1 := a11q vs hv x.l (by omega)
  have c2 := a11q vs hv x.r (by omega)
  have hx : (ls.map Li.da)[p.length]? = some x.da := by rw [e]; exact g3q
  have hlt : p.length < ls.length := by rw [e]; simp
  have hw := wr1 hlt (by omega)
  have e2 : ((p ++ [x]).map (Li.rn vs)).map Li.da = (p.map (Li.rn vs)).map Li.da ++ [(Li.mk x.p (x.l.rn vs) (x.r.rn vs)).da] := by simp [Li.rn]
  rw [h1q, e2] at ih
  generalize x.l.rn vs = a at *
  generalize x.r.rn vs = b at *
  obtain ⟨pp, ⟨f, v, ks⟩, ⟨g, u, ms⟩⟩ := x
  obtain ⟨f', v', ks'⟩ := a
  obtain ⟨g', u', ms'⟩ := b
  apply a05q
  rw [hw]
  exact a6q (decide_eq_true (by simp; omega)) ⟨p.length, rfl, _, _, _, _, _, _, _, hx, _, _, _, c1, _, _, _, c2, ⟨by simp; omega⟩, ih⟩
theorem adDq (ls : List Li) (hc : cnL Li.cn ls ≤ 1200000000000) : (cvs ls []).length ≤ 2400000000000 := by
 have h := abzq ls []
 have e : cnL Li.cn ls = ls.length + (ls.map Li.cn).sum := by simp [cnL]
 simp at h
 omega
theorem a7Nq (s : List Sy) (hs : s.length ≤ 10000000) (c : Cl) (hc : c.cn ≤ 1200000000000) : XC pg 131 [L (s.map Sy.da), .dat c.da] [] (.dat (Cl.mk (tdy s c.ls)).da) [] := by
 have cv := a2kq c hc
 obtain ⟨ls⟩ := c
 have hv := adDq ls hc
 have h := a23q s hs (cvs ls []) (by omega) ls hc ls [] rfl
 apply a8Rq
 exact ⟨_, cv, h⟩
theorem accq (vs : List Int) (hv : vs.length ≤ 10000000000000) (v : Int) (h : v ∈ vs) : XC pg 197 [Z v, .one (.op 2000 0)] [(2000, .var [.ol 2001]), (2001, .tr 3 1 (vs.map In.da))] (Z (ixN vs v : Int)) [(2000, .var [.ol 0]), (0, .tr 3 1 (vs.map In.da))] := by
 have c := M0q (s := vs.map In.da) (v := v) (by
  rw [List.length_map]
  exact R5q vs v hv vs [] rfl)
 rw [show (([] : List Int).length) = 0 from rfl, abkq vs v 0 h, Nat.zero_add] at c
 apply a6nq
 exact ⟨_, c, rfl, rfl⟩
theorem a20q (vs : List Int) (hv : vs.length ≤ 10000000000000) (f v : Int) (ks : List Tm) (hc : ks.length ≤ 1200000000000) (hf : f = -1 → v ∈ vs) : ∀ (q p : List Tm), ks = p ++ q → (∀ t ∈ q, XC pg 207 [.dat t.da, .one (.clo 197 [(2000, 0)])] [(2000, .var [.ol 2001]), (2001, .tr 3 1 (vs.map In.da))] (.agg [.d (.int .i64 (t.rn vs).f), .d (.int .i64 (t.rn vs).v), .ol 0]) [(2000, .var [.ol 1]), (0, .tr 30 3 (Tm.das (t.rn vs).ks)), (1, .tr 3 1 (vs.map In.da))]) →
  k1q (.agg [.d (.int .i64 f), .d (.int .i64 (if f = -1 then (ixN vs v : Int) else v)), .ol 0]) [(2000, .var [.ol 1]), (0, .tr 30 3 (Tm.das (Tm.rns vs ks))), (1, .tr 3 1 (vs.map In.da))] (Tm.das ks) (ks.length : Int) (p.length : Int) f v (Tm.das ks) 0 0 (Tm.das (Tm.rns vs p)) (vs.map In.da)
 | [], p, e, _ => by
  subst e
  apply w8q
  rw [List.append_nil]
  refine a2q (decide_eq_false (by omega)) ⟨_, a0Gq (.mk f v p), d2q (fun h => ?_) fun h => ?_⟩
  ·have h : f = -1 := h
   refine ⟨_, _, accq vs hv v (hf h), ?_⟩
   rw [if_pos h]
   exact ⟨rfl, rfl⟩
  ·have h : ¬ f = -1 := h
   rw [if_neg h]
   exact ⟨rfl, rfl⟩
 | t :: q, p, e, ih0 => by
  have hpl : p.length < ks.length := by rw [e]; simp
  have hx : (Tm.das ks)[p.length]? = some t.da := n4q (by rw [e]; exact f7q)
  have hcall := ih0 t (by simp)
  have ih := a20q vs hv f v ks hc hf q (p ++ [t]) (by rw [e]; simp) fun t ht => ih0 t (List.mem_cons_of_mem _ ht)
  have e2 : Tm.das (Tm.rns vs (p ++ [t])) = Tm.das (Tm.rns vs p) ++ [(t.rn vs).da] := by rw [Tm.rns_map, Tm.rns_map, Tm.das_map, Tm.das_map]; simp
  have hw : IntKind.wrap .i64 ((p.length : Int) + 1) = ((p.length + 1 : Nat) : Int) := wr1 hpl (by omega)
  rw [h1q, e2] at ih
  have hl2 : (Tm.das (Tm.rns vs p)).length = p.length := by rw [b3q, Tm.rns_map]; simp
  generalize t.rn vs = z at *
  obtain ⟨g, u, ls⟩ := t
  obtain ⟨g', u', ls'⟩ := z
  apply w8q
  rw [hw]
  exact a6q (decide_eq_true (by omega)) ⟨p.length, rfl, _, _, _, hx, _, _, _, _, hcall, ⟨by rw [hl2]; simp; omega⟩, ih⟩
theorem a21q (vs : List Int) (hv : vs.length ≤ 10000000000000) (t : Tm) : t.cn ≤ 1200000000000 → (∀ y, t.occ y → y ∈ vs) → XC pg 207 [.dat t.da, .one (.clo 197 [(2000, 0)])] [(2000, .var [.ol 2001]), (2001, .tr 3 1 (vs.map In.da))] (.agg [.d (.int .i64 (t.rn vs).f), .d (.int .i64 (t.rn vs).v), .ol 0]) [(2000, .var [.ol 1]), (0, .tr 30 3 (Tm.das (t.rn vs).ks)), (1, .tr 3 1 (vs.map In.da))] := by
 induction t using Tm.ind with
 | h f v ks ih =>
  intro hc ho
  have h1 := Tm.len_cns ks
  have h2 : (Tm.mk f v ks).cn = Tm.cns ks := rfl
  have hoc : ∀ t ∈ ks, ∀ y, t.occ y → Tm.occs ks y := by
   intro t ht y hy
   clear ih h1 h2 ho hc
   induction ks with
   | nil => simp at ht
   | cons a r ih =>
    rcases List.mem_cons.1 ht with rfl | ht
    ·exact .inl hy
    ·exact .inr (ih ht)
  have hk : ∀ t ∈ ks, _ := fun t ht => ih t ht (by
   have := i8q (cn := Tm.cn) ht
   rw [← Tm.cns_cnL] at this
   omega) (fun y hy => ho y (.inr (hoc t ht y hy)))
  have hl := a20q vs hv f v ks (by omega) (fun hf => ho v (.inl ⟨hf, rfl⟩)) ks [] rfl hk
  apply Q7q
  rw [b3q]
  exact hl
theorem M8q (vs : List Int) (hv : vs.length ≤ 10000000000000) (ls : List Li) (hc : cnL Li.cn ls ≤ 1200000000000) (ho : ∀ x ∈ ls, ∀ y, x.l.occ y ∨ x.r.occ y → y ∈ vs) : ∀ (q p : List Li), ls = p ++ q → i6q (.agg [.ol 0]) [(2000, .var [.ol 1]), (0, .tr 85 7 ((ls.map (Li.rn vs)).map Li.da)), (1, .tr 3 1 (vs.map In.da))] (ls.map Li.da) (ls.length : Int) (p.length : Int) (vs.map In.da) ((p.map (Li.rn vs)).map Li.da)
 | [], p, e => by
  subst e
  apply r0q
  rw [List.append_nil]
  exact a2q (decide_eq_false (by omega)) ⟨rfl, rfl⟩
 | x :: q, p, e => by
  have ih := M8q vs hv ls hc ho q (p ++ [x]) (by simp [e])
  have hxm : x ∈ ls := by simp [e]
  have hm := i8q (cn := Li.cn) (l := ls) (x := x) hxm
  have hl := g2q Li.cn ls
  have hxc : x.cn = x.l.cn + x.r.cn := rfl
  have c1 := a21q vs hv x.l (by omega) (fun y hy => ho x hxm y (.inl hy))
  have c2 := a21q vs hv x.r (by omega) (fun y hy => ho x hxm y (.inr hy))
  have hx : (ls.map Li.da)[p.length]? = some x.da := by rw [e]; exact g3q
  have hlt : p.length < ls.length := by rw [e]; simp
  have hw := wr1 hlt (by omega)
  have e2 : ((p ++ [x]).map (Li.rn vs)).map Li.da = (p.map (Li.rn vs)).map Li.da ++ [(Li.mk x.p (x.l.rn vs) (x.r.rn vs)).da] := by simp [Li.rn]
  rw [h1q, e2] at ih
  generalize x.l.rn vs = a at *
  generalize x.r.rn vs = b at *
  obtain ⟨pp, ⟨f, v, ks⟩, ⟨g, u, ms⟩⟩ := x
  obtain ⟨f', v', ks'⟩ := a
  obtain ⟨g', u', ms'⟩ := b
  apply r0q
  rw [hw]
  exact a6q (decide_eq_true (by omega)) ⟨p.length, rfl, _, _, _, _, _, _, _, hx, _, _, _, _, c1, _, _, _, _, c2, ⟨by simp; omega⟩, ih⟩
theorem a7Gq (s : List Sy) (hs : s.length ≤ 10000000) (c : Cl) (hc : c.cn ≤ 1200000000000) : XC pg 137 [L (s.map Sy.da), .dat c.da] [] (.agg [.ol 0]) [(0, .tr 85 7 ((tdy s c.ls).map Li.da))] := by
 have cv := a2jq c hc
 obtain ⟨ls⟩ := c
 have hv := adDq ls hc
 have hr := F4q (c := ls.map Li.da) (by
  rw [List.length_map]
  exact M8q (cvs ls []) (by omega) ls hc (fun x hx y hy => (ablq ls [] y).2 (.inr ⟨x, hx, hy⟩)) ls [] rfl)
 have cm := L8q s hs (ls.map (Li.rn (cvs ls []))) (by rw [aacq]; exact hc)
 apply a9xq
 exact ⟨_, cv, _, _, hr, _, cm, rfl, rfl⟩
def J2q {α : Type} (l : List α) (i : Nat) : List α := l.take i ++ l.drop (i + 1)
theorem a9mq {α : Type} {l : List α} {i : Nat} {x : α} (h : l[i]? = some x) : l = l.take i ++ x :: l.drop (i + 1) := by
 obtain ⟨hl, e⟩ := List.getElem?_eq_some_iff.1 h
 have h1 := (List.take_append_drop i l).symm
 rw [List.drop_eq_getElem_cons hl, e] at h1
 exact h1
theorem a6Uq {l : List Li} {i : Nat} {x : Li} (h : l[i]? = some x) : cnL Li.cn (J2q l i) ≤ cnL Li.cn l := by
 have e := a9mq h
 have e1 : cnL Li.cn l = cnL Li.cn (l.take i) + (1 + x.cn) + cnL Li.cn (l.drop (i + 1)) := by
  conv => lhs; rw [e]
  simp [cnL]; omega
 have e2 : cnL Li.cn (J2q l i) = cnL Li.cn (l.take i) + cnL Li.cn (l.drop (i + 1)) := by simp [J2q, cnL]; omega
 omega
def noCl : Cl × Bool := (⟨[]⟩, false)
noncomputable def mdC (s : List Sy) (ls : List Li) (u : List Bd) : Cl × Bool :=
 if dB (L5q s ⟨tdy s (clA s u ls)⟩) then (⟨tdy s (clA s u ls)⟩, true) else noCl
theorem agRq (s : List Sy) (ls : List Li) (u : List Bd) (h : cnL Li.cn ls + cnL Bd.cn u ≤ 1048576) : (mdC s ls u).1.cn ≤ 600000000000 := by
 have h1 := aa3q s u ls h
 have h2 := a9gq s (clA s u ls)
 unfold mdC
 split
 ·show cnL Li.cn (tdy s (clA s u ls)) ≤ _
  omega
 ·show cnL Li.cn ([] : List Li) ≤ _
  simp [cnL]
theorem a9fq (s : List Sy) (hs : s.length ≤ 10000000) (ls : List Li) (u : List Bd) (h : cnL Li.cn ls + cnL Bd.cn u ≤ 1048576) : XC pg 67 [L (s.map Sy.da), L (ls.map Li.da), L (u.map Bd.da)] [] (.tup [.dat (mdC s ls u).1.da, B (mdC s ls u).2]) [] := by
 have h1 := aa3q s u ls h
 have h2 := a9gq s (clA s u ls)
 have c1 := a1zq s hs u ⟨ls⟩ h
 have c2 := a7Nq s hs ⟨clA s u ls⟩ (by show cnL Li.cn (clA s u ls) ≤ _; omega)
 have c3 := V3q s ⟨tdy s (clA s u ls)⟩ (by show cnL Li.cn (tdy s (clA s u ls)) ≤ _; omega)
 unfold mdC
 dsimp only at c1 c2
 generalize dB (L5q s ⟨tdy s (clA s u ls)⟩) = ok at *
 apply a5Oq
 refine ⟨_, c1, _, c2, _, c3, ?_⟩
 cases ok with
 | false => exact a6q rfl ⟨rfl, rfl⟩
 | true => exact a2q rfl ⟨rfl, rfl⟩
theorem adNq (s : List Sy) (hs : s.length ≤ 10000000) (ls : List Li) (u : List Bd) (h : cnL Li.cn ls + cnL Bd.cn u ≤ 1048576) : XC pg 73 [L (s.map Sy.da), L (ls.map Li.da), L (u.map Bd.da)] [] (.tup [.agg [.ol 0], B (mdC s ls u).2]) [(0, .tr 85 7 ((mdC s ls u).1.ls.map Li.da))] := by
 have h1 := aa3q s u ls h
 have h2 := a9gq s (clA s u ls)
 have c1 := a1Dq s hs u ⟨ls⟩ h
 have c2 := a7Gq s hs ⟨clA s u ls⟩ (by show cnL Li.cn (clA s u ls) ≤ _; omega)
 have c3 := V4q s ⟨tdy s (clA s u ls)⟩ (by show cnL Li.cn (tdy s (clA s u ls)) ≤ _; omega)
 unfold mdC
 dsimp only at c1 c2
 generalize dB (L5q s ⟨tdy s (clA s u ls)⟩) = ok at *
 apply a9Zq
 refine ⟨_, c1, _, c2, _, c3, ?_⟩
 cases ok with
 | false => exact a6q rfl ⟨rfl, rfl⟩
 | true => exact a2q rfl ⟨rfl, rfl⟩
theorem aatq (ls : List Li) (i : Nat) (hi : i < ls.length) (hl : ls.length ≤ 1200000000000) : XC pg 68 [L (ls.map Li.da), Z (i : Int)] [] (L ((J2q ls i).map Li.da)) [] := by
 have hw : IntKind.wrap .i64 ((i : Int) + 1) = ((i + 1 : Nat) : Int) := wr1 hi (by omega)
 have e : [] ++ List.drop 0 (List.take i (ls.map Li.da)) ++ List.drop (i + 1) (List.take (ls.map Li.da).length (ls.map Li.da)) = (J2q ls i).map Li.da := by
  rw [List.take_length]
  simp [J2q, List.map_take, List.map_drop]
 apply a74q
 refine ⟨i, rfl, ⟨by omega, by simp; omega⟩, ⟨lis7 ls⟩, ⟨fun y hy => lis7 ls y (List.mem_of_mem_take (List.mem_of_mem_drop hy))⟩, ⟨by simp; omega⟩, i + 1, hw, ⟨by simp; omega, Nat.le_refl _⟩, ⟨lis7 ls⟩, ⟨fun y hy => lis7 ls y (List.mem_of_mem_take (List.mem_of_mem_drop hy))⟩, ⟨by rw [List.take_length]; simp; omega⟩, ?_, rfl⟩
 rw [e]
theorem a9Tq (l : List Li) (hl : l.length ≤ 1200000000000) : XC pg 140 [L (l.map Li.da)] [] (.one (.ol 0)) [(0, .lst 85 7 (l.map Li.da))] := by
 apply a2gq
 refine ⟨fun h => ⟨rfl, ?_⟩, ⟨lis7 l⟩, ⟨by simp; omega⟩, rfl, by simp⟩
 cases l with
 | nil => rfl
 | cons a r =>
  obtain ⟨p, ⟨f, v, ks⟩, ⟨g, u, ms⟩⟩ := a
  simp [Li.da, Tm.da] at h
theorem aa2q (P R : List (List Da)) (x : List Da) (hl : P.length + R.length ≤ 1200000000000) : XC pg 139 [.one (.ol 2000), Z (P.length : Int), Z ((P.length + 1 : Nat) : Int)] [(2000, .lst 85 7 (P ++ x :: R))] (.one (.ol 0)) [(0, .lst 85 7 (P ++ R))] := by
 have hlen : (P ++ x :: R).length = P.length + R.length + 1 := by simp; omega
 have hT : List.take ((P ++ x :: R).length - (P.length + 1)) (List.drop (0 + (P.length + 1)) (P ++ x :: R)) = R := by
  have : List.drop (0 + (P.length + 1)) (P ++ x :: R) = R := by simp [List.drop_append]
  rw [this]
  exact List.take_of_length_le (by omega)
 have hP : List.take (0 + 0 + (P.length - 0)) (P ++ x :: R) = P := by simp
 apply a1tq
 intro c h1 h2
 refine ⟨P.length, rfl, P.length + 1, rfl, _, rfl, ⟨by omega, by omega, Nat.le_refl _⟩, a2q (decide_eq_false (by omega)) ⟨P.length, rfl, ⟨by omega, .inl (by omega)⟩, P.length + 1, rfl, ⟨by omega, .inl (Nat.le_refl _)⟩, ⟨by omega⟩, ⟨by omega, ?_⟩, ?_⟩⟩
 ·rw [hT]; omega
 ·rw [hT, hP]
  refine a6q (decide_eq_true (by omega)) ⟨_, rfl, _, rfl, ⟨by omega, .inr (by omega)⟩, ⟨?_⟩, ⟨?_⟩, rfl, ?_⟩
  ·simp only [List.length_append, List.length_drop, hlen]; omega
  ·simp only [List.length_append, List.length_take, List.length_replicate, List.length_drop, hlen]; omega
  ·have e1 : List.take (0 + 0 + (P.length - 0 + R.length)) (P ++ R ++ List.drop (0 + 0 + (P.length - 0) + R.length) (P ++ x :: R)) = P ++ R := List.take_left' (by simp)
   have e2 : ∀ Q : List (List Da), List.take (P.length - 0 + R.length) (P ++ R ++ Q) = P ++ R := fun Q => List.take_left' (by simp)
   rw [e1, List.append_assoc (P ++ R), e2]
theorem a5nq (c : Cl) (i : Nat) (hi : i < c.ls.length) (hl : c.ls.length ≤ 1200000000000) : XC pg 74 [.dat c.da, Z (i : Int)] [] (L ((J2q c.ls i).map Li.da)) [] := by
 obtain ⟨ls⟩ := c
 dsimp only at hi hl ⊢
 obtain ⟨x, hx⟩ := d0q hi
 have hw : IntKind.wrap .i64 ((i : Int) + 1) = ((i + 1 : Nat) : Int) := wr1 hi (by omega)
 have c1 := a9Tq ls hl
 have htl : (ls.take i).length = i := by simp; omega
 have c2 := aa2q ((ls.take i).map Li.da) ((ls.drop (i + 1)).map Li.da) x.da (by simp; omega)
 have e1 : (ls.take i).map Li.da ++ x.da :: (ls.drop (i + 1)).map Li.da = ls.map Li.da := by
  conv => rhs; rw [a9mq hx]
  simp
 have e2 : (ls.take i).map Li.da ++ (ls.drop (i + 1)).map Li.da = (J2q ls i).map Li.da := by simp [J2q]
 rw [e1, e2, List.length_map, htl] at c2
 apply a2Oq
 rw [hw]
 exact ⟨_, c1, _, c2, rfl, rfl⟩
theorem a5Mq (c : Cl) (i : Int) (hl : c.ls.length ≤ 1200000000000) : XC pg 70 [.dat c.da, Z i] [] (B (inR i 0 ((c.ls.length : Int) - 1))) [] := by
 obtain ⟨ls⟩ := c
 dsimp only at hl ⊢
 have w : IntKind.wrap .i64 ((ls.length : Int) - 1) = (ls.length : Int) - 1 := wrI (by omega) (by omega)
 apply a7Oq
 rw [List.length_map, w]
 exact ⟨_, C9q i 0 _, rfl, rfl⟩
noncomputable def fct (s : List Sy) (c : Cl) (i k : Int) (u : List Bd) : Cl × Bool :=
 if dB (L5q s c) && (inR i 0 ((c.ls.length : Int) - 1) && (inR k 0 ((c.ls.length : Int) - 1) && !decide (i = k))) then
  match c.ls[i.toNat]?, c.ls[k.toNat]? with
  | some x, some y => if Li.cmp (j9q s u x) (j9q s u y) = 0 then mdC s (J2q c.ls k.toNat) u else noCl
  | _, _ => noCl
 else noCl
theorem a4yq : noCl.1.cn ≤ 600000000000 := by
 show cnL Li.cn ([] : List Li) ≤ _
 simp [cnL]
theorem agtq (s : List Sy) (c : Cl) (i k : Int) (u : List Bd) (hc : c.cn + cnL Bd.cn u ≤ 1048576) : (fct s c i k u).1.cn ≤ 600000000000 := by
 unfold fct
 split
 ·split
  ·rename_i x y hx hy
   split
   ·have := a6Uq hy
    have e : c.cn = cnL Li.cn c.ls := rfl
    exact agRq s _ u (by omega)
   ·exact a4yq
  ·exact a4yq
 ·exact a4yq
theorem a3uq (s : List Sy) (hs : s.length ≤ 10000000) (c : Cl) (i j : Int) (u : List Bd) (hc : c.cn + cnL Bd.cn u ≤ 1048576) : XC pg 25 [L (s.map Sy.da), .dat c.da, Z i, Z j, L (u.map Bd.da)] [] (.tup [.dat (fct s c i j u).1.da, B (fct s c i j u).2]) [] := by
 have hll := g2q Li.cn c.ls
 have ec : c.cn = cnL Li.cn c.ls := rfl
 have k := V3q s c (by omega)
 obtain ⟨ls⟩ := c
 dsimp only at hll ec
 have w : IntKind.wrap .i64 ((ls.length : Int) - 1) = (ls.length : Int) - 1 := wrI (by omega) (by omega)
 have cI := A0q i 0 ((ls.length : Int) - 1)
 have cJ := A0q j 0 ((ls.length : Int) - 1)
 apply a4Bq
 rw [List.length_map, w]
 unfold fct
 dsimp only
 generalize hok : dB (L5q s ⟨ls⟩) = ok at *
 generalize hbi : inR i 0 ((ls.length : Int) - 1) = bi at *
 generalize hbj : inR j 0 ((ls.length : Int) - 1) = bj at *
 cases ok with
 | false => exact ⟨_, k, a6q rfl ⟨rfl, rfl⟩⟩
 | true =>
  refine ⟨_, k, a2q rfl ⟨_, cI, ?_⟩⟩
  cases bi with
  | false => exact a6q rfl ⟨rfl, rfl⟩
  | true =>
   refine a2q rfl ⟨_, cJ, ?_⟩
   cases bj with
   | false => exact a6q rfl ⟨rfl, rfl⟩
   | true =>
    refine a2q rfl ?_
    by_cases hij : i = j
    ·refine a6q (decide_eq_true hij) ?_
     rw [if_neg (by simp [hij])]
     exact ⟨rfl, rfl⟩
    ·refine a2q (decide_eq_false hij) ?_
     rw [if_pos (by simp [hij])]
     obtain ⟨h1, h2⟩ := O2q.1 hbi
     obtain ⟨h3, h4⟩ := O2q.1 hbj
     obtain ⟨m, rfl⟩ : ∃ m : Nat, i = (m : Int) := ⟨i.toNat, by omega⟩
     obtain ⟨n, rfl⟩ : ∃ n : Nat, j = (n : Int) := ⟨j.toNat, by omega⟩
     obtain ⟨x, hx⟩ := d0q (l := ls) (i := m) (by omega)
     obtain ⟨y, hy⟩ := d0q (l := ls) (i := n) (by omega)
     have hx2 := i4q (g := Li.da) hx
     have hy2 := i4q (g := Li.da) hy
     have hxm := i8q (cn := Li.cn) (List.mem_of_getElem? hx)
     have hym := i8q (cn := Li.cn) (List.mem_of_getElem? hy)
     have hd := a6Uq hy
     have a1 := E4q s hs u (by omega) x (by omega)
     have a2 := E4q s hs u (by omega) y (by omega)
     have t := a2uq (j9q s u x) (j9q s u y)
     have b := aatq ls n (by omega) (by omega)
     have md := a9fq s hs (J2q ls n) u (by omega)
     rw [Int.toNat_natCast, Int.toNat_natCast, hx, hy]
     dsimp only
     generalize mdC s (J2q ls n) u = z at *
     obtain ⟨⟨zl⟩, zb⟩ := z
     generalize j9q s u x = y1 at *
     generalize j9q s u y = y2 at *
     generalize Li.cmp y1 y2 = cc at *
     obtain ⟨p, ⟨f, v, ks⟩, ⟨g, w', ms⟩⟩ := x
     obtain ⟨p', ⟨f', v', ks'⟩, ⟨g', w2, ms'⟩⟩ := y
     obtain ⟨p1, ⟨f1, v1, k1⟩, ⟨f2, v2, k2⟩⟩ := y1
     obtain ⟨p3, ⟨f3, v3, k3⟩, ⟨f4, v4, k4⟩⟩ := y2
     refine ⟨m, rfl, _, _, _, _, _, _, _, hx2, _, _, _, _, _, _, _, a1, n, rfl, _, _, _, _, _, _, _, hy2, _, _, _, _, _, _, _, a2, _, t, ?_⟩
     by_cases h0 : cc = 0
     ·refine a2q (by simp [h0]) ⟨_, b, _, _, md, ?_⟩
      simp [h0, Cl.da]
     ·refine a6q (by simp [h0]) ?_
      simp [h0, noCl, Cl.da]
theorem a3Dq (s : List Sy) (hs : s.length ≤ 10000000) (c : Cl) (i j : Int) (u : List Bd) (hc : c.cn + cnL Bd.cn u ≤ 1048576) : XC pg 27 [L (s.map Sy.da), .dat c.da, Z i, Z j, L (u.map Bd.da)] [] (.tup [.agg [.ol 0], B (fct s c i j u).2]) [(0, .tr 85 7 ((fct s c i j u).1.ls.map Li.da))] := by
 have hll := g2q Li.cn c.ls
 have ec : c.cn = cnL Li.cn c.ls := rfl
 have k := V4q s c (by omega)
 have cI := a5Mq c i (by omega)
 have cJ := a5Mq c j (by omega)
 obtain ⟨ls⟩ := c
 dsimp only at hll ec cI cJ
 apply a4pq
 unfold fct
 dsimp only
 generalize hok : dB (L5q s ⟨ls⟩) = ok at *
 generalize hbi : inR i 0 ((ls.length : Int) - 1) = bi at *
 generalize hbj : inR j 0 ((ls.length : Int) - 1) = bj at *
 cases ok with
 | false => exact ⟨_, k, a6q rfl ⟨rfl, rfl⟩⟩
 | true =>
  refine ⟨_, k, a2q rfl ⟨_, cI, ?_⟩⟩
  cases bi with
  | false => exact a6q rfl ⟨rfl, rfl⟩
  | true =>
   refine a2q rfl ⟨_, cJ, ?_⟩
   cases bj with
   | false => exact a6q rfl ⟨rfl, rfl⟩
   | true =>
    refine a2q rfl ?_
    by_cases hij : i = j
    ·refine a6q (decide_eq_true hij) ?_
     rw [if_neg (by simp [hij])]
     exact ⟨rfl, rfl⟩
    ·refine a2q (decide_eq_false hij) ?_
     rw [if_pos (by simp [hij])]
     obtain ⟨h1, h2⟩ := O2q.1 hbi
     obtain ⟨h3, h4⟩ := O2q.1 hbj
     obtain ⟨m, rfl⟩ : ∃ m : Nat, i = (m : Int) := ⟨i.toNat, by omega⟩
     obtain ⟨n, rfl⟩ : ∃ n : Nat, j = (n : Int) := ⟨j.toNat, by omega⟩
     obtain ⟨x, hx⟩ := d0q (l := ls) (i := m) (by omega)
     obtain ⟨y, hy⟩ := d0q (l := ls) (i := n) (by omega)
     have hx2 := i4q (g := Li.da) hx
     have hy2 := i4q (g := Li.da) hy
     have hxm := i8q (cn := Li.cn) (List.mem_of_getElem? hx)
     have hym := i8q (cn := Li.cn) (List.mem_of_getElem? hy)
     have hd := a6Uq hy
     have a1 := F0q s hs u (by omega) x (by omega)
     have a2 := F0q s hs u (by omega) y (by omega)
     have t := Z7q (j9q s u x) (j9q s u y)
     have b := a5nq ⟨ls⟩ n (by dsimp only; omega) (by dsimp only; omega)
     have md := adNq s hs (J2q ls n) u (by omega)
     dsimp only at b
     rw [Int.toNat_natCast, Int.toNat_natCast, hx, hy]
     dsimp only
     generalize mdC s (J2q ls n) u = z at *
     obtain ⟨⟨zl⟩, zb⟩ := z
     generalize j9q s u x = y1 at *
     generalize j9q s u y = y2 at *
     generalize Li.cmp y1 y2 = cc at *
     obtain ⟨p, ⟨f, v, ks⟩, ⟨g, w', ms⟩⟩ := x
     obtain ⟨p', ⟨f', v', ks'⟩, ⟨g', w2, ms'⟩⟩ := y
     obtain ⟨p1, ⟨f1, v1, k1⟩, ⟨f2, v2, k2⟩⟩ := y1
     obtain ⟨p3, ⟨f3, v3, k3⟩, ⟨f4, v4, k4⟩⟩ := y2
     refine ⟨m, rfl, _, _, _, _, _, _, _, hx2, _, _, _, _, _, _, _, a1, n, rfl, _, _, _, _, _, _, _, hy2, _, _, _, _, _, _, _, a2, _, t, ?_⟩
     by_cases h0 : cc = 0
     ·refine a2q (by simp [h0]) ⟨_, b, _, _, md, ?_⟩
      simp [h0]
     ·refine a6q (by simp [h0]) ?_
      simp [h0, noCl]
theorem a01q (ss : List Sy) (kss : ∀ y ∈ ss, Sy.ok y) (c : Cl) (kc : c.ok) (i : Int) (ki : i64 i) (j : Int) (kj : i64 j) (w : List Bd) (kw : ∀ y ∈ w, Bd.ok y) : XC pg 5 [L (ss.map Sy.da), .dat c.da, Z i, Z j, L (w.map Bd.da)] [] (B true) [] := by
 have s0 := aaMq ss 1048576 (by omega) (by omega)
 rcases Int.lt_or_le (lft (cnL Sy.cn ss) 1048576) 0 with g0 | g0
 ·obtain ⟨ls_1⟩ := c
  apply p4q
  exact ⟨_, s0, a6q (decide_eq_true g0) ⟨rfl, rfl⟩⟩
 have q0 := aapq g0
 have s1 := a7Sq c _ g0 (by omega)
 rcases Int.lt_or_le (lft (c.cn) (lft (cnL Sy.cn ss) 1048576)) 0 with g1 | g1
 ·obtain ⟨ls_1⟩ := c
  apply p4q
  exact ⟨_, s0, a2q (decide_eq_false (Int.not_lt.2 g0)) ⟨_, s1, a6q (decide_eq_true g1) ⟨rfl, rfl⟩⟩⟩
 have q1 := aapq g1
 have s2 := aabq w _ g1 (by omega)
 rcases Int.lt_or_le (lft (cnL Bd.cn w) (lft (c.cn) (lft (cnL Sy.cn ss) 1048576))) 0 with g2 | g2
 ·obtain ⟨ls_1⟩ := c
  apply p4q
  exact ⟨_, s0, a2q (decide_eq_false (Int.not_lt.2 g0)) ⟨_, s1, a2q (decide_eq_false (Int.not_lt.2 g1)) ⟨_, s2, a6q (decide_eq_true g2) ⟨rfl, rfl⟩⟩⟩⟩
 have q2 := aapq g2
 have hlenss := g2q Sy.cn ss
 have hsyss := a9yq ss
 have hccc : c.cn = cnL Li.cn c.ls := rfl
 have hclc := g2q Li.cn c.ls
 have hcmc := ad7q c.ls
 have hblw := g2q Bd.cn w
 have hbmw := a8Mq w
 have hu := agtq ss c i j w (by omega)
 have hku := ad7q (fct ss c i j w).1.ls
 have hlu := g2q Li.cn (fct ss c i j w).1.ls
 have hcu : (fct ss c i j w).1.cn = cnL Li.cn (fct ss c i j w).1.ls := rfl
 have t0 := a9eq ss (by omega)
 have e0 := aaJq ss
 have m0 := a8nq ss (1) (by omega) (by omega) (by omega)
 have t1 := a6mq c (by omega)
 have e1 := a1Xq c
 have m1 := a08q c (1 + E1q ss) (by omega) (by omega)
 have t2 := a7yq w (by omega)
 have e2 := a98q w
 have m2 := a70q w (1 + E1q ss + mkN c.ls) (by omega) (by omega)
 have c1 := a3uq ss (by omega) c i j w (by omega)
 have c2 := a3Dq ss (by omega) c i j w (by omega)
 have hk : (((1 + E1q ss + mkN c.ls + L0q w : Nat)) : Int) ≥ 0 := by omega
 generalize fct ss c i j w = ub at *
 obtain ⟨u, bb⟩ := ub
 dsimp only at hu hku hlu hcu
 have eu := a1Xq u
 have mu := a08q u 1 (by omega) (by omega)
 have hd := a5lq u 1 (by omega) (by omega)
 obtain ⟨ls_1⟩ := c
 obtain ⟨l0⟩ := u
 apply p4q
 exact ⟨_, s0, a2q (decide_eq_false (Int.not_lt.2 g0)) ⟨_, s1, a2q (decide_eq_false (Int.not_lt.2 g1)) ⟨_, s2, a2q (decide_eq_false (Int.not_lt.2 g2)) ⟨_, t0, _, t1, _, t2, _, _, c1, _, t0, _, t1, _, t2, _, _, c2, _, eu, a2q rfl (a2q (by simp) ⟨_, t0, _, e0, a2q rfl ⟨_, t1, _, e1, a2q rfl ⟨_, t2, _, e2, a2q rfl ⟨_, _, m0, _, _, m1, _, _, m2, a2q (decide_eq_false (by omega)) ⟨_, eu, a2q rfl (a2q (by simp) ⟨_, _, mu, _, hd, a2q (decide_eq_false (by omega)) (a2q (by simp) ⟨_, t0, _, t1, _, t2, _, _, c2, _, eu, a2q rfl (a2q (by simp) ⟨_, hd, a2q (decide_eq_false (by omega)) (a2q (by simp) ⟨rfl, rfl⟩)⟩)⟩)⟩)⟩⟩⟩⟩⟩)⟩⟩⟩⟩
end AM
end Go.Proofs.YtajcoogpmockiaaGreat
