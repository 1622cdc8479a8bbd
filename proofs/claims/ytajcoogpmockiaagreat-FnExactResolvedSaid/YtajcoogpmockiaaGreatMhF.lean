/- A part of the proof of the law that the last of these texts states, for every input; no conditions. -/
import Derived.Test.YtajcoogpmockiaaGreatMhE
set_option linter.unusedVariables false
set_option linter.unusedSimpArgs false
set_option maxRecDepth 100000
namespace Go.Proofs.YtajcoogpmockiaaGreat
namespace AM
open Go Go.ChangeShapes Go.WideShapes Go.RowKit
open Go.Proofs.Tryz renaming prog → pg
def TgP {α : Type} (da : α → List Da) (z : List Da × α) : Prop := z.1.map Da.u1 = da z.2
theorem a1sq {α : Type} {da : α → List Da} : ∀ {xs' : List (List Da)} {ls : List α}, xs'.map (List.map Da.u1) = ls.map da → ∃ zs : List (List Da × α), zs.map (·.1) = xs' ∧ zs.map (·.2) = ls ∧ ∀ z ∈ zs, TgP da z
 | [], [], _ => ⟨[], rfl, rfl, by simp⟩
 | [], y :: s, h => by simp at h
 | x :: r, [], h => by simp at h
 | x :: r, y :: s, h => by
  simp only [List.map_cons, List.cons.injEq] at h
  obtain ⟨zs, h1, h2, h3⟩ := a1sq h.2
  refine ⟨(x, y) :: zs, by simp [h1], by simp [h2], fun z hz => ?_⟩
  rcases List.mem_cons.1 hz with rfl | hz
  ·exact h.1
  ·exact h3 z hz
theorem a1tq {α : Type} {da : α → List Da} : ∀ {zs : List (List Da × α)}, (∀ z ∈ zs, TgP da z) → (zs.map (·.1)).map (List.map Da.u1) = (zs.map (·.2)).map da
 | [], _ => rfl
 | z :: r, h => by
  simp only [List.map_cons]
  rw [a1tq fun x hx => h x (by simp [hx]), h z (by simp)]
theorem afxq {y : Da} {b : Bool} (h : y.u1 = .bool b) : y = .bool b := by cases y <;> simp [Da.u1] at h ⊢; exact h
theorem a1hq {y : Da} {k : IntKind} {n : Int} (h : y.u1 = .int k n) : y = .int k n := by cases y <;> simp [Da.u1] at h ⊢; exact h
theorem aheq (y : Da) : y.u1.ut = y.ut := by cases y <;> simp [Da.u1, Da.ut]
theorem agUq (r : List Da) : Da.utL (r.map Da.u1) = Da.utL r := by
 rw [a10q, a10q, List.map_map]
 exact List.map_congr_left fun y _ => aheq y
mutual
theorem Tm.ut_da : ∀ t : Tm, Da.utL t.da = t.da
 | .mk f v ks => by
  have h := Tm.ut_das ks
  simp [Tm.da, Da.utL, Da.ut, h]
theorem Tm.ut_das : ∀ l : List Tm, Da.utR (Tm.das l) = Tm.das l
 | [] => rfl
 | t :: r => by
  have h1 := Tm.ut_da t
  have h2 := Tm.ut_das r
  simp [Tm.das, Da.utR, h1, h2]
end
theorem ag4q (a b : List Da) : Da.utL (a ++ b) = Da.utL a ++ Da.utL b := by simp [a10q]
theorem Li.ut_da (x : Li) : Da.utL x.da = x.da := by
 obtain ⟨p, l, r⟩ := x
 show Da.utL (.bool p :: (l.da ++ r.da)) = _
 rw [Da.utL, ag4q, l.ut_da, r.ut_da]; rfl
theorem TgP.ut {α : Type} {da : α → List Da} (hd : ∀ x, Da.utL (da x) = da x) {z : List Da × α} (h : TgP da z) : Da.utL z.1 = da z.2 := by
 rw [← agUq, h, hd]
theorem TgP.lit {z : List Da × Li} (h : TgP Li.da z) : ∃ b n1 n2 d n3 n4 d1, z.1 = [.bool b, .int .i64 n1, .int .i64 n2, d, .int .i64 n3, .int .i64 n4, d1] := by
 obtain ⟨row, ⟨p, ⟨f, v, ks⟩, ⟨g, u, ms⟩⟩⟩ := z
 have h : row.map Da.u1 = [.bool p, .int .i64 f, .int .i64 v, .sl (Tm.das ks), .int .i64 g, .int .i64 u, .sl (Tm.das ms)] := h
 obtain ⟨y1, r1, rfl, h1, h⟩ := List.map_eq_cons_iff.1 h
 obtain ⟨y2, r2, rfl, h2, h⟩ := List.map_eq_cons_iff.1 h
 obtain ⟨y3, r3, rfl, h3, h⟩ := List.map_eq_cons_iff.1 h
 obtain ⟨y4, r4, rfl, h4, h⟩ := List.map_eq_cons_iff.1 h
 obtain ⟨y5, r5, rfl, h5, h⟩ := List.map_eq_cons_iff.1 h
 obtain ⟨y6, r6, rfl, h6, h⟩ := List.map_eq_cons_iff.1 h
 obtain ⟨y7, r7, rfl, h7, h⟩ := List.map_eq_cons_iff.1 h
 rw [List.map_eq_nil_iff.1 h]
 exact ⟨p, f, v, y4, g, u, y7, by rw [afxq h1, a1hq h2, a1hq h3, a1hq h5, a1hq h6]⟩
theorem TgP.term {z : List Da × Tm} (h : TgP Tm.da z) : ∃ n1 n2 d, z.1 = [.int .i64 n1, .int .i64 n2, d] := by
 obtain ⟨row, ⟨f, v, ks⟩⟩ := z
 have h : row.map Da.u1 = [.int .i64 f, .int .i64 v, .sl (Tm.das ks)] := h
 obtain ⟨y1, r1, rfl, h1, h⟩ := List.map_eq_cons_iff.1 h
 obtain ⟨y2, r2, rfl, h2, h⟩ := List.map_eq_cons_iff.1 h
 obtain ⟨y3, r3, rfl, h3, h⟩ := List.map_eq_cons_iff.1 h
 rw [List.map_eq_nil_iff.1 h]
 exact ⟨f, v, y3, by rw [a1hq h1, a1hq h2]⟩
structure SWO {β : Type} (lt : β → β → Prop) : Prop where
 asym : ∀ {a b}, lt a b → ¬ lt b a
 ntr : ∀ {a b c}, ¬ lt b a → ¬ lt c b → ¬ lt c a
abbrev Sd {β : Type} (lt : β → β → Prop) (l : List β) : Prop := l.Pairwise (fun a b => ¬ lt b a)
section
variable {β : Type} {lt : β → β → Prop}
theorem s7q {L R : List β} : Sd lt (L ++ R) ↔ Sd lt L ∧ Sd lt R ∧ ∀ a ∈ L, ∀ b ∈ R, ¬ lt b a := List.pairwise_append
theorem R0q (h : SWO lt) {L R : List β} {x : β} (hs : Sd lt (L ++ R)) (hR : ∀ y ∈ R, ¬ lt y x) (hL : ∀ y ∈ L, ¬ lt x y) : Sd lt (L ++ x :: R) := by
 obtain ⟨h1, h2, h3⟩ := s7q.1 hs
 refine s7q.2 ⟨h1, List.pairwise_cons.2 ⟨hR, h2⟩, fun a ha b hb => ?_⟩
 rcases List.mem_cons.1 hb with rfl | hb
 ·exact hL a ha
 ·exact h3 a ha b hb
theorem a6pq (h : SWO lt) {L : List β} {z x : β} (hs : Sd lt (L ++ [z])) (hz : ¬ lt x z) : ∀ y ∈ L ++ [z], ¬ lt x y := by
 intro y hy
 rcases List.mem_append.1 hy with hy | hy
 ·exact h.ntr ((s7q.1 hs).2.2 y hy z (by simp)) hz
 ·rw [List.mem_singleton.1 hy]; exact hz
theorem a0bq (h : SWO lt) {R : List β} {x : β} (hs : Sd lt R) (hl : R = [] ∨ ∃ y, R[R.length - 1]? = some y ∧ lt y x) : ∀ y ∈ R, lt y x := by
 rcases hl with rfl | ⟨y, hy, hlt⟩
 ·simp
 ·intro w hw
  rcases List.eq_nil_or_concat R with rfl | ⟨R', z, rfl⟩
  ·simp at hw
  ·rw [List.concat_eq_append] at hs hy hw
   have : z = y := by simpa using hy
   subst this
   rcases List.mem_append.1 hw with hw | hw
   ·have h1 := (s7q.1 hs).2.2 w hw z (by simp)
    exact Classical.byContradiction fun hn => h.ntr hn h1 hlt
   ·rw [List.mem_singleton.1 hw]; exact hlt
theorem a08q (h : SWO lt) {R : List β} {x : β} (hs : Sd lt R) (hl : R = [] ∨ ∃ y, R[R.length - 1]? = some y ∧ ¬ lt x y) : ∀ y ∈ R, ¬ lt x y := by
 rcases hl with rfl | ⟨y, hy, hlt⟩
 ·simp
 ·intro w hw
  rcases List.eq_nil_or_concat R with rfl | ⟨R', z, rfl⟩
  ·simp at hw
  ·rw [List.concat_eq_append] at hs hy hw
   have : z = y := by simpa using hy
   subst this
   exact a6pq h hs hlt w hw
theorem a7lq (h : SWO lt) {R : List β} {x : β} (hs : Sd lt R) (hl : R = [] ∨ ∃ y, R[0]? = some y ∧ lt x y) : ∀ y ∈ R, lt x y := by
 rcases hl with rfl | ⟨y, hy, hlt⟩
 ·simp
 ·intro w hw
  cases R with
  | nil => simp at hw
  | cons z R' =>
   have : z = y := by simpa using hy
   subst this
   rcases List.mem_cons.1 hw with rfl | hw
   ·exact hlt
   ·have h1 := (List.pairwise_cons.1 hs).1 w hw
    exact Classical.byContradiction fun hn => h.ntr h1 hn hlt
theorem I5q (h : SWO lt) {R : List β} {x : β} (hs : Sd lt R) (hl : R = [] ∨ ∃ y, R[0]? = some y ∧ ¬ lt y x) : ∀ y ∈ R, ¬ lt y x := by
 rcases hl with rfl | ⟨y, hy, hlt⟩
 ·simp
 ·intro w hw
  cases R with
  | nil => simp at hw
  | cons z R' =>
   have : z = y := by simpa using hy
   subst this
   rcases List.mem_cons.1 hw with rfl | hw
   ·exact hlt
   ·exact h.ntr hlt ((List.pairwise_cons.1 hs).1 w hw)
end
theorem W8q {ι : Type} {p : ι → Nat → Nat → Prop} {ex : ι → Nat → Prop} (f : Nat → Prop) (lo hi : Nat) (hx : ∀ t i, lo ≤ i → i ≤ hi → ex t i → p t i i)
  (hs : ∀ t i j, lo ≤ i → i < j → j ≤ hi → (f ((i + j) / 2) → p t ((i + j) / 2 + 1) j → p t i j) ∧ (¬ f ((i + j) / 2) → p t i ((i + j) / 2) → p t i j)) : ∀ (n i j : Nat), j - i ≤ n → lo ≤ i → i ≤ j → j ≤ hi → (i = lo ∨ f (i - 1)) → (j = hi ∨ ¬ f j) → ∃ k, i ≤ k ∧ k ≤ j ∧ (k = lo ∨ f (k - 1)) ∧ (k = hi ∨ ¬ f k) ∧ ∀ t, ex t k → p t i j := by
 intro n
 induction n with
 | zero =>
  intro i j hn h1 h2 h3 hi' hj'
  have : j = i := by omega
  subst this
  exact ⟨j, Nat.le_refl _, Nat.le_refl _, hi', hj', fun t => hx t j h1 h3⟩
 | succ n ih =>
  intro i j hn h1 h2 h3 hi' hj'
  by_cases hij : i = j
  ·subst hij
   exact ⟨i, Nat.le_refl _, Nat.le_refl _, hi', hj', fun t => hx t i h1 h3⟩
  ·have hlt : i < j := by omega
   by_cases hf : f ((i + j) / 2)
   ·obtain ⟨k, k1, k2, k3, k4, k5⟩ := ih ((i + j) / 2 + 1) j (by omega) (by omega) (by omega) h3 (.inr (by simpa using hf)) hj'
    exact ⟨k, by omega, k2, k3, k4, fun t h => (hs t i j h1 hlt h3).1 hf (k5 t h)⟩
   ·obtain ⟨k, k1, k2, k3, k4, k5⟩ := ih i ((i + j) / 2) (by omega) h1 (by omega) (by omega) hi' (.inr hf)
    exact ⟨k, k1, by omega, k3, k4, fun t h => (hs t i j h1 hlt h3).2 hf (k5 t h)⟩
theorem x1q {β γ : Type} (g : β → γ) {P R Q : List β} {k : Nat} {y : β} (h : R[k]? = some y) : ((P ++ R ++ Q).map g)[P.length + k]? = some (g y) := by
 have hk : k < R.length := (List.getElem?_eq_some_iff.1 h).1
 rw [List.getElem?_map, List.append_assoc, List.getElem?_append_right (by omega), Nat.add_sub_cancel_left, List.getElem?_append_left hk, h]
 rfl
theorem midw {i j : Nat} (h : i + j ≤ 281474976710656) : IntKind.wrap .i64 (IntKind.wrap .u64 (IntKind.wrap .i64 ((i : Int) + (j : Int))) / 2 ^ Int.toNat 1) = (((i + j) / 2 : Nat) : Int) := by
 rw [wrI (x := (i : Int) + (j : Int)) (by omega) (by omega)]
 have h1 : IntKind.wrap .u64 ((i : Int) + (j : Int)) = (i : Int) + (j : Int) := by
  unfold IntKind.wrap
  simp only [IntKind.bits, IntKind.signed]
  first
  | (simp; omega)
  | omega
 rw [h1]
 have h2 : (2 : Int) ^ Int.toNat 1 = 2 := rfl
 rw [h2, wrI (by omega) (by omega)]
 omega
section
variable {β γ : Type} (g : β → γ)
theorem a0Sq {P M Q : List β} {a b : β} : (((P ++ a :: M ++ b :: Q).map g).set P.length (g b)).set (P.length + 1 + M.length) (g a) = (P ++ b :: M ++ a :: Q).map g := by
 simp only [List.map_append, List.map_cons, List.append_assoc, List.cons_append]
 rw [List.set_append_right _ _ (by simp)]
 simp only [List.length_map, Nat.sub_self, List.set_cons_zero]
 rw [List.set_append_right _ _ (by simp; omega)]
 have e : P.length + 1 + M.length - (P.map g).length = M.length + 1 := by simp; omega
 rw [e, List.set_cons_succ, List.set_append_right _ _ (by simp)]
 simp
theorem a3pq {P M Q : List β} {a b : β} : (((P ++ a :: M ++ b :: Q).map g).set (P.length + 1 + M.length) (g a)).set P.length (g b) = (P ++ b :: M ++ a :: Q).map g := by
 rw [List.set_comm _ _ (by omega)]
 exact a0Sq g
theorem P9q {P M Q : List β} {a b : β} : ((P ++ a :: M ++ b :: Q).map g)[P.length]? = some (g a) := by
 rw [List.append_assoc]; simp
theorem P6q {P M Q : List β} {a b : β} : ((P ++ a :: M ++ b :: Q).map g)[P.length + 1 + M.length]? = some (g b) := by
 have : P.length + 1 + M.length = (P ++ a :: M).length := by simp; omega
 rw [this]; simp
end
theorem z9q {β γ : Type} (g : β → γ) (P M Q : List β) (a b : β) : ((P ++ a :: M ++ b :: Q).map g).length = P.length + M.length + Q.length + 2 := by simp; omega
theorem F5q : (0 : Int) ≤ 1 ∧ (1 : Int) ≤ ((IntKind.bits IntKind.u64 : Nat) : Int) := by decide
def e5q (a b : List Da × Tm) : Prop := Tm.cmp a.2 b.2 < 0
instance (a b : List Da × Tm) : Decidable (e5q a b) := inferInstanceAs (Decidable (_ < _))
theorem a32q {z w : List Da × Tm} (hz : TgP Tm.da z) (hw : TgP Tm.da w) : XC pg 143 [.dat z.1, .dat w.1] [] (Z (Tm.cmp z.2 w.2)) [] := XC.ut (by
 show XC _ _ [.dat (Da.utL z.1), .dat (Da.utL w.1)] _ _ _
 rw [hz.ut Tm.ut_da, hw.ut Tm.ut_da]; exact D6q _ _)
theorem a01q (A Y C : List (List Da × Tm)) : ∀ (X2 Z2 Z1 X1 : List (List Da × Tm)), (∀ z ∈ A ++ Z1 ++ X2 ++ Y ++ X1 ++ Z2 ++ C, TgP Tm.da z) → X2.length = Z2.length → X1.length = Z1.length → (A ++ Z1 ++ X2 ++ Y ++ X1 ++ Z2 ++ C).length ≤ 3000000000000 →
  f5q (.tup []) [(2000, .lst 30 3 ((A ++ Z1 ++ Z2 ++ Y ++ X1 ++ X2 ++ C).map (·.1)))] (A.length : Int) ((A ++ Z1 ++ X2 ++ Y).length : Int) ((Z1 ++ X2).length : Int) (Z1.length : Int) ((A ++ Z1 ++ X2 ++ Y ++ X1 ++ Z2 ++ C).map (·.1))
 | [], Z2, Z1, X1, ht, h1, h2, hl => by
  have : Z2 = [] := List.eq_nil_of_length_eq_zero h1.symm
  subst this
  apply m5q
  exact a2q (decide_eq_false (by simp)) ⟨rfl, by simp⟩
 | x :: X2, [], Z1, X1, ht, h1, h2, hl => by simp at h1
 | x :: X2, z :: Z2, Z1, X1, ht, h1, h2, hl => by
  have hl' : A.length + Z1.length + X2.length + Y.length + X1.length + Z2.length + C.length + 2 ≤ 3000000000000 := by simp at hl; omega
  have ih := a01q A Y C X2 Z2 (Z1 ++ [z]) (X1 ++ [x]) (fun w hw => ht w (by simp at hw ⊢; grind)) (by simpa using h1) (by simp [h2]) (by simp; omega)
  obtain ⟨_, _, _, ex⟩ := (ht x (by simp)).term
  obtain ⟨_, _, _, ez⟩ := (ht z (by simp)).term
  have eD : A ++ Z1 ++ x :: X2 ++ Y ++ X1 ++ z :: Z2 ++ C = (A ++ Z1) ++ x :: (X2 ++ Y ++ X1) ++ z :: (Z2 ++ C) := by simp
  have eD2 : (A ++ Z1) ++ z :: (X2 ++ Y ++ X1) ++ x :: (Z2 ++ C) = A ++ (Z1 ++ [z]) ++ X2 ++ Y ++ (X1 ++ [x]) ++ Z2 ++ C := by simp
  have eR : A ++ (Z1 ++ [z]) ++ Z2 ++ Y ++ (X1 ++ [x]) ++ X2 ++ C = A ++ Z1 ++ z :: Z2 ++ Y ++ X1 ++ x :: X2 ++ C := by simp
  have en : ((Z1 ++ [z]) ++ X2).length = (Z1 ++ x :: X2).length := by simp
  have eb : (A ++ (Z1 ++ [z]) ++ X2 ++ Y).length = (A ++ Z1 ++ x :: X2 ++ Y).length := by simp
  have ei : (Z1 ++ [z]).length = Z1.length + 1 := by simp
  have w1 : IntKind.wrap .i64 (((A ++ Z1 ++ x :: X2 ++ Y).length : Int) + (Z1.length : Int)) = (((A ++ Z1).length + 1 + (X2 ++ Y ++ X1).length : Nat) : Int) := by
   rw [wrI (by omega) (by simp; omega)]; simp; omega
  have w2 : IntKind.wrap .i64 ((A.length : Int) + (Z1.length : Int)) = (((A ++ Z1).length : Nat) : Int) := by
   rw [wrI (by omega) (by omega)]; simp
  have w3 : IntKind.wrap .i64 ((Z1.length : Int) + 1) = ((Z1.length + 1 : Nat) : Int) := by
   rw [wrI (by omega) (by omega)]; simp
  rw [en, eb, ei, ← eD2, eR, ← a0Sq] at ih
  rw [eD]
  have g1 := P6q (fun z : List Da × Tm => z.1) (P := A ++ Z1) (M := X2 ++ Y ++ X1) (Q := Z2 ++ C) (a := x) (b := z)
  have g2 := P9q (fun z : List Da × Tm => z.1) (P := A ++ Z1) (M := X2 ++ Y ++ X1) (Q := Z2 ++ C) (a := x) (b := z)
  have l1 := z9q (fun z : List Da × Tm => z.1) (A ++ Z1) (X2 ++ Y ++ X1) (Z2 ++ C) x z
  have g3 : ((((A ++ Z1) ++ x :: (X2 ++ Y ++ X1) ++ z :: (Z2 ++ C)).map (·.1)).set (A ++ Z1).length z.1)[(A ++ Z1).length + 1 + (X2 ++ Y ++ X1).length]? = some z.1 := by
   rw [List.getElem?_set_ne (by omega)]; exact g1
  rw [ex] at g2 ih
  rw [ez] at g1 g3 ih
  apply m5q
  rw [w1, w2, w3]
  refine a6q (decide_eq_true (by simp; omega)) ⟨_, rfl, ⟨by rw [l1]; omega⟩, _, rfl, _, _, _, g1, _, rfl, ⟨by rw [l1]; omega⟩, _, rfl, _, _, _, g2, _, rfl, ⟨by rw [l1]; omega⟩, _, rfl, _, _, _, g2, _, rfl, ⟨by rw [List.length_set, l1]; omega⟩, _, rfl, _, _, _, g3, ih⟩
theorem G6q (A U Y V C : List (List Da × Tm)) (ht : ∀ z ∈ A ++ U ++ Y ++ V ++ C, TgP Tm.da z) (h : U.length = V.length) (hl : (A ++ U ++ Y ++ V ++ C).length ≤ 3000000000000) : XC pg 272 [.one (.ol 2000), Z (A.length : Int), Z ((A ++ U ++ Y).length : Int), Z (U.length : Int), .one (.d (.fn 143))] [(2000, .lst 30 3 ((A ++ U ++ Y ++ V ++ C).map (·.1)))] (.tup []) [(2000, .lst 30 3 ((A ++ V ++ Y ++ U ++ C).map (·.1)))] := by
 apply x6q
 have := a01q A Y C U V [] [] (by simpa using ht) h rfl (by simpa using hl)
 simpa using this
theorem a8sq (T : List (List Da × Tm)) : ∀ (n : Nat) (A U V C : List (List Da × Tm)), U.length + V.length ≤ n → U ≠ [] → V ≠ [] → (∀ z ∈ A ++ U ++ V ++ C, TgP Tm.da z) → (A ++ U ++ V ++ C).length ≤ 3000000000000 → A ++ V ++ U ++ C = T → e4q (.tup []) [(2000, .lst 30 3 ((T).map (·.1)))] ((A ++ U).length : Int) (U.length : Int) (V.length : Int) ((A ++ U ++ V ++ C).map (·.1)) := by
 intro n
 induction n with
 | zero =>
  intro A U V C hn hU _ _ _ _
  exact absurd (List.eq_nil_of_length_eq_zero (by omega)) hU
 | succ n ih =>
  intro A U V C hn hU hV ht hl hT
  have hU' := List.length_pos_iff.2 hU
  have hV' := List.length_pos_iff.2 hV
  have hl' : A.length + U.length + V.length + C.length ≤ 3000000000000 := by simp at hl; omega
  have w1 : IntKind.wrap .i64 (((A ++ U).length : Int) - (U.length : Int)) = (A.length : Int) := by rw [wrI (by simp <;> omega) (by simp <;> omega)]; simp <;> omega
  apply x3q
  rw [w1]
  by_cases he : U.length = V.length
  ·have c := G6q A U [] V C (by simpa using ht) he (by simpa using hl)
   simp only [List.append_nil] at c
   rw [hT] at c
   exact a2q (decide_eq_false (by simp [he])) ⟨_, c, rfl, rfl⟩
  ·refine a6q (decide_eq_true (by omega)) ?_
   by_cases hgt : V.length < U.length
   ·refine a6q (decide_eq_true (by omega)) ?_
    obtain ⟨U1, U2, rfl, hU1⟩ : ∃ U1 U2, U = U1 ++ U2 ∧ U1.length = V.length := ⟨U.take V.length, U.drop V.length, by simp, by simp; omega⟩
    have c := G6q A U1 U2 V C (by simpa using ht) hU1 (by simpa using hl)
    have h2 : U2.length + V.length = (U1 ++ U2).length := by simp; omega
    have w2 : IntKind.wrap .i64 (((U1 ++ U2).length : Int) - (V.length : Int)) = (U2.length : Int) := by rw [wrI (by simp <;> omega) (by simp <;> omega)]; simp <;> omega
    have i1 := ih (A ++ V) U2 U1 C (by simp at hn; omega) (by intro h; subst h; simp at hgt hU1; omega) (by intro h; subst h; simp at hU1; omega) (fun w hw => ht w (by simp at hw ⊢; grind)) (by simp; omega) (by simpa [List.append_assoc] using hT)
    have e1 : A ++ (U1 ++ U2) ++ V ++ C = A ++ U1 ++ U2 ++ V ++ C := by simp
    have e2 : (A ++ V ++ U2).length = (A ++ (U1 ++ U2)).length := by simp; omega
    have e3 : (A ++ (U1 ++ U2)).length = (A ++ U1 ++ U2).length := by simp
    rw [w2, e1]
    rw [e2] at i1
    rw [e3] at i1 ⊢
    rw [hU1] at i1 c
    exact ⟨_, c, i1⟩
   ·refine a2q (decide_eq_false (by omega)) ?_
    obtain ⟨V1, V2, rfl, hV2⟩ : ∃ V1 V2, V = V1 ++ V2 ∧ V2.length = U.length := ⟨V.take (V.length - U.length), V.drop (V.length - U.length), by simp, by simp; omega⟩
    have hvl : (V1 ++ V2).length = V1.length + V2.length := by simp
    have c := G6q A U V1 V2 C (by simpa using ht) hV2.symm (by simpa using hl)
    have w2 : IntKind.wrap .i64 (IntKind.wrap .i64 (((A ++ U).length : Int) + ((V1 ++ V2).length : Int)) - (U.length : Int)) = ((A ++ U ++ V1).length : Int) := by
     rw [wrI (x := ((A ++ U).length : Int) + _) (by omega) (by simp at hl' ⊢; omega), wrI (by simp; omega) (by simp at hl' ⊢; omega)]; simp; omega
    have w3 : IntKind.wrap .i64 (((V1 ++ V2).length : Int) - (U.length : Int)) = (V1.length : Int) := by rw [wrI (by simp; omega) (by simp at hl' ⊢; omega)]; simp; omega
    have i1 := ih A V2 V1 (U ++ C) (by omega) (by intro h; subst h; simp at hV2; omega) (by intro h; subst h; simp at he hgt hvl; omega) (fun w hw => ht w (by simp at hw ⊢; grind)) (by simp at hl' ⊢; omega) (by simpa [List.append_assoc] using hT)
    have e1 : A ++ U ++ (V1 ++ V2) ++ C = A ++ U ++ V1 ++ V2 ++ C := by simp
    have e2 : (A ++ V2).length = (A ++ U).length := by simp [hV2]
    have e4 : A ++ V2 ++ V1 ++ (U ++ C) = A ++ V2 ++ V1 ++ U ++ C := by simp
    rw [w2, w3, e1]
    rw [e2, hV2, e4] at i1
    exact ⟨_, c, i1⟩
theorem a7Hq (A U V C : List (List Da × Tm)) (hU : U ≠ []) (hV : V ≠ []) (ht : ∀ z ∈ A ++ U ++ V ++ C, TgP Tm.da z) (hl : (A ++ U ++ V ++ C).length ≤ 3000000000000) : XC pg 268 [.one (.ol 2000), Z (A.length : Int), Z ((A ++ U).length : Int), Z ((A ++ U ++ V).length : Int), .one (.d (.fn 143))] [(2000, .lst 30 3 ((A ++ U ++ V ++ C).map (·.1)))] (.tup []) [(2000, .lst 30 3 ((A ++ V ++ U ++ C).map (·.1)))] := by
 have hl' : A.length + U.length + V.length + C.length ≤ 3000000000000 := by simp at hl; omega
 have w1 : IntKind.wrap .i64 (((A ++ U).length : Int) - (A.length : Int)) = (U.length : Int) := by rw [wrI (by simp <;> omega) (by simp <;> omega)]; simp <;> omega
 have w2 : IntKind.wrap .i64 (((A ++ U ++ V).length : Int) - ((A ++ U).length : Int)) = (V.length : Int) := by rw [wrI (by simp <;> omega) (by simp <;> omega)]; simp <;> omega
 apply z8q
 rw [w1, w2]
 exact a8sq _ _ A U V C (Nat.le_refl _) hU hV ht hl rfl
theorem aawq (hO : SWO e5q) (A : List (List Da × Tm)) (x : List Da × Tm) : ∀ (n : Nat) (L R Q : List (List Da × Tm)), L.length = n → (∀ z ∈ A ++ L ++ x :: R ++ Q, TgP Tm.da z) → (A ++ L ++ x :: R ++ Q).length ≤ 3000000000000 → Sd e5q (L ++ R) → (∀ y ∈ R, e5q x y) → ∃ S, S.Perm (L ++ x :: R) ∧ Sd e5q S ∧ ∀ (r : AV) (O : List (Nat × Ob)) (b i : Int), (c5q r O (A.length : Int) b (IntKind.wrap .i64 (i + 1)) ((A ++ S ++ Q).map (·.1)) → e3q r O (A.length : Int) b i ((A ++ L).length : Int) ((A ++ L ++ x :: R ++ Q).map (·.1))) := by
 intro n
 induction n with
 | zero =>
  intro L R Q hn ht hl hs hR
  have : L = [] := List.eq_nil_of_length_eq_zero hn
  subst this
  refine ⟨x :: R, by simp, R0q hO (L := []) hs (fun y hy => hO.asym (hR y hy)) (by simp), fun r O b i h => ?_⟩
  apply i2q
  refine a2q (decide_eq_false (by simp)) ?_
  simpa using h
 | succ n ih =>
  intro L R Q hn ht hl hs hR
  obtain ⟨L', z, rfl⟩ : ∃ L' z, L = L' ++ [z] := by
   rcases List.eq_nil_or_concat L with rfl | ⟨L', z, h⟩
   ·simp at hn
   ·exact ⟨L', z, by rw [h, List.concat_eq_append]⟩
  have hl' : A.length + L'.length + R.length + Q.length + 2 ≤ 3000000000000 := by simp at hl; omega
  have hz := ht z (by simp)
  have hx := ht x (by simp)
  have hcmp := a32q hx hz
  obtain ⟨_, _, _, ex⟩ := (ht x (by simp)).term
  obtain ⟨_, _, _, ez⟩ := (ht z (by simp)).term
  have eD : A ++ (L' ++ [z]) ++ x :: R ++ Q = (A ++ L') ++ z :: [] ++ x :: (R ++ Q) := by simp
  have g1 := P6q (fun z : List Da × Tm => z.1) (P := A ++ L') (M := []) (Q := R ++ Q) (a := z) (b := x)
  have g2 := P9q (fun z : List Da × Tm => z.1) (P := A ++ L') (M := []) (Q := R ++ Q) (a := z) (b := x)
  have l1 := z9q (fun z : List Da × Tm => z.1) (A ++ L') [] (R ++ Q) z x
  have g3 : ((((A ++ L') ++ z :: [] ++ x :: (R ++ Q)).map (·.1)).set ((A ++ L').length + 1 + ([] : List (List Da × Tm)).length) z.1)[(A ++ L').length]? = some z.1 := by
   rw [List.getElem?_set_ne (by simp)]; exact g2
  have w1 : IntKind.wrap .i64 (((A ++ (L' ++ [z])).length : Int) - 1) = (((A ++ L').length : Nat) : Int) := by rw [wrI (by simp <;> omega) (by simp <;> omega)]; simp <;> omega
  have w2 : IntKind.wrap .i64 ((((A ++ L').length + 1 + ([] : List (List Da × Tm)).length : Nat) : Int) - 1) = (((A ++ L').length : Nat) : Int) := by rw [wrI (by simp <;> omega) (by simp <;> omega)]; simp <;> omega
  have hj : ((A ++ (L' ++ [z])).length : Int) = (((A ++ L').length + 1 + ([] : List (List Da × Tm)).length : Nat) : Int) := by simp; omega
  by_cases hlt : e5q x z
  ·obtain ⟨S, p1, p2, p3⟩ := ih L' (z :: R) Q (by simpa using hn) (fun w hw => ht w (by simp at hw ⊢; grind)) (by simp; omega) (by simpa using hs) (fun y hy => by
    rcases List.mem_cons.1 hy with rfl | hy
    ·exact hlt
    ·exact hR y hy)
   refine ⟨S, p1.trans ?_, p2, fun r O b i h => ?_⟩
   ·have : (L' ++ [z]) ++ x :: R = L' ++ z :: x :: R := by simp
    rw [this]
    exact (List.Perm.swap ..).append_left L'
   ·have h4 := p3 r O b i h
    have eS : A ++ L' ++ x :: z :: R ++ Q = (A ++ L') ++ x :: [] ++ z :: (R ++ Q) := by simp
    rw [eS, ← a3pq] at h4
    rw [ex] at g1 hcmp
    rw [ez] at g2 g3 hcmp
    rw [ex, ez] at h4
    apply i2q
    rw [eD, hj, w2]
    refine a6q (decide_eq_true (by simp; omega)) ⟨_, rfl, ⟨by rw [l1]; simp; omega⟩, _, rfl, _, _, _, g1, _, rfl, ⟨by rw [l1]; simp; omega⟩, _, rfl, _, _, _, g2, _, hcmp, a6q (decide_eq_true hlt) ⟨_, rfl, ⟨by rw [l1]; simp; omega⟩, _, rfl, _, _, _, g2, _, rfl, ⟨by rw [l1]; simp; omega⟩, _, rfl, _, _, _, g1, _, rfl, ⟨by rw [l1]; simp; omega⟩, _, rfl, _, _, _, g1, _, rfl, ⟨by rw [List.length_set, l1]; simp; omega⟩, _, rfl, _, _, _, g3, h4⟩⟩
  ·refine ⟨(L' ++ [z]) ++ x :: R, .refl _, R0q hO hs (fun y hy => hO.asym (hR y hy)) (a6pq hO (s7q.1 hs).1 hlt), fun r O b i h => ?_⟩
   have e2 : A ++ (L' ++ [z] ++ x :: R) ++ Q = (A ++ L') ++ z :: [] ++ x :: (R ++ Q) := by simp
   rw [e2] at h
   rw [ex] at g1 hcmp
   rw [ez] at g2 hcmp
   apply i2q
   rw [eD, hj, w2]
   exact a6q (decide_eq_true (by simp; omega)) ⟨_, rfl, ⟨by rw [l1]; simp; omega⟩, _, rfl, _, _, _, g1, _, rfl, ⟨by rw [l1]; simp; omega⟩, _, rfl, _, _, _, g2, _, hcmp, a2q (decide_eq_false hlt) h⟩
theorem a29q (hO : SWO e5q) (A C : List (List Da × Tm)) : ∀ (R S : List (List Da × Tm)), (∀ z ∈ A ++ S ++ R ++ C, TgP Tm.da z) → (A ++ S ++ R ++ C).length ≤ 3000000000000 → Sd e5q S → ∃ M, M.Perm (S ++ R) ∧ Sd e5q M ∧ c5q (.tup []) [(2000, .lst 30 3 ((A ++ M ++ C).map (·.1)))] (A.length : Int) ((A ++ S ++ R).length : Int) ((A ++ S).length : Int) ((A ++ S ++ R ++ C).map (·.1))
 | [], S, ht, hl, hs => by
  refine ⟨S, by simp, hs, ?_⟩
  apply i1q
  exact a2q (decide_eq_false (by simp)) ⟨rfl, by simp⟩
 | x :: R, S, ht, hl, hs => by
  have hl' : A.length + S.length + R.length + C.length + 1 ≤ 3000000000000 := by simp at hl; omega
  obtain ⟨S', p1, p2, p3⟩ := aawq hO A x S.length S [] (R ++ C) rfl (by simpa using ht) (by simpa using hl) (by simpa using hs) (by simp)
  have pl := p1.length_eq
  simp only [List.length_append, List.length_cons, List.length_nil] at pl
  obtain ⟨M, q1, q2, q3⟩ := a29q hO A C R S' (fun w hw => ht w (by
   have hp : w ∈ S' → w ∈ S ++ [x] := fun h => p1.subset h
   simp at hw hp ⊢; grind)) (by simp; omega) p2
  refine ⟨M, q1.trans ?_, q2, ?_⟩
  ·have e : S ++ x :: R = S ++ [x] ++ R := by simp
   rw [e]
   exact p1.append_right R
  ·have h4 := p3 (.tup []) [(2000, .lst 30 3 ((A ++ M ++ C).map (·.1)))] ((A ++ S ++ x :: R).length : Int) ((A ++ S).length : Int)
   have w1 : IntKind.wrap .i64 (((A ++ S).length : Int) + 1) = ((A ++ S').length : Int) := by rw [wrI (by simp <;> omega) (by simp <;> omega)]; simp <;> omega
   have e1 : (A ++ S' ++ R).length = (A ++ S ++ x :: R).length := by simp; omega
   have e2 : A ++ S' ++ (R ++ C) = A ++ S' ++ R ++ C := by simp
   have e3 : A ++ S ++ [x] ++ (R ++ C) = A ++ S ++ x :: R ++ C := by simp
   rw [w1, e2, e3] at h4
   rw [e1] at q3
   apply i1q
   exact a6q (decide_eq_true (by simp; omega)) (h4 q3)
theorem S8q (hO : SWO e5q) (A R C : List (List Da × Tm)) (ht : ∀ z ∈ A ++ R ++ C, TgP Tm.da z) (hl : (A ++ R ++ C).length ≤ 3000000000000) : ∃ M, M.Perm R ∧ Sd e5q M ∧ XC pg 260 [.one (.ol 2000), Z (A.length : Int), Z ((A ++ R).length : Int), .one (.d (.fn 143))] [(2000, .lst 30 3 ((A ++ R ++ C).map (·.1)))] (.tup []) [(2000, .lst 30 3 ((A ++ M ++ C).map (·.1)))] := by
 have hl' : A.length + R.length + C.length ≤ 3000000000000 := by simp at hl; omega
 have w1 : IntKind.wrap .i64 ((A.length : Int) + 1) = ((A.length + 1 : Nat) : Int) := by rw [wrI (by omega) (by omega)]; simp
 cases R with
 | nil =>
  refine ⟨[], .refl _, .nil, ?_⟩
  apply m1q
  rw [w1]
  apply i1q
  exact a2q (decide_eq_false (by simp <;> omega)) ⟨rfl, rfl⟩
 | cons x R =>
  obtain ⟨M, p1, p2, p3⟩ := a29q hO A C R [x] (by simpa using ht) (by simpa using hl) (by simp)
  refine ⟨M, by simpa using p1, p2, ?_⟩
  apply m1q
  rw [w1]
  have e1 : (A ++ [x]).length = A.length + 1 := by simp
  have e2 : A ++ [x] ++ R = A ++ x :: R := by simp
  rw [e1, e2] at p3
  exact p3
theorem a51q (i : Int) (x : List Da × Tm) (Q : List (List Da × Tm)) : ∀ (R1 D : List (List Da × Tm)), (∀ z ∈ D ++ x :: R1 ++ Q, TgP Tm.da z) → (D ++ x :: R1 ++ Q).length ≤ 3000000000000 → i = ((D.length + R1.length + 1 : Nat) : Int) → e1q (.tup []) [(2000, .lst 30 3 ((D ++ R1 ++ x :: Q).map (·.1)))] i (D.length : Int) ((D ++ x :: R1 ++ Q).map (·.1)) := by
 intro R1
 induction R1 with
 | nil =>
  intro D ht hl hi
  have w : IntKind.wrap .i64 (i - 1) = (D.length : Int) := by rw [wrI (by omega) (by simp at hl hi; omega)]; simp at hi; omega
  apply n0q
  rw [w]
  exact a2q (decide_eq_false (by omega)) ⟨rfl, by simp⟩
 | cons y R1 ih0 =>
  intro D ht hl hi
  have hl' : D.length + R1.length + Q.length + 2 ≤ 3000000000000 := by simp at hl; omega
  have ih := ih0 (D ++ [y]) (fun w hw => ht w (by simp at hw ⊢; grind)) (by simp; omega) (by simp at hi ⊢; omega)
  have w : IntKind.wrap .i64 (i - 1) = ((D.length + R1.length + 1 : Nat) : Int) := by rw [wrI (by omega) (by simp at hi; omega)]; simp at hi; omega
  have w1 : IntKind.wrap .i64 ((D.length : Int) + 1) = ((D.length + 1 + ([] : List (List Da × Tm)).length : Nat) : Int) := by rw [wrI (by omega) (by omega)]; simp
  have eD : D ++ x :: y :: R1 ++ Q = D ++ x :: [] ++ y :: (R1 ++ Q) := by simp
  have eE : D ++ [y] ++ x :: R1 ++ Q = D ++ y :: [] ++ x :: (R1 ++ Q) := by simp
  have eO : D ++ [y] ++ R1 ++ x :: Q = D ++ y :: R1 ++ x :: Q := by simp
  have e1 : (D ++ [y]).length = D.length + 1 + ([] : List (List Da × Tm)).length := by simp
  have g1 := P6q (fun z : List Da × Tm => z.1) (P := D) (M := []) (Q := R1 ++ Q) (a := x) (b := y)
  have g2 := P9q (fun z : List Da × Tm => z.1) (P := D) (M := []) (Q := R1 ++ Q) (a := x) (b := y)
  have l1 := z9q (fun z : List Da × Tm => z.1) D [] (R1 ++ Q) x y
  have g3 : (((D ++ x :: [] ++ y :: (R1 ++ Q)).map (·.1)).set D.length y.1)[D.length + 1 + ([] : List (List Da × Tm)).length]? = some y.1 := by
   rw [List.getElem?_set_ne (by simp)]; exact g1
  obtain ⟨_, _, _, ex⟩ := (ht x (by simp)).term
  obtain ⟨_, _, _, ey⟩ := (ht y (by simp)).term
  rw [eE, eO, e1, ← a0Sq (fun z : List Da × Tm => z.1) (P := D) (M := []) (Q := R1 ++ Q) (a := x) (b := y)] at ih
  rw [ex] at g2
  rw [ey] at g1 g3
  rw [ex, ey] at ih
  apply n0q
  rw [w, eD, w1]
  exact a6q (decide_eq_true (by omega)) ⟨_, rfl, ⟨by rw [l1]; simp; omega⟩, _, rfl, _, _, _, g1, _, rfl, ⟨by rw [l1]; simp; omega⟩, _, rfl, _, _, _, g2, _, rfl, ⟨by rw [l1]; simp; omega⟩, _, rfl, _, _, _, g2, _, rfl, ⟨by rw [List.length_set, l1]; simp; omega⟩, _, rfl, _, _, _, g3, ih⟩
theorem a6aq (D : List (List Da × Tm)) (x : List Da × Tm) : ∀ (n : Nat) (L Q : List (List Da × Tm)), L.length = n → (∀ z ∈ D ++ L ++ x :: Q, TgP Tm.da z) → (D ++ L ++ x :: Q).length ≤ 3000000000000 → d9q (.tup []) [(2000, .lst 30 3 ((D ++ x :: L ++ Q).map (·.1)))] (D.length : Int) ((D ++ L).length : Int) ((D ++ L ++ x :: Q).map (·.1)) := by
 intro n
 induction n with
 | zero =>
  intro L Q hn ht hl
  have : L = [] := List.eq_nil_of_length_eq_zero hn
  subst this
  apply m3q
  exact a2q (decide_eq_false (by simp)) ⟨rfl, by simp⟩
 | succ n ih =>
  intro L Q hn ht hl
  obtain ⟨L', z, rfl⟩ : ∃ L' z, L = L' ++ [z] := by
   rcases List.eq_nil_or_concat L with rfl | ⟨L', z, h⟩
   ·simp at hn
   ·exact ⟨L', z, by rw [h, List.concat_eq_append]⟩
  have hl' : D.length + L'.length + Q.length + 2 ≤ 3000000000000 := by simp at hl; omega
  have i1 := ih L' (z :: Q) (by simpa using hn) (fun w hw => ht w (by simp at hw ⊢; grind)) (by simp; omega)
  have eD : D ++ (L' ++ [z]) ++ x :: Q = (D ++ L') ++ z :: [] ++ x :: Q := by simp
  have eE : D ++ L' ++ x :: z :: Q = (D ++ L') ++ x :: [] ++ z :: Q := by simp
  have eO : D ++ x :: L' ++ z :: Q = D ++ x :: (L' ++ [z]) ++ Q := by simp
  have hj : ((D ++ (L' ++ [z])).length : Int) = (((D ++ L').length + 1 + ([] : List (List Da × Tm)).length : Nat) : Int) := by simp; omega
  have w2 : IntKind.wrap .i64 ((((D ++ L').length + 1 + ([] : List (List Da × Tm)).length : Nat) : Int) - 1) = (((D ++ L').length : Nat) : Int) := by rw [wrI (by simp <;> omega) (by simp <;> omega)]; simp <;> omega
  have g1 := P6q (fun z : List Da × Tm => z.1) (P := D ++ L') (M := []) (Q := Q) (a := z) (b := x)
  have g2 := P9q (fun z : List Da × Tm => z.1) (P := D ++ L') (M := []) (Q := Q) (a := z) (b := x)
  have l1 := z9q (fun z : List Da × Tm => z.1) (D ++ L') [] Q z x
  have g3 : ((((D ++ L') ++ z :: [] ++ x :: Q).map (·.1)).set ((D ++ L').length + 1 + ([] : List (List Da × Tm)).length) z.1)[(D ++ L').length]? = some z.1 := by
   rw [List.getElem?_set_ne (by simp)]; exact g2
  obtain ⟨_, _, _, ex⟩ := (ht x (by simp)).term
  obtain ⟨_, _, _, ez⟩ := (ht z (by simp)).term
  rw [eE, eO, ← a3pq] at i1
  rw [ex] at g1
  rw [ez] at g2 g3
  rw [ex, ez] at i1
  apply m3q
  rw [eD, hj, w2]
  exact a6q (decide_eq_true (by simp; omega)) ⟨_, rfl, ⟨by rw [l1]; simp; omega⟩, _, rfl, _, _, _, g2, _, rfl, ⟨by rw [l1]; simp; omega⟩, _, rfl, _, _, _, g1, _, rfl, ⟨by rw [l1]; simp; omega⟩, _, rfl, _, _, _, g1, _, rfl, ⟨by rw [List.length_set, l1]; simp; omega⟩, _, rfl, _, _, _, g3, i1⟩
theorem afaq (hO : SWO e5q) (A R C : List (List Da × Tm)) (x : List Da × Tm) (ht : ∀ z ∈ A ++ x :: R ++ C, TgP Tm.da z) (hl : (A ++ x :: R ++ C).length ≤ 3000000000000) (hs : Sd e5q R) : ∃ M, M.Perm (x :: R) ∧ Sd e5q M ∧ c1q (.tup []) [(2000, .lst 30 3 ((A ++ M ++ C).map (·.1)))] (A.length : Int) ((A.length + 1 : Nat) : Int) ((A.length + 1 + R.length : Nat) : Int) ((A ++ x :: R ++ C).map (·.1)) := by
 have hl' : A.length + R.length + C.length + 1 ≤ 3000000000000 := by simp at hl; omega
 have hlen : ((A ++ x :: R ++ C).map (·.1)).length = A.length + R.length + C.length + 1 := by simp; omega
 have eD : A ++ x :: R ++ C = A ++ [x] ++ R ++ C := by simp
 have gx : ((A ++ x :: R ++ C).map (·.1))[A.length]? = some x.1 := by
  have := x1q (fun z : List Da × Tm => z.1) (P := A) (R := x :: R) (Q := C) (k := 0) (y := x) rfl
  exact this
 obtain ⟨k, k1, k2, k3, k4, k5⟩ := W8q (ι := AV × List (Nat × Ob)) (p := fun t i j => c1q t.1 t.2 (A.length : Int) (i : Int) (j : Int) ((A ++ x :: R ++ C).map (·.1))) (ex := fun t i => e1q t.1 t.2 (i : Int) (A.length : Int) ((A ++ x :: R ++ C).map (·.1)))
  (fun h => ∃ y, R[h - (A.length + 1)]? = some y ∧ e5q y x) (A.length + 1) (A.length + 1 + R.length) (fun t i _ _ h => by
   apply m9q
   exact a2q (decide_eq_false (by omega)) h) (fun t i j h1 h2 h3 => by
   obtain ⟨y, hy⟩ := d0q (l := R) (i := (i + j) / 2 - (A.length + 1)) (by omega)
   have hym := List.mem_of_getElem? hy
   have hcmp := a32q (ht y (by simp [hym])) (ht x (by simp))
   have gy := x1q (fun z : List Da × Tm => z.1) (P := A ++ [x]) (Q := C) hy
   have eh : (A ++ [x]).length + ((i + j) / 2 - (A.length + 1)) = (i + j) / 2 := by simp; omega
   rw [eh, ← eD] at gy
   obtain ⟨_, _, _, ex⟩ := (ht x (by simp)).term
   obtain ⟨_, _, _, ey⟩ := (ht y (by simp [hym])).term
   have core : (e5q y x → c1q t.1 t.2 (A.length : Int) (((i + j) / 2 + 1 : Nat) : Int) (j : Int) ((A ++ x :: R ++ C).map (·.1))) → (¬ e5q y x → c1q t.1 t.2 (A.length : Int) (i : Int) (((i + j) / 2 : Nat) : Int) ((A ++ x :: R ++ C).map (·.1))) → c1q t.1 t.2 (A.length : Int) (i : Int) (j : Int) ((A ++ x :: R ++ C).map (·.1)) := by
    intro c1 c2
    have w1 : IntKind.wrap .i64 ((((i + j) / 2 : Nat) : Int) + 1) = (((i + j) / 2 + 1 : Nat) : Int) := by rw [wrI (by omega) (by omega)]; simp
    have gx2 := gx
    rw [ex] at gx2 hcmp
    rw [ey] at gy hcmp
    apply m9q
    rw [midw (by omega), w1]
    refine a6q (decide_eq_true (by omega)) ⟨⟨F5q⟩, _, rfl, ⟨by rw [hlen]; omega⟩, _, rfl, _, _, _, gy, _, rfl, ⟨by rw [hlen]; omega⟩, _, rfl, _, _, _, gx2, _, hcmp, ?_⟩
    by_cases hlt : e5q y x
    ·exact a6q (decide_eq_true hlt) (c1 hlt)
    ·exact a2q (decide_eq_false hlt) (c2 hlt)
   refine ⟨fun hf hp => core (fun _ => hp) fun hn => ?_, fun hn hp => core (fun hlt => absurd ⟨y, hy, hlt⟩ hn) fun _ => hp⟩
   obtain ⟨y', hy', hlt⟩ := hf
   rw [hy] at hy'
   cases hy'
   exact absurd hlt hn) R.length (A.length + 1) (A.length + 1 + R.length) (by omega) (Nat.le_refl _) (by omega) (Nat.le_refl _) (.inl rfl) (.inl rfl)
 obtain ⟨q, rfl⟩ : ∃ q, k = A.length + 1 + q := ⟨k - (A.length + 1), by omega⟩
 have hq : q ≤ R.length := by omega
 have hsR : Sd e5q (R.take q ++ R.drop q) := by rw [List.take_append_drop]; exact hs
 obtain ⟨s1, s2, _⟩ := s7q.1 hsR
 have hR1 : ∀ y ∈ R.take q, e5q y x := by
  refine a0bq hO s1 ?_
  rcases k3 with h | ⟨y, hy, hlt⟩
  ·have : q = 0 := by omega
   subst this; exact .inl (by simp)
  ·by_cases h0 : q = 0
   ·subst h0; exact .inl (by simp)
   ·refine .inr ⟨y, ?_, hlt⟩
    rw [List.length_take, Nat.min_eq_left hq, List.getElem?_take_of_lt (by omega)]
    rw [← hy]; congr 1; omega
 have hR2 : ∀ y ∈ R.drop q, ¬ e5q y x := by
  refine I5q hO s2 ?_
  rcases k4 with h | h
  ·exact .inl (List.drop_eq_nil_of_le (by omega))
  ·by_cases h0 : q = R.length
   ·exact .inl (List.drop_eq_nil_of_le (by omega))
   ·obtain ⟨y, hy⟩ := d0q (l := R) (i := q) (by omega)
    refine .inr ⟨y, by rw [List.getElem?_drop]; simpa using hy, fun hlt => h ⟨y, ?_, hlt⟩⟩
    rw [← hy]; congr 1; omega
 refine ⟨R.take q ++ x :: R.drop q, ?_, R0q hO hsR hR2 (fun y hy => hO.asym (hR1 y hy)), k5 (_, _) ?_⟩
 ·refine List.perm_middle.trans ?_
  rw [List.take_append_drop]
 ·have h := a51q ((A.length + 1 + q : Nat) : Int) x (R.drop q ++ C) (R.take q) A (fun w hw => ht w (by
   have e : A ++ x :: R.take q ++ (R.drop q ++ C) = A ++ x :: R ++ C := by
    simp only [List.append_assoc, List.cons_append]; rw [← List.append_assoc (R.take q), List.take_append_drop]
   rw [e] at hw; exact hw)) (by simp; omega) (by simp; omega)
  have e1 : A ++ x :: R.take q ++ (R.drop q ++ C) = A ++ x :: R ++ C := by
   simp only [List.append_assoc, List.cons_append]; rw [← List.append_assoc (R.take q), List.take_append_drop]
  have e2 : A ++ R.take q ++ x :: (R.drop q ++ C) = A ++ (R.take q ++ x :: R.drop q) ++ C := by simp
  rw [e1, e2] at h
  exact h
theorem adAq (hO : SWO e5q) (A L C : List (List Da × Tm)) (x : List Da × Tm) (ht : ∀ z ∈ A ++ L ++ x :: C, TgP Tm.da z) (hl : (A ++ L ++ x :: C).length ≤ 3000000000000) (hs : Sd e5q L) : ∃ M, M.Perm (L ++ [x]) ∧ Sd e5q M ∧ c0q (.tup []) [(2000, .lst 30 3 ((A ++ M ++ C).map (·.1)))] ((A.length + L.length : Nat) : Int) (A.length : Int) ((A.length + L.length : Nat) : Int) ((A ++ L ++ x :: C).map (·.1)) := by
 have hl' : A.length + L.length + C.length + 1 ≤ 3000000000000 := by simp at hl; omega
 have hlen : ((A ++ L ++ x :: C).map (·.1)).length = A.length + L.length + C.length + 1 := by simp; omega
 have gx : ((A ++ L ++ x :: C).map (·.1))[A.length + L.length]? = some x.1 := by simp
 obtain ⟨k, k1, k2, k3, k4, k5⟩ := W8q (ι := AV × List (Nat × Ob)) (p := fun t i j => c0q t.1 t.2 ((A.length + L.length : Nat) : Int) (i : Int) (j : Int) ((A ++ L ++ x :: C).map (·.1))) (ex := fun t i => d9q t.1 t.2 (i : Int) ((A.length + L.length : Nat) : Int) ((A ++ L ++ x :: C).map (·.1)))
  (fun h => ∃ y, L[h - A.length]? = some y ∧ ¬ e5q x y) A.length (A.length + L.length) (fun t i _ _ h => by
   apply m4q
   exact a2q (decide_eq_false (by omega)) h) (fun t i j h1 h2 h3 => by
   obtain ⟨y, hy⟩ := d0q (l := L) (i := (i + j) / 2 - A.length) (by omega)
   have hym := List.mem_of_getElem? hy
   have hcmp := a32q (ht x (by simp)) (ht y (by simp [hym]))
   have gy := x1q (fun z : List Da × Tm => z.1) (P := A) (Q := x :: C) hy
   have eh : A.length + ((i + j) / 2 - A.length) = (i + j) / 2 := by omega
   rw [eh] at gy
   obtain ⟨_, _, _, ex⟩ := (ht x (by simp)).term
   obtain ⟨_, _, _, ey⟩ := (ht y (by simp [hym])).term
   have core : (¬ e5q x y → c0q t.1 t.2 ((A.length + L.length : Nat) : Int) (((i + j) / 2 + 1 : Nat) : Int) (j : Int) ((A ++ L ++ x :: C).map (·.1))) → (e5q x y → c0q t.1 t.2 ((A.length + L.length : Nat) : Int) (i : Int) (((i + j) / 2 : Nat) : Int) ((A ++ L ++ x :: C).map (·.1))) → c0q t.1 t.2 ((A.length + L.length : Nat) : Int) (i : Int) (j : Int) ((A ++ L ++ x :: C).map (·.1)) := by
    intro c1 c2
    have w1 : IntKind.wrap .i64 ((((i + j) / 2 : Nat) : Int) + 1) = (((i + j) / 2 + 1 : Nat) : Int) := by rw [wrI (by omega) (by omega)]; simp
    have gx2 := gx
    rw [ex] at gx2 hcmp
    rw [ey] at gy hcmp
    apply m4q
    rw [midw (by omega), w1]
    refine a6q (decide_eq_true (by omega)) ⟨⟨F5q⟩, _, rfl, ⟨by rw [hlen]; omega⟩, _, rfl, _, _, _, gx2, _, rfl, ⟨by rw [hlen]; omega⟩, _, rfl, _, _, _, gy, _, hcmp, ?_⟩
    by_cases hlt : e5q x y
    ·exact a2q (by rw [decide_eq_true (show Tm.cmp x.2 y.2 < 0 from hlt)]; rfl) (c2 hlt)
    ·exact a6q (by rw [decide_eq_false (show ¬ Tm.cmp x.2 y.2 < 0 from hlt)]; rfl) (c1 hlt)
   refine ⟨fun hf hp => core (fun _ => hp) fun hn => ?_, fun hn hp => core (fun hlt => absurd ⟨y, hy, hlt⟩ hn) fun _ => hp⟩
   obtain ⟨y', hy', hlt⟩ := hf
   rw [hy] at hy'
   cases hy'
   exact absurd hn hlt) L.length A.length (A.length + L.length) (by omega) (Nat.le_refl _) (by omega) (Nat.le_refl _) (.inl rfl) (.inl rfl)
 obtain ⟨q, rfl⟩ : ∃ q, k = A.length + q := ⟨k - A.length, by omega⟩
 have hq : q ≤ L.length := by omega
 have hsL : Sd e5q (L.take q ++ L.drop q) := by rw [List.take_append_drop]; exact hs
 obtain ⟨s1, s2, _⟩ := s7q.1 hsL
 have hL1 : ∀ y ∈ L.take q, ¬ e5q x y := by
  refine a08q hO s1 ?_
  by_cases h0 : q = 0
  ·subst h0; exact .inl (by simp)
  ·rcases k3 with h | ⟨y, hy, hlt⟩
   ·exact absurd (by omega) h0
   ·refine .inr ⟨y, ?_, hlt⟩
    rw [List.length_take, Nat.min_eq_left hq, List.getElem?_take_of_lt (by omega)]
    rw [← hy]; congr 1; omega
 have hL2 : ∀ y ∈ L.drop q, e5q x y := by
  refine a7lq hO s2 ?_
  by_cases h0 : q = L.length
  ·exact .inl (List.drop_eq_nil_of_le (by omega))
  ·rcases k4 with h | h
   ·exact absurd (by omega) h0
   ·obtain ⟨y, hy⟩ := d0q (l := L) (i := q) (by omega)
    refine .inr ⟨y, by rw [List.getElem?_drop]; simpa using hy, Classical.byContradiction fun hlt => h ⟨y, ?_, hlt⟩⟩
    rw [← hy]; congr 1; omega
 refine ⟨L.take q ++ x :: L.drop q, ?_, R0q hO hsL (fun y hy => hO.asym (hL2 y hy)) hL1, k5 (_, _) ?_⟩
 ·refine List.perm_middle.trans ?_
  rw [List.take_append_drop]
  exact (List.perm_append_singleton x L).symm
 ·have e1 : A ++ L.take q ++ L.drop q ++ x :: C = A ++ L ++ x :: C := by rw [List.append_assoc A, List.take_append_drop]
  have h := a6aq (A ++ L.take q) x (L.drop q).length (L.drop q) C rfl (by rw [e1]; exact ht) (by rw [e1]; exact hl)
  have e2 : A ++ L.take q ++ x :: L.drop q ++ C = A ++ (L.take q ++ x :: L.drop q) ++ C := by simp
  have e3 : (A ++ L.take q).length = A.length + q := by simp; omega
  have e4 : (A ++ L.take q ++ L.drop q).length = A.length + L.length := by simp
  rw [e1, e2, e3, e4] at h
  exact h
theorem aePq (hO : SWO e5q) (A L1 L2 R1 R2 C : List (List Da × Tm)) (a m b mid k e : Nat) (ha : a = A.length) (hk : k = a + L1.length) (hm : m = k + L2.length) (he : e = m + R1.length) (hb : b = e + R2.length) (hmid : mid = k + R1.length) (ht : ∀ z ∈ A ++ L1 ++ L2 ++ R1 ++ R2 ++ C, TgP Tm.da z) (hl : (A ++ L1 ++ L2 ++ R1 ++ R2 ++ C).length ≤ 3000000000000) (hL : Sd e5q (L1 ++ L2)) (hR : Sd e5q (R1 ++ R2))
  (f1 : (L1 = [] ∨ R2 = []) ∨ ∃ y0 z0, L1[L1.length - 1]? = some y0 ∧ R2[0]? = some z0 ∧ ¬ e5q z0 y0) (f2 : (L2 = [] ∨ R1 = []) ∨ ∃ y0 z0, L2[0]? = some y0 ∧ R1[R1.length - 1]? = some z0 ∧ e5q z0 y0)
  (ih : ∀ (A L R C : List (List Da × Tm)), (L ++ R).length < (L1 ++ L2 ++ R1 ++ R2).length → L ≠ [] → R ≠ [] → (∀ z ∈ A ++ L ++ R ++ C, TgP Tm.da z) → (A ++ L ++ R ++ C).length ≤ 3000000000000 → Sd e5q L → Sd e5q R → ∃ M, M.Perm (L ++ R) ∧ Sd e5q M ∧ XC pg 261 [.one (.ol 2000), Z (A.length : Int), Z ((A ++ L).length : Int), Z ((A ++ L ++ R).length : Int), .one (.d (.fn 143))] [(2000, .lst 30 3 ((A ++ L ++ R ++ C).map (·.1)))] (.tup []) [(2000, .lst 30 3 ((A ++ M ++ C).map (·.1)))])
  (hlt1 : (L1 ++ R1).length < (L1 ++ L2 ++ R1 ++ R2).length) (hlt2 : (L2 ++ R2).length < (L1 ++ L2 ++ R1 ++ R2).length) :
  ∃ M, M.Perm (L1 ++ L2 ++ (R1 ++ R2)) ∧ Sd e5q M ∧ ∀ s21 s22 : Int, s21 = k → b1q (.tup []) [(2000, .lst 30 3 ((A ++ M ++ C).map (·.1)))] (a : Int) (m : Int) (b : Int) (mid : Int) ((mid + m : Nat) : Int) (k : Int) s21 s22 ((A ++ L1 ++ L2 ++ R1 ++ R2 ++ C).map (·.1)) := by
 have hl' : A.length + L1.length + L2.length + R1.length + R2.length + C.length ≤ 3000000000000 := by simp at hl; omega
 obtain ⟨hs1, hs2, hs12⟩ := s7q.1 hL
 obtain ⟨hr1, hr2, hr12⟩ := s7q.1 hR
 obtain ⟨M1, p1, q1, z1, c1⟩ : ∃ M1, M1.Perm (L1 ++ R1) ∧ Sd e5q M1 ∧ ((L1 = [] ∨ R1 = []) → M1 = L1 ++ R1) ∧ (L1 ≠ [] → R1 ≠ [] → XC pg 261 [.one (.ol 2000), Z (a : Int), Z (k : Int), Z (mid : Int), .one (.d (.fn 143))] [(2000, .lst 30 3 ((A ++ L1 ++ R1 ++ L2 ++ R2 ++ C).map (·.1)))] (.tup []) [(2000, .lst 30 3 ((A ++ M1 ++ L2 ++ R2 ++ C).map (·.1)))]) := by
  by_cases h : L1 = [] ∨ R1 = []
  ·refine ⟨L1 ++ R1, .refl _, ?_, fun _ => rfl, fun h1 h2 => absurd h (by simp [h1, h2])⟩
   rcases h with rfl | rfl
   ·simpa using hr1
   ·simpa using hs1
  ·have h1 : L1 ≠ [] := fun e => h (.inl e)
   have h2 : R1 ≠ [] := fun e => h (.inr e)
   obtain ⟨M1, p, q, c⟩ := ih A L1 R1 (L2 ++ R2 ++ C) hlt1 h1 h2 (fun w hw => ht w (by simp at hw ⊢; grind)) (by simp; omega) hs1 hr1
   refine ⟨M1, p, q, fun e => absurd e h, fun _ _ => ?_⟩
   have e1 : (A ++ L1).length = k := by simp; omega
   have e2 : (A ++ L1 ++ R1).length = mid := by simp; omega
   have e3 : A ++ L1 ++ R1 ++ (L2 ++ R2 ++ C) = A ++ L1 ++ R1 ++ L2 ++ R2 ++ C := by simp
   have e4 : A ++ M1 ++ (L2 ++ R2 ++ C) = A ++ M1 ++ L2 ++ R2 ++ C := by simp
   rw [e1, e2, e3, e4, ← ha] at c
   exact c
 have pl1 := p1.length_eq
 simp only [List.length_append] at pl1
 obtain ⟨M2, p2, q2, z2, c2⟩ : ∃ M2, M2.Perm (L2 ++ R2) ∧ Sd e5q M2 ∧ ((L2 = [] ∨ R2 = []) → M2 = L2 ++ R2) ∧ (L2 ≠ [] → R2 ≠ [] → XC pg 261 [.one (.ol 2000), Z (mid : Int), Z (e : Int), Z (b : Int), .one (.d (.fn 143))] [(2000, .lst 30 3 ((A ++ M1 ++ L2 ++ R2 ++ C).map (·.1)))] (.tup []) [(2000, .lst 30 3 ((A ++ M1 ++ M2 ++ C).map (·.1)))]) := by
  by_cases h : L2 = [] ∨ R2 = []
  ·refine ⟨L2 ++ R2, .refl _, ?_, fun _ => rfl, fun h1 h2 => absurd h (by simp [h1, h2])⟩
   rcases h with rfl | rfl
   ·simpa using hr2
   ·simpa using hs2
  ·have h1 : L2 ≠ [] := fun e => h (.inl e)
   have h2 : R2 ≠ [] := fun e => h (.inr e)
   obtain ⟨M2, p, q, c⟩ := ih (A ++ M1) L2 R2 C hlt2 h1 h2 (fun w hw => ht w (by
    have hp : w ∈ M1 → w ∈ L1 ++ R1 := fun h => p1.subset h
    simp at hw hp ⊢; grind)) (by simp; omega) hs2 hr2
   refine ⟨M2, p, q, fun e => absurd e h, fun _ _ => ?_⟩
   have e1 : (A ++ M1).length = mid := by simp; omega
   have e2 : (A ++ M1 ++ L2).length = e := by simp; omega
   have e3 : (A ++ M1 ++ L2 ++ R2).length = b := by simp; omega
   rw [e1, e2, e3] at c
   exact c
 have hcross1 : ∀ x ∈ L1, ∀ y ∈ R2, ¬ e5q y x := fun x hx y hy => by
  rcases f1 with (h | h) | ⟨y0, z0, g1, g2, g3⟩
  ·simp [h] at hx
  ·simp [h] at hy
  ·exact I5q hO hr2 (.inr ⟨z0, g2, a08q hO hs1 (.inr ⟨y0, g1, g3⟩) x hx⟩) y hy
 have hcross2 : ∀ x ∈ R1, ∀ y ∈ L2, ¬ e5q y x := fun x hx y hy => by
  rcases f2 with (h | h) | ⟨y0, z0, g1, g2, g3⟩
  ·simp [h] at hy
  ·simp [h] at hx
  ·exact I5q hO hs2 (.inr ⟨y0, g1, hO.asym (a0bq hO hr1 (.inr ⟨z0, g2, g3⟩) x hx)⟩) y hy
 refine ⟨M1 ++ M2, ?_, s7q.2 ⟨q1, q2, fun x hx y hy => ?_⟩, fun s21 s22 h21 => ?_⟩
 ·refine (p1.append p2).trans ?_
  have e1 : L1 ++ R1 ++ (L2 ++ R2) = L1 ++ ((R1 ++ L2) ++ R2) := by simp
  have e2 : L1 ++ L2 ++ (R1 ++ R2) = L1 ++ ((L2 ++ R1) ++ R2) := by simp
  rw [e1, e2]
  exact (List.perm_append_comm.append_right R2).append_left L1
 ·have hx := p1.subset hx
  have hy := p2.subset hy
  rcases List.mem_append.1 hx with hx | hx <;> rcases List.mem_append.1 hy with hy | hy
  ·exact hs12 x hx y hy
  ·exact hcross1 x hx y hy
  ·exact hcross2 x hx y hy
  ·exact hr12 x hx y hy
 ·subst h21
  obtain ⟨D3, hD3⟩ : ∃ D3, D3 = A ++ M1 ++ M2 ++ C := ⟨_, rfl⟩
  have eO : A ++ (M1 ++ M2) ++ C = D3 := by rw [hD3]; simp
  rw [eO]
  have hRight : ifB (decide ((mid : Int) < ((e : Nat) : Int))) (ifB (decide (((e : Nat) : Int) < (b : Int))) (∃ xs', XC pg 261 [.one (.ol 2000), Z (mid : Int), Z ((e : Nat) : Int), Z (b : Int), .one (.d (.fn 143))] [(2000, .lst 30 3 ((A ++ M1 ++ L2 ++ R2 ++ C).map (·.1)))] (.tup []) [(2000, .lst 30 3 xs')] ∧ ((AV.tup []) = .tup [] ∧ [((2000 : Nat), Ob.lst 30 3 (xs'))] = [(2000, Ob.lst 30 3 (D3.map (·.1)))])) ((AV.tup []) = .tup [] ∧ [((2000 : Nat), Ob.lst 30 3 ((A ++ M1 ++ L2 ++ R2 ++ C).map (·.1)))] = [(2000, Ob.lst 30 3 (D3.map (·.1)))])) ((AV.tup []) = .tup [] ∧ [((2000 : Nat), Ob.lst 30 3 ((A ++ M1 ++ L2 ++ R2 ++ C).map (·.1)))] = [(2000, Ob.lst 30 3 (D3.map (·.1)))]) := by
   by_cases h2 : L2 = []
   ·refine a2q (decide_eq_false (by subst h2; simp at hm; omega)) ⟨rfl, ?_⟩
    rw [hD3, z2 (.inl h2)]; simp
   ·have := List.length_pos_iff.2 h2
    refine a6q (decide_eq_true (by omega)) ?_
    by_cases h3 : R2 = []
    ·refine a2q (decide_eq_false (by subst h3; simp at hb; omega)) ⟨rfl, ?_⟩
     rw [hD3, z2 (.inr h3)]; simp
    ·have := List.length_pos_iff.2 h3
     exact a6q (decide_eq_true (by omega)) ⟨_, c2 h2 h3, rfl, by rw [hD3]⟩
  have hLeft : ifB (decide ((a : Int) < (k : Int))) (ifB (decide ((k : Int) < (mid : Int))) (∃ xs1, XC pg 261 [.one (.ol 2000), Z (a : Int), Z (k : Int), Z (mid : Int), .one (.d (.fn 143))] [(2000, .lst 30 3 ((A ++ L1 ++ R1 ++ L2 ++ R2 ++ C).map (·.1)))] (.tup []) [(2000, .lst 30 3 xs1)] ∧ ifB (decide ((mid : Int) < ((e : Nat) : Int))) (ifB (decide (((e : Nat) : Int) < (b : Int))) (∃ xs', XC pg 261 [.one (.ol 2000), Z (mid : Int), Z ((e : Nat) : Int), Z (b : Int), .one (.d (.fn 143))] [(2000, .lst 30 3 (xs1))] (.tup []) [(2000, .lst 30 3 xs')] ∧ ((AV.tup []) = .tup [] ∧ [((2000 : Nat), Ob.lst 30 3 (xs'))] = [(2000, Ob.lst 30 3 (D3.map (·.1)))])) ((AV.tup []) = .tup [] ∧ [((2000 : Nat), Ob.lst 30 3 (xs1))] = [(2000, Ob.lst 30 3 (D3.map (·.1)))])) ((AV.tup []) = .tup [] ∧ [((2000 : Nat), Ob.lst 30 3 (xs1))] = [(2000, Ob.lst 30 3 (D3.map (·.1)))])) (ifB (decide ((mid : Int) < ((e : Nat) : Int))) (ifB (decide (((e : Nat) : Int) < (b : Int))) (∃ xs', XC pg 261 [.one (.ol 2000), Z (mid : Int), Z ((e : Nat) : Int), Z (b : Int), .one (.d (.fn 143))] [(2000, .lst 30 3 ((A ++ L1 ++ R1 ++ L2 ++ R2 ++ C).map (·.1)))] (.tup []) [(2000, .lst 30 3 xs')] ∧ ((AV.tup []) = .tup [] ∧ [((2000 : Nat), Ob.lst 30 3 (xs'))] = [(2000, Ob.lst 30 3 (D3.map (·.1)))])) ((AV.tup []) = .tup [] ∧ [((2000 : Nat), Ob.lst 30 3 ((A ++ L1 ++ R1 ++ L2 ++ R2 ++ C).map (·.1)))] = [(2000, Ob.lst 30 3 (D3.map (·.1)))])) ((AV.tup []) = .tup [] ∧ [((2000 : Nat), Ob.lst 30 3 ((A ++ L1 ++ R1 ++ L2 ++ R2 ++ C).map (·.1)))] = [(2000, Ob.lst 30 3 (D3.map (·.1)))]))) (ifB (decide ((mid : Int) < ((e : Nat) : Int))) (ifB (decide (((e : Nat) : Int) < (b : Int))) (∃ xs', XC pg 261 [.one (.ol 2000), Z (mid : Int), Z ((e : Nat) : Int), Z (b : Int), .one (.d (.fn 143))] [(2000, .lst 30 3 ((A ++ L1 ++ R1 ++ L2 ++ R2 ++ C).map (·.1)))] (.tup []) [(2000, .lst 30 3 xs')] ∧ ((AV.tup []) = .tup [] ∧ [((2000 : Nat), Ob.lst 30 3 (xs'))] = [(2000, Ob.lst 30 3 (D3.map (·.1)))])) ((AV.tup []) = .tup [] ∧ [((2000 : Nat), Ob.lst 30 3 ((A ++ L1 ++ R1 ++ L2 ++ R2 ++ C).map (·.1)))] = [(2000, Ob.lst 30 3 (D3.map (·.1)))])) ((AV.tup []) = .tup [] ∧ [((2000 : Nat), Ob.lst 30 3 ((A ++ L1 ++ R1 ++ L2 ++ R2 ++ C).map (·.1)))] = [(2000, Ob.lst 30 3 (D3.map (·.1)))])) := by
   by_cases h2 : L1 = []
   ·refine a2q (decide_eq_false (by subst h2; simp at hk; omega)) ?_
    rw [z1 (.inl h2)] at hRight
    simpa using hRight
   ·have := List.length_pos_iff.2 h2
    refine a6q (decide_eq_true (by omega)) ?_
    by_cases h3 : R1 = []
    ·refine a2q (decide_eq_false (by subst h3; simp at hmid; omega)) ?_
     rw [z1 (.inr h3)] at hRight
     simpa using hRight
    ·have := List.length_pos_iff.2 h3
     exact a6q (decide_eq_true (by omega)) ⟨_, c1 h2 h3, hRight⟩
  have w : IntKind.wrap .i64 (((mid + m : Nat) : Int) - (k : Int)) = ((e : Nat) : Int) := by rw [wrI (by omega) (by omega)]; omega
  apply m2q
  rw [w]
  refine a2q (decide_eq_false (by omega)) ?_
  by_cases h2 : L2 = []
  ·refine a2q (decide_eq_false (by subst h2; simp at hm; omega)) ?_
   have e1 : A ++ L1 ++ L2 ++ R1 ++ R2 ++ C = A ++ L1 ++ R1 ++ L2 ++ R2 ++ C := by subst h2; simp
   rw [e1]
   exact hLeft
  ·have := List.length_pos_iff.2 h2
   refine a6q (decide_eq_true (by omega)) ?_
   by_cases h3 : R1 = []
   ·refine a2q (decide_eq_false (by subst h3; simp at he; omega)) ?_
    have e1 : A ++ L1 ++ L2 ++ R1 ++ R2 ++ C = A ++ L1 ++ R1 ++ L2 ++ R2 ++ C := by subst h3; simp
    rw [e1]
    exact hLeft
   ·have := List.length_pos_iff.2 h3
    have c := a7Hq (A ++ L1) L2 R1 (R2 ++ C) h2 h3 (fun w hw => ht w (by simp at hw ⊢; grind)) (by simp; omega)
    have e1 : A ++ L1 ++ L2 ++ R1 ++ (R2 ++ C) = A ++ L1 ++ L2 ++ R1 ++ R2 ++ C := by simp
    have e2 : A ++ L1 ++ R1 ++ L2 ++ (R2 ++ C) = A ++ L1 ++ R1 ++ L2 ++ R2 ++ C := by simp
    have e3 : (A ++ L1).length = k := by simp; omega
    have e4 : (A ++ L1 ++ L2).length = m := by simp; omega
    have e5 : (A ++ L1 ++ L2 ++ R1).length = e := by simp; omega
    rw [e1, e2, e3, e4, e5] at c
    exact a6q (decide_eq_true (by omega)) ⟨_, c, hLeft⟩
theorem ab4q (A L R C : List (List Da × Tm)) (a m b mid lo hi : Nat) (ha : a = A.length) (hm : m = a + L.length) (hb : b = m + R.length) (hlh : lo ≤ hi) (hla : a ≤ lo) (hhm : hi ≤ m) (hc : ∀ c, lo ≤ c → c < hi → m + c ≤ mid + m - 1 ∧ mid + m - 1 - c < b) (ht : ∀ z ∈ A ++ L ++ R ++ C, TgP Tm.da z) (hl : (A ++ L ++ R ++ C).length ≤ 3000000000000) (hmid : mid ≤ 3000000000000) :
  ∃ k, lo ≤ k ∧ k ≤ hi ∧ (k = lo ∨ ∃ y z, L[k - 1 - a]? = some y ∧ R[mid + m - 1 - (k - 1) - m]? = some z ∧ ¬ e5q z y) ∧ (k = hi ∨ ¬ ∃ y z, L[k - a]? = some y ∧ R[mid + m - 1 - k - m]? = some z ∧ ¬ e5q z y) ∧
  ∀ t : AV × List (Nat × Ob), b1q t.1 t.2 (a : Int) (m : Int) (b : Int) (mid : Int) ((mid + m : Nat) : Int) (k : Int) (k : Int) ((mid + m - 1 : Nat) : Int) ((A ++ L ++ R ++ C).map (·.1)) → b1q t.1 t.2 (a : Int) (m : Int) (b : Int) (mid : Int) ((mid + m : Nat) : Int) (lo : Int) (hi : Int) ((mid + m - 1 : Nat) : Int) ((A ++ L ++ R ++ C).map (·.1)) := by
 have hl' : A.length + L.length + R.length + C.length ≤ 3000000000000 := by simp at hl; omega
 have hlen : ((A ++ L ++ R ++ C).map (·.1)).length = A.length + L.length + R.length + C.length := by simp; omega
 refine W8q (ι := AV × List (Nat × Ob)) (p := fun t i j => b1q t.1 t.2 (a : Int) (m : Int) (b : Int) (mid : Int) ((mid + m : Nat) : Int) (i : Int) (j : Int) ((mid + m - 1 : Nat) : Int) ((A ++ L ++ R ++ C).map (·.1))) (ex := fun t i => b1q t.1 t.2 (a : Int) (m : Int) (b : Int) (mid : Int) ((mid + m : Nat) : Int) (i : Int) (i : Int) ((mid + m - 1 : Nat) : Int) ((A ++ L ++ R ++ C).map (·.1)))
  (fun c => ∃ y z, L[c - a]? = some y ∧ R[mid + m - 1 - c - m]? = some z ∧ ¬ e5q z y) lo hi (fun t i _ _ h => h) (fun t i j h1 h2 h3 => ?_) (hi - lo) lo hi (Nat.le_refl _) (Nat.le_refl _) hlh (Nat.le_refl _) (.inl rfl) (.inl rfl)
 obtain ⟨hc1, hc2⟩ := hc ((i + j) / 2) (by omega) (by omega)
 obtain ⟨y, hy⟩ := d0q (l := L) (i := (i + j) / 2 - a) (by omega)
 obtain ⟨z, hz⟩ := d0q (l := R) (i := mid + m - 1 - (i + j) / 2 - m) (by omega)
 have hym := List.mem_of_getElem? hy
 have hzm := List.mem_of_getElem? hz
 have hcmp := a32q (ht z (by simp [hzm])) (ht y (by simp [hym]))
 have gy := x1q (fun z : List Da × Tm => z.1) (P := A) (Q := R ++ C) hy
 have gz := x1q (fun z : List Da × Tm => z.1) (P := A ++ L) (Q := C) hz
 have eh : A.length + ((i + j) / 2 - a) = (i + j) / 2 := by omega
 have eg : (A ++ L).length + (mid + m - 1 - (i + j) / 2 - m) = mid + m - 1 - (i + j) / 2 := by simp; omega
 have eD : A ++ L ++ (R ++ C) = A ++ L ++ R ++ C := by simp
 rw [eh, eD] at gy
 rw [eg] at gz
 obtain ⟨_, _, _, ez⟩ := (ht z (by simp [hzm])).term
 obtain ⟨_, _, _, ey⟩ := (ht y (by simp [hym])).term
 have core : (¬ e5q z y → b1q t.1 t.2 (a : Int) (m : Int) (b : Int) (mid : Int) ((mid + m : Nat) : Int) (((i + j) / 2 + 1 : Nat) : Int) (j : Int) ((mid + m - 1 : Nat) : Int) ((A ++ L ++ R ++ C).map (·.1))) → (e5q z y → b1q t.1 t.2 (a : Int) (m : Int) (b : Int) (mid : Int) ((mid + m : Nat) : Int) (i : Int) (((i + j) / 2 : Nat) : Int) ((mid + m - 1 : Nat) : Int) ((A ++ L ++ R ++ C).map (·.1))) → b1q t.1 t.2 (a : Int) (m : Int) (b : Int) (mid : Int) ((mid + m : Nat) : Int) (i : Int) (j : Int) ((mid + m - 1 : Nat) : Int) ((A ++ L ++ R ++ C).map (·.1)) := by
  intro c1 c2
  have w1 : IntKind.wrap .i64 ((((i + j) / 2 : Nat) : Int) + 1) = (((i + j) / 2 + 1 : Nat) : Int) := by rw [wrI (by omega) (by omega)]; simp
  have w2 : IntKind.wrap .i64 (((mid + m - 1 : Nat) : Int) - (((i + j) / 2 : Nat) : Int)) = ((mid + m - 1 - (i + j) / 2 : Nat) : Int) := by rw [wrI (by omega) (by omega)]; omega
  rw [ez] at gz hcmp
  rw [ey] at gy hcmp
  apply m2q
  rw [midw (by omega), w1, w2]
  refine a6q (decide_eq_true (by omega)) ⟨⟨F5q⟩, _, rfl, ⟨by rw [hlen]; omega⟩, _, rfl, _, _, _, gz, _, rfl, ⟨by rw [hlen]; omega⟩, _, rfl, _, _, _, gy, _, hcmp, ?_⟩
  by_cases hlt : e5q z y
  ·exact a2q (by rw [decide_eq_true (show Tm.cmp z.2 y.2 < 0 from hlt)]; rfl) (c2 hlt)
  ·exact a6q (by rw [decide_eq_false (show ¬ Tm.cmp z.2 y.2 < 0 from hlt)]; rfl) (c1 hlt)
 refine ⟨fun hf hp => core (fun _ => hp) fun hn => ?_, fun hn hp => core (fun hlt => absurd ⟨y, z, hy, hz, hlt⟩ hn) fun _ => hp⟩
 obtain ⟨y', z', hy', hz', hlt⟩ := hf
 rw [hy] at hy'
 rw [hz] at hz'
 cases hy'
 cases hz'
 exact absurd hn hlt
theorem a0sq (hO : SWO e5q) : ∀ (n : Nat) (A L R C : List (List Da × Tm)), (L ++ R).length ≤ n → L ≠ [] → R ≠ [] → (∀ z ∈ A ++ L ++ R ++ C, TgP Tm.da z) → (A ++ L ++ R ++ C).length ≤ 3000000000000 → Sd e5q L → Sd e5q R → ∃ M, M.Perm (L ++ R) ∧ Sd e5q M ∧ XC pg 261 [.one (.ol 2000), Z (A.length : Int), Z ((A ++ L).length : Int), Z ((A ++ L ++ R).length : Int), .one (.d (.fn 143))] [(2000, .lst 30 3 ((A ++ L ++ R ++ C).map (·.1)))] (.tup []) [(2000, .lst 30 3 ((A ++ M ++ C).map (·.1)))] := by
 intro n
 induction n with
 | zero =>
  intro A L R C hn hL _ _ _ _ _
  exact absurd (List.eq_nil_of_length_eq_zero (by simp at hn; simp [hn])) hL
 | succ n ih =>
  intro A L R C hn hL hR ht hl hsL hsR
  have hL' := List.length_pos_iff.2 hL
  have hR' := List.length_pos_iff.2 hR
  have hl' : A.length + L.length + R.length + C.length ≤ 3000000000000 := by simp at hl; omega
  have hn' : L.length + R.length ≤ n + 1 := by simpa using hn
  have em : (A ++ L).length = A.length + L.length := by simp
  have eb : (A ++ L ++ R).length = A.length + L.length + R.length := by simp; omega
  have w1 : IntKind.wrap .i64 (((A.length + L.length : Nat) : Int) - (A.length : Int)) = (L.length : Int) := by rw [wrI (by omega) (by omega)]; omega
  have w2 : IntKind.wrap .i64 (((A.length + L.length + R.length : Nat) : Int) - ((A.length + L.length : Nat) : Int)) = (R.length : Int) := by rw [wrI (by omega) (by omega)]; omega
  rw [em, eb]
  by_cases h1 : L.length = 1
  ·obtain ⟨x, rfl⟩ : ∃ x, L = [x] := List.length_eq_one_iff.1 h1
   obtain ⟨M, p1, p2, p3⟩ := afaq hO A R C x (by simpa using ht) (by simpa using hl) hsR
   refine ⟨M, p1, p2, ?_⟩
   apply h8q
   rw [w1]
   refine a6q (decide_eq_true (by omega)) ?_
   have e1 : A ++ [x] ++ R ++ C = A ++ x :: R ++ C := by simp
   rw [e1]
   exact p3
  ·by_cases h2 : R.length = 1
   ·obtain ⟨x, rfl⟩ : ∃ x, R = [x] := List.length_eq_one_iff.1 h2
    obtain ⟨M, p1, p2, p3⟩ := adAq hO A L C x (by simpa using ht) (by simpa using hl) hsL
    refine ⟨M, p1, p2, ?_⟩
    apply h8q
    rw [w1, w2]
    refine a2q (decide_eq_false (by omega)) (a6q (decide_eq_true (by omega)) ?_)
    have e1 : A ++ L ++ [x] ++ C = A ++ L ++ x :: C := by simp
    rw [e1]
    exact p3
   ·obtain ⟨a, ha⟩ : ∃ a, a = A.length := ⟨_, rfl⟩
    obtain ⟨m, hm⟩ : ∃ m, m = a + L.length := ⟨_, rfl⟩
    obtain ⟨b, hb⟩ : ∃ b, b = m + R.length := ⟨_, rfl⟩
    rw [← ha, ← hm] at w1
    rw [← ha, ← hm, ← hb] at w2 ⊢
    obtain ⟨mid, hmid⟩ : ∃ mid, mid = (a + b) / 2 := ⟨_, rfl⟩
    have wm : IntKind.wrap .i64 (((mid : Nat) : Int) + (m : Int)) = ((mid + m : Nat) : Int) := by rw [wrI (by omega) (by omega)]; simp
    have wp : IntKind.wrap .i64 (((mid + m : Nat) : Int) - 1) = ((mid + m - 1 : Nat) : Int) := by rw [wrI (by omega) (by omega)]; omega
    have hcases : ∃ lo hi, lo ≤ hi ∧ a ≤ lo ∧ hi ≤ m ∧ hi ≤ mid ∧ mid + m ≤ b + lo ∧ (∀ c, lo ≤ c → c < hi → m + c ≤ mid + m - 1 ∧ mid + m - 1 - c < b) ∧ (lo = a ∨ mid + m = b + lo) ∧ (hi = m ∨ hi = mid) ∧
      ∀ (r : AV) (O : List (Nat × Ob)), b1q r O (a : Int) (m : Int) (b : Int) (mid : Int) ((mid + m : Nat) : Int) (lo : Int) (hi : Int) ((mid + m - 1 : Nat) : Int) ((A ++ L ++ R ++ C).map (·.1)) → XC pg 261 [.one (.ol 2000), Z (a : Int), Z (m : Int), Z (b : Int), .one (.d (.fn 143))] [(2000, .lst 30 3 ((A ++ L ++ R ++ C).map (·.1)))] r O := by
     by_cases hgt : mid < m
     ·refine ⟨mid + m - b, mid, by omega, by omega, by omega, by omega, by omega, fun c h1 h2 => by omega, by omega, .inr rfl, fun r O h => ?_⟩
      have w3 : IntKind.wrap .i64 (((mid + m : Nat) : Int) - (b : Int)) = ((mid + m - b : Nat) : Int) := by rw [wrI (by omega) (by omega)]; omega
      apply h8q
      rw [w1, w2, midw (by omega), ← hmid, wm, wp, w3]
      exact a2q (decide_eq_false (by omega)) (a2q (decide_eq_false (by omega)) ⟨⟨F5q⟩, a6q (decide_eq_true (by omega)) h⟩)
     ·refine ⟨a, m, by omega, by omega, by omega, by omega, by omega, fun c h1 h2 => by omega, .inl rfl, .inl rfl, fun r O h => ?_⟩
      apply h8q
      rw [w1, w2, midw (by omega), ← hmid, wm, wp]
      exact a2q (decide_eq_false (by omega)) (a2q (decide_eq_false (by omega)) ⟨⟨F5q⟩, a2q (decide_eq_false (by omega)) h⟩)
    obtain ⟨lo, hi, c1, c2, c3, c4, c5, c6, c7, c8, c9⟩ := hcases
    obtain ⟨k, k1, k2, k3, k4, k5⟩ := ab4q A L R C a m b mid lo hi ha hm hb c1 c2 c3 c6 ht hl (by omega)
    obtain ⟨L1, L2, rfl, hL1⟩ : ∃ L1 L2, L = L1 ++ L2 ∧ L1.length = k - a := ⟨L.take (k - a), L.drop (k - a), by simp, by simp; omega⟩
    obtain ⟨R1, R2, rfl, hR1⟩ : ∃ R1 R2, R = R1 ++ R2 ∧ R1.length = mid - k := ⟨R.take (mid - k), R.drop (mid - k), by simp, by simp; omega⟩
    rw [List.length_append] at hm hb
    have f1 : (L1 = [] ∨ R2 = []) ∨ ∃ y0 z0, L1[L1.length - 1]? = some y0 ∧ R2[0]? = some z0 ∧ ¬ e5q z0 y0 := by
     by_cases hk0 : k = lo
     ·left
      rcases c7 with h | h
      ·exact .inl (List.eq_nil_of_length_eq_zero (by omega))
      ·exact .inr (List.eq_nil_of_length_eq_zero (by omega))
     ·right
      rcases k3 with h | ⟨y, z, hy, hz, hlt⟩
      ·exact absurd h hk0
      ·refine ⟨y, z, ?_, ?_, hlt⟩
       ·rw [← hy, List.getElem?_append_left (by omega)]; congr 1; omega
       ·rw [← hz, List.getElem?_append_right (by omega)]; congr 1; omega
    have f2 : (L2 = [] ∨ R1 = []) ∨ ∃ y0 z0, L2[0]? = some y0 ∧ R1[R1.length - 1]? = some z0 ∧ e5q z0 y0 := by
     by_cases hk0 : k = hi
     ·left
      rcases c8 with h | h
      ·exact .inl (List.eq_nil_of_length_eq_zero (by omega))
      ·exact .inr (List.eq_nil_of_length_eq_zero (by omega))
     ·right
      have hc := c6 k k1 (by omega)
      obtain ⟨y, hy⟩ := d0q (l := L2) (i := 0) (by omega)
      obtain ⟨z, hz⟩ := d0q (l := R1) (i := R1.length - 1) (by omega)
      refine ⟨y, z, hy, hz, Classical.byContradiction fun hlt => ?_⟩
      rcases k4 with h | h
      ·exact hk0 h
      ·refine h ⟨y, z, ?_, ?_, hlt⟩
       ·rw [← hy, List.getElem?_append_right (by omega)]; congr 1; omega
       ·rw [← hz, List.getElem?_append_left (by omega)]; congr 1; omega
    have eD : A ++ (L1 ++ L2) ++ (R1 ++ R2) ++ C = A ++ L1 ++ L2 ++ R1 ++ R2 ++ C := by simp
    have hfacts : k = a + L1.length ∧ m = k + L2.length ∧ b = m + R1.length + R2.length ∧ mid = k + R1.length := by
     clear c7 c8 c9 k3 k4 k5 f1 f2 c6 w1 w2 wm wp ih ht hl
     omega
    have hsz : mid < b ∧ a < mid := by
     clear c7 c8 c9 k3 k4 k5 f1 f2 c6 w1 w2 wm wp ih ht hl
     simp only [List.length_append] at h1 h2 hL' hR'
     omega
    have hsum : (L1 ++ L2 ++ R1 ++ R2).length = L1.length + L2.length + R1.length + R2.length := by simp; omega
    have hs1 : (L1 ++ R1).length < (L1 ++ L2 ++ R1 ++ R2).length := by
     clear c7 c8 c9 k3 k4 k5 f1 f2 c6 w1 w2 wm wp ih ht hl
     rw [hsum, List.length_append]; omega
    have hs2 : (L2 ++ R2).length < (L1 ++ L2 ++ R1 ++ R2).length := by
     clear c7 c8 c9 k3 k4 k5 f1 f2 c6 w1 w2 wm wp ih ht hl
     rw [hsum, List.length_append]; omega
    have hn2 : (L1 ++ L2 ++ R1 ++ R2).length ≤ n + 1 := by
     rw [hsum]; simp only [List.length_append] at hn'; omega
    obtain ⟨g1, g2, g3, g4⟩ := hfacts
    obtain ⟨M, p1, p2, p3⟩ := aePq hO A L1 L2 R1 R2 C a m b mid k (m + R1.length) ha g1 g2 rfl g3 g4 (by rw [← eD]; exact ht) (by rw [← eD]; exact hl) hsL hsR f1 f2 (fun A' L' R' C' hlt h1 h2 h3 h4 h5 h6 => ih A' L' R' C' (Nat.le_of_lt_succ (Nat.lt_of_lt_of_le hlt hn2)) h1 h2 h3 h4 h5 h6) hs1 hs2
    refine ⟨M, p1, p2, c9 _ _ (k5 (_, _) ?_)⟩
    rw [eD]
    exact p3 _ _ rfl
inductive O8q (k : Nat) : List (List Da × Tm) → Prop
 | last {l} : l.length ≤ k → Sd e5q l → O8q k l
 | cons {b r} : b.length = k → Sd e5q b → O8q k r → O8q k (b ++ r)
theorem a1Fq {k : Nat} (hk : 0 < k) {l : List (List Da × Tm)} (h : O8q k l) (hl : l.length ≤ k) : Sd e5q l := by
 cases h with
 | last _ h => exact h
 | @cons b r h1 h2 _ =>
  have : r = [] := List.eq_nil_of_length_eq_zero (by simp at hl; omega)
  subst this
  simpa using h2
theorem aatq (hO : SWO e5q) (k : Nat) (hk : 0 < k) (hk2 : k ≤ 6000000000000) : ∀ (n : Nat) (D S : List (List Da × Tm)), S.length ≤ n → (∀ z ∈ D ++ S, TgP Tm.da z) → (D ++ S).length ≤ 3000000000000 → O8q k S → ∃ S', S'.Perm S ∧ O8q (2 * k) S' ∧ ∀ (r : AV) (O : List (Nat × Ob)), c8q r O ((D ++ S).length : Int) ((2 * k : Nat) : Int) ((D ++ S').map (·.1)) → g0q r O ((D ++ S).length : Int) (k : Int) (D.length : Int) ((D.length + 2 * k : Nat) : Int) ((D ++ S).map (·.1)) := by
 intro n
 induction n with
 | zero =>
  intro D S hn ht hl hb
  have : S = [] := List.eq_nil_of_length_eq_zero (by omega)
  subst this
  refine ⟨[], .refl _, .last (by simp) .nil, fun r O h => ?_⟩
  have w1 : IntKind.wrap .i64 ((D.length : Int) + (k : Int)) = ((D.length + k : Nat) : Int) := by rw [wrI (by omega) (by simp at hl; omega)]; simp
  have w2 : IntKind.wrap .i64 ((k : Int) * 2) = ((2 * k : Nat) : Int) := by rw [wrI (by omega) (by omega)]; omega
  apply h4q
  rw [w1, w2]
  exact a2q (decide_eq_false (by simp; omega)) (a2q (decide_eq_false (by simp; omega)) h)
 | succ n ih =>
  intro D S hn ht hl hb
  have hl' : D.length + S.length ≤ 3000000000000 := by simpa using hl
  have hlen : (D ++ S).length = D.length + S.length := by simp
  have w1 : IntKind.wrap .i64 ((D.length : Int) + (k : Int)) = ((D.length + k : Nat) : Int) := by rw [wrI (by omega) (by omega)]; simp
  have w2 : IntKind.wrap .i64 ((k : Int) * 2) = ((2 * k : Nat) : Int) := by rw [wrI (by omega) (by omega)]; omega
  have w3 : IntKind.wrap .i64 (2 * (k : Int)) = ((2 * k : Nat) : Int) := by rw [wrI (by omega) (by omega)]; omega
  have w4 : IntKind.wrap .i64 (((D.length + 2 * k : Nat) : Int) + ((2 * k : Nat) : Int)) = ((D.length + 2 * k + 2 * k : Nat) : Int) := by rw [wrI (by omega) (by omega)]; omega
  by_cases h1 : S.length ≤ k
  ·refine ⟨S, .refl _, .last (by omega) (a1Fq hk hb h1), fun r O h => ?_⟩
   apply h4q
   rw [w1, w2]
   exact a2q (decide_eq_false (by omega)) (a2q (decide_eq_false (by omega)) h)
  ·obtain ⟨b1, S1, rfl, hb1, hs1, hb2⟩ : ∃ b1 S1, S = b1 ++ S1 ∧ b1.length = k ∧ Sd e5q b1 ∧ O8q k S1 := by
    cases hb with
    | last h _ => exact absurd h h1
    | cons h2 h3 h4 => exact ⟨_, _, rfl, h2, h3, h4⟩
   simp only [List.length_append] at h1 hn hl'
   have hlen : (D ++ (b1 ++ S1)).length = D.length + (b1.length + S1.length) := by simp
   by_cases h2 : S1.length < k
   ·have hs2 := a1Fq hk hb2 (by omega)
    obtain ⟨M, p1, p2, p3⟩ := a0sq hO _ D b1 S1 [] (Nat.le_refl _) (by intro h; subst h; simp at hb1; omega) (by intro h; subst h; simp at h1; omega) (by simpa using ht) (by simpa using hl) hs1 hs2
    refine ⟨M, p1, .last (by rw [p1.length_eq]; simp; omega) p2, fun r O h => ?_⟩
    apply h4q
    rw [w1, w2]
    have e1 : (D ++ b1).length = D.length + k := by simp [hb1]
    have e2 : (D ++ b1 ++ S1).length = (D ++ (b1 ++ S1)).length := by simp <;> omega
    have e3 : D ++ b1 ++ S1 ++ [] = D ++ (b1 ++ S1) := by simp
    rw [e1, e2, e3, List.append_nil] at p3
    exact a2q (decide_eq_false (by omega)) (a6q (decide_eq_true (by omega)) ⟨_, p3, h⟩)
   ·obtain ⟨b2, S2, rfl, hb2l, hs2, hb3⟩ : ∃ b2 S2, S1 = b2 ++ S2 ∧ b2.length = k ∧ Sd e5q b2 ∧ O8q k S2 := by
     cases hb2 with
     | last g g' => exact ⟨_, [], by simp, by omega, g', .last (by simp) .nil⟩
     | cons g2 g3 g4 => exact ⟨_, _, rfl, g2, g3, g4⟩
    simp only [List.length_append] at h1 h2 hn hl'
    have hlen : (D ++ (b1 ++ (b2 ++ S2))).length = D.length + (b1.length + (b2.length + S2.length)) := by simp
    obtain ⟨M, p1, p2, p3⟩ := a0sq hO _ D b1 b2 S2 (Nat.le_refl _) (by intro h; subst h; simp at hb1; omega) (by intro h; subst h; simp at hb2l; omega) (by simpa using ht) (by simpa using hl) hs1 hs2
    have pl := p1.length_eq
    simp only [List.length_append] at pl
    obtain ⟨S', q1, q2, q3⟩ := ih (D ++ M) S2 (by omega) (fun w hw => ht w (by
     have hp : w ∈ M → w ∈ b1 ++ b2 := fun h => p1.subset h
     simp at hw hp ⊢; grind)) (by simp; omega) hb3
    refine ⟨M ++ S', ?_, .cons (by omega) p2 q2, fun r O h => ?_⟩
    ·have := (p1.append q1)
     simpa using this
    ·have e4 : D ++ M ++ S' = D ++ (M ++ S') := by simp
     have e5 : (D ++ M ++ S2).length = (D ++ (b1 ++ (b2 ++ S2))).length := by simp; omega
     have e6 : (D ++ M).length = D.length + 2 * k := by simp; omega
     have h5 := q3 r O
     rw [e4, e5, e6] at h5
     have e1 : (D ++ b1).length = D.length + k := by simp [hb1]
     have e2 : (D ++ b1 ++ b2).length = D.length + 2 * k := by simp; omega
     have e3 : D ++ b1 ++ b2 ++ S2 = D ++ (b1 ++ (b2 ++ S2)) := by simp
     rw [e1, e2, e3] at p3
     apply h4q
     rw [w1, w3, w4]
     exact a6q (decide_eq_true (by omega)) ⟨_, p3, h5 h⟩
theorem abhq (hO : SWO e5q) : ∀ (n k : Nat) (S : List (List Da × Tm)), S.length ≤ n + k → 0 < k → k ≤ 6000000000000 → (∀ z ∈ S, TgP Tm.da z) → S.length ≤ 3000000000000 → O8q k S → ∃ S', S'.Perm S ∧ Sd e5q S' ∧ c8q (.tup []) [(2000, .lst 30 3 ((S').map (·.1)))] (S.length : Int) (k : Int) (S.map (·.1)) := by
 intro n
 induction n with
 | zero =>
  intro k S hn hk hk2 ht hl hb
  refine ⟨S, .refl _, a1Fq hk hb (by omega), ?_⟩
  apply j3q
  exact a2q (decide_eq_false (by omega)) ⟨rfl, rfl⟩
 | succ n ih =>
  intro k S hn hk hk2 ht hl hb
  by_cases h : S.length ≤ k
  ·refine ⟨S, .refl _, a1Fq hk hb h, ?_⟩
   apply j3q
   exact a2q (decide_eq_false (by omega)) ⟨rfl, rfl⟩
  ·obtain ⟨S1, p1, p2, p3⟩ := aatq hO k hk hk2 S.length [] S (Nat.le_refl _) (by simpa using ht) (by simpa using hl) hb
   have pl := p1.length_eq
   obtain ⟨S', q1, q2, q3⟩ := ih (2 * k) S1 (by omega) (by omega) (by omega) (fun z hz => ht z (p1.subset hz)) (by omega) p2
   refine ⟨S', q1.trans p1, q2, ?_⟩
   have w3 : IntKind.wrap .i64 (2 * (k : Int)) = ((2 * k : Nat) : Int) := by rw [wrI (by omega) (by omega)]; omega
   have h5 := p3 (.tup []) [(2000, .lst 30 3 ((S').map (·.1)))]
   simp only [List.nil_append, List.length_nil, Nat.zero_add] at h5
   rw [pl] at q3
   apply j3q
   rw [w3]
   exact a6q (decide_eq_true (by omega)) (h5 q3)
theorem a6Nq (hO : SWO e5q) : ∀ (n : Nat) (D S : List (List Da × Tm)), S.length ≤ n → (∀ z ∈ D ++ S, TgP Tm.da z) → (D ++ S).length ≤ 3000000000000 → ∃ S', S'.Perm S ∧ O8q 20 S' ∧ ∀ (r : AV) (O : List (Nat × Ob)), c8q r O ((D ++ S).length : Int) 20 ((D ++ S').map (·.1)) → g1q r O ((D ++ S).length : Int) 20 (D.length : Int) ((D.length + 20 : Nat) : Int) ((D ++ S).map (·.1)) := by
 intro n
 induction n with
 | zero =>
  intro D S hn ht hl
  have : S = [] := List.eq_nil_of_length_eq_zero (by omega)
  subst this
  obtain ⟨M, p1, p2, p3⟩ := S8q hO D [] [] (by simpa using ht) (by simpa using hl)
  have : M = [] := List.eq_nil_of_length_eq_zero (by rw [p1.length_eq]; rfl)
  subst this
  refine ⟨[], .refl _, .last (by simp) .nil, fun r O h => ?_⟩
  simp only [List.append_nil] at p3 h ⊢
  apply j2q
  exact a2q (decide_eq_false (by omega)) ⟨_, p3, h⟩
 | succ n ih =>
  intro D S hn ht hl
  have hl' : D.length + S.length ≤ 3000000000000 := by simpa using hl
  have hlen : (D ++ S).length = D.length + S.length := by simp
  by_cases h1 : S.length < 20
  ·obtain ⟨M, p1, p2, p3⟩ := S8q hO D S [] (by simpa using ht) (by simpa using hl)
   refine ⟨M, p1, .last (by rw [p1.length_eq]; omega) p2, fun r O h => ?_⟩
   apply j2q
   rw [List.append_nil, List.append_nil] at p3
   exact a2q (decide_eq_false (by omega)) ⟨_, p3, h⟩
  ·obtain ⟨b, S2, rfl, hb⟩ : ∃ b S2, S = b ++ S2 ∧ b.length = 20 := ⟨S.take 20, S.drop 20, by simp, by simp; omega⟩
   simp only [List.length_append] at h1 hn hl'
   have hlen : (D ++ (b ++ S2)).length = D.length + (b.length + S2.length) := by simp
   obtain ⟨M, p1, p2, p3⟩ := S8q hO D b S2 (by simpa using ht) (by simpa using hl)
   have pl := p1.length_eq
   obtain ⟨S', q1, q2, q3⟩ := ih (D ++ M) S2 (by omega) (fun w hw => ht w (by
    have hp : w ∈ M → w ∈ b := fun h => p1.subset h
    simp at hw hp ⊢; grind)) (by simp; omega)
   refine ⟨M ++ S', p1.append q1, .cons (by omega) p2 q2, fun r O h => ?_⟩
   have e4 : D ++ M ++ S' = D ++ (M ++ S') := by simp
   have e5 : (D ++ M ++ S2).length = (D ++ (b ++ S2)).length := by simp; omega
   have e6 : (D ++ M).length = D.length + 20 := by simp; omega
   have h5 := q3 r O
   rw [e4, e5, e6] at h5
   have e1 : (D ++ b).length = D.length + 20 := by simp [hb]
   have e3 : D ++ b ++ S2 = D ++ (b ++ S2) := by simp
   have w4 : IntKind.wrap .i64 (((D.length + 20 : Nat) : Int) + 20) = ((D.length + 20 + 20 : Nat) : Int) := by rw [wrI (by omega) (by omega)]; omega
   rw [e1, e3] at p3
   apply j2q
   rw [w4]
   exact a6q (decide_eq_true (by omega)) ⟨_, p3, h5 h⟩
theorem aaGq (hO : SWO e5q) (S : List (List Da × Tm)) (ht : ∀ z ∈ S, TgP Tm.da z) (hl : S.length ≤ 3000000000000) : ∃ S', S'.Perm S ∧ Sd e5q S' ∧ XC pg 201 [.one (.ol 2000), .one (.d (.fn 143))] [(2000, .lst 30 3 ((S).map (·.1)))] (.tup []) [(2000, .lst 30 3 ((S').map (·.1)))] := by
 obtain ⟨S1, p1, p2, p3⟩ := a6Nq hO S.length [] S (Nat.le_refl _) (by simpa using ht) (by simpa using hl)
 have pl := p1.length_eq
 obtain ⟨S', q1, q2, q3⟩ := abhq hO S.length 20 S1 (by omega) (by omega) (by omega) (fun z hz => ht z (p1.subset hz)) (by omega) p2
 refine ⟨S', q1.trans p1, q2, ?_⟩
 have h5 := p3 (.tup []) [(2000, .lst 30 3 ((S').map (·.1)))]
 simp only [List.nil_append, List.length_nil, Nat.zero_add] at h5
 rw [pl] at q3
 apply y1q
 refine ⟨_, z6q ?_, rfl, rfl⟩
 rw [List.length_map]
 exact h5 q3
def e6q (a b : List Da × Li) : Prop := Li.cmp a.2 b.2 < 0
instance (a b : List Da × Li) : Decidable (e6q a b) := inferInstanceAs (Decidable (_ < _))
theorem a3lq {z w : List Da × Li} (hz : TgP Li.da z) (hw : TgP Li.da w) : XC pg 135 [.dat z.1, .dat w.1] [] (Z (Li.cmp z.2 w.2)) [] := XC.ut (by
 show XC _ _ [.dat (Da.utL z.1), .dat (Da.utL w.1)] _ _ _
 rw [hz.ut Li.ut_da, hw.ut Li.ut_da]; exact G8q _ _)
theorem Z4q (A Y C : List (List Da × Li)) : ∀ (X2 Z2 Z1 X1 : List (List Da × Li)), (∀ z ∈ A ++ Z1 ++ X2 ++ Y ++ X1 ++ Z2 ++ C, TgP Li.da z) → X2.length = Z2.length → X1.length = Z1.length → (A ++ Z1 ++ X2 ++ Y ++ X1 ++ Z2 ++ C).length ≤ 3000000000000 →
  e7q (.tup []) [(2000, .lst 85 7 ((A ++ Z1 ++ Z2 ++ Y ++ X1 ++ X2 ++ C).map (·.1)))] (A.length : Int) ((A ++ Z1 ++ X2 ++ Y).length : Int) ((Z1 ++ X2).length : Int) (Z1.length : Int) ((A ++ Z1 ++ X2 ++ Y ++ X1 ++ Z2 ++ C).map (·.1))
 | [], Z2, Z1, X1, ht, h1, h2, hl => by
  have : Z2 = [] := List.eq_nil_of_length_eq_zero h1.symm
  subst this
  apply k9q
  exact a2q (decide_eq_false (by simp)) ⟨rfl, by simp⟩
 | x :: X2, [], Z1, X1, ht, h1, h2, hl => by simp at h1
 | x :: X2, z :: Z2, Z1, X1, ht, h1, h2, hl => by
  have hl' : A.length + Z1.length + X2.length + Y.length + X1.length + Z2.length + C.length + 2 ≤ 3000000000000 := by simp at hl; omega
  have ih := Z4q A Y C X2 Z2 (Z1 ++ [z]) (X1 ++ [x]) (fun w hw => ht w (by simp at hw ⊢; grind)) (by simpa using h1) (by simp [h2]) (by simp; omega)
  obtain ⟨_, _, _, _, _, _, _, ex⟩ := (ht x (by simp)).lit
  obtain ⟨_, _, _, _, _, _, _, ez⟩ := (ht z (by simp)).lit
  have eD : A ++ Z1 ++ x :: X2 ++ Y ++ X1 ++ z :: Z2 ++ C = (A ++ Z1) ++ x :: (X2 ++ Y ++ X1) ++ z :: (Z2 ++ C) := by simp
  have eD2 : (A ++ Z1) ++ z :: (X2 ++ Y ++ X1) ++ x :: (Z2 ++ C) = A ++ (Z1 ++ [z]) ++ X2 ++ Y ++ (X1 ++ [x]) ++ Z2 ++ C := by simp
  have eR : A ++ (Z1 ++ [z]) ++ Z2 ++ Y ++ (X1 ++ [x]) ++ X2 ++ C = A ++ Z1 ++ z :: Z2 ++ Y ++ X1 ++ x :: X2 ++ C := by simp
  have en : ((Z1 ++ [z]) ++ X2).length = (Z1 ++ x :: X2).length := by simp
  have eb : (A ++ (Z1 ++ [z]) ++ X2 ++ Y).length = (A ++ Z1 ++ x :: X2 ++ Y).length := by simp
  have ei : (Z1 ++ [z]).length = Z1.length + 1 := by simp
  have w1 : IntKind.wrap .i64 (((A ++ Z1 ++ x :: X2 ++ Y).length : Int) + (Z1.length : Int)) = (((A ++ Z1).length + 1 + (X2 ++ Y ++ X1).length : Nat) : Int) := by
   rw [wrI (by omega) (by simp; omega)]; simp; omega
  have w2 : IntKind.wrap .i64 ((A.length : Int) + (Z1.length : Int)) = (((A ++ Z1).length : Nat) : Int) := by
   rw [wrI (by omega) (by omega)]; simp
  have w3 : IntKind.wrap .i64 ((Z1.length : Int) + 1) = ((Z1.length + 1 : Nat) : Int) := by
   rw [wrI (by omega) (by omega)]; simp
  rw [en, eb, ei, ← eD2, eR, ← a0Sq] at ih
  rw [eD]
  have g1 := P6q (fun z : List Da × Li => z.1) (P := A ++ Z1) (M := X2 ++ Y ++ X1) (Q := Z2 ++ C) (a := x) (b := z)
  have g2 := P9q (fun z : List Da × Li => z.1) (P := A ++ Z1) (M := X2 ++ Y ++ X1) (Q := Z2 ++ C) (a := x) (b := z)
  have l1 := z9q (fun z : List Da × Li => z.1) (A ++ Z1) (X2 ++ Y ++ X1) (Z2 ++ C) x z
  have g3 : ((((A ++ Z1) ++ x :: (X2 ++ Y ++ X1) ++ z :: (Z2 ++ C)).map (·.1)).set (A ++ Z1).length z.1)[(A ++ Z1).length + 1 + (X2 ++ Y ++ X1).length]? = some z.1 := by
   rw [List.getElem?_set_ne (by omega)]; exact g1
  rw [ex] at g2 ih
  rw [ez] at g1 g3 ih
  apply k9q
  rw [w1, w2, w3]
  refine a6q (decide_eq_true (by simp; omega)) ⟨_, rfl, ⟨by rw [l1]; omega⟩, _, rfl, _, _, _, _, _, _, _, g1, _, rfl, ⟨by rw [l1]; omega⟩, _, rfl, _, _, _, _, _, _, _, g2, _, rfl, ⟨by rw [l1]; omega⟩, _, rfl, _, _, _, _, _, _, _, g2, _, rfl, ⟨by rw [List.length_set, l1]; omega⟩, _, rfl, _, _, _, _, _, _, _, g3, ih⟩
theorem H0q (A U Y V C : List (List Da × Li)) (ht : ∀ z ∈ A ++ U ++ Y ++ V ++ C, TgP Li.da z) (h : U.length = V.length) (hl : (A ++ U ++ Y ++ V ++ C).length ≤ 3000000000000) : XC pg 274 [.one (.ol 2000), Z (A.length : Int), Z ((A ++ U ++ Y).length : Int), Z (U.length : Int), .one (.d (.fn 135))] [(2000, .lst 85 7 ((A ++ U ++ Y ++ V ++ C).map (·.1)))] (.tup []) [(2000, .lst 85 7 ((A ++ V ++ Y ++ U ++ C).map (·.1)))] := by
 apply v5q
 have := Z4q A Y C U V [] [] (by simpa using ht) h rfl (by simpa using hl)
 simpa using this
theorem a7Iq (T : List (List Da × Li)) : ∀ (n : Nat) (A U V C : List (List Da × Li)), U.length + V.length ≤ n → U ≠ [] → V ≠ [] → (∀ z ∈ A ++ U ++ V ++ C, TgP Li.da z) → (A ++ U ++ V ++ C).length ≤ 3000000000000 → A ++ V ++ U ++ C = T → d7q (.tup []) [(2000, .lst 85 7 ((T).map (·.1)))] ((A ++ U).length : Int) (U.length : Int) (V.length : Int) ((A ++ U ++ V ++ C).map (·.1)) := by
 intro n
 induction n with
 | zero =>
  intro A U V C hn hU _ _ _ _
  exact absurd (List.eq_nil_of_length_eq_zero (by omega)) hU
 | succ n ih =>
  intro A U V C hn hU hV ht hl hT
  have hU' := List.length_pos_iff.2 hU
  have hV' := List.length_pos_iff.2 hV
  have hl' : A.length + U.length + V.length + C.length ≤ 3000000000000 := by simp at hl; omega
  have w1 : IntKind.wrap .i64 (((A ++ U).length : Int) - (U.length : Int)) = (A.length : Int) := by rw [wrI (by simp <;> omega) (by simp <;> omega)]; simp <;> omega
  apply v4q
  rw [w1]
  by_cases he : U.length = V.length
  ·have c := H0q A U [] V C (by simpa using ht) he (by simpa using hl)
   simp only [List.append_nil] at c
   rw [hT] at c
   exact a2q (decide_eq_false (by simp [he])) ⟨_, c, rfl, rfl⟩
  ·refine a6q (decide_eq_true (by omega)) ?_
   by_cases hgt : V.length < U.length
   ·refine a6q (decide_eq_true (by omega)) ?_
    obtain ⟨U1, U2, rfl, hU1⟩ : ∃ U1 U2, U = U1 ++ U2 ∧ U1.length = V.length := ⟨U.take V.length, U.drop V.length, by simp, by simp; omega⟩
    have c := H0q A U1 U2 V C (by simpa using ht) hU1 (by simpa using hl)
    have h2 : U2.length + V.length = (U1 ++ U2).length := by simp; omega
    have w2 : IntKind.wrap .i64 (((U1 ++ U2).length : Int) - (V.length : Int)) = (U2.length : Int) := by rw [wrI (by simp <;> omega) (by simp <;> omega)]; simp <;> omega
    have i1 := ih (A ++ V) U2 U1 C (by simp at hn; omega) (by intro h; subst h; simp at hgt hU1; omega) (by intro h; subst h; simp at hU1; omega) (fun w hw => ht w (by simp at hw ⊢; grind)) (by simp; omega) (by simpa [List.append_assoc] using hT)
    have e1 : A ++ (U1 ++ U2) ++ V ++ C = A ++ U1 ++ U2 ++ V ++ C := by simp
    have e2 : (A ++ V ++ U2).length = (A ++ (U1 ++ U2)).length := by simp; omega
    have e3 : (A ++ (U1 ++ U2)).length = (A ++ U1 ++ U2).length := by simp
    rw [w2, e1]
    rw [e2] at i1
    rw [e3] at i1 ⊢
    rw [hU1] at i1 c
    exact ⟨_, c, i1⟩
   ·refine a2q (decide_eq_false (by omega)) ?_
    obtain ⟨V1, V2, rfl, hV2⟩ : ∃ V1 V2, V = V1 ++ V2 ∧ V2.length = U.length := ⟨V.take (V.length - U.length), V.drop (V.length - U.length), by simp, by simp; omega⟩
    have hvl : (V1 ++ V2).length = V1.length + V2.length := by simp
    have c := H0q A U V1 V2 C (by simpa using ht) hV2.symm (by simpa using hl)
    have w2 : IntKind.wrap .i64 (IntKind.wrap .i64 (((A ++ U).length : Int) + ((V1 ++ V2).length : Int)) - (U.length : Int)) = ((A ++ U ++ V1).length : Int) := by
     rw [wrI (x := ((A ++ U).length : Int) + _) (by omega) (by simp at hl' ⊢; omega), wrI (by simp; omega) (by simp at hl' ⊢; omega)]; simp; omega
    have w3 : IntKind.wrap .i64 (((V1 ++ V2).length : Int) - (U.length : Int)) = (V1.length : Int) := by rw [wrI (by simp; omega) (by simp at hl' ⊢; omega)]; simp; omega
    have i1 := ih A V2 V1 (U ++ C) (by omega) (by intro h; subst h; simp at hV2; omega) (by intro h; subst h; simp at he hgt hvl; omega) (fun w hw => ht w (by simp at hw ⊢; grind)) (by simp at hl' ⊢; omega) (by simpa [List.append_assoc] using hT)
    have e1 : A ++ U ++ (V1 ++ V2) ++ C = A ++ U ++ V1 ++ V2 ++ C := by simp
    have e2 : (A ++ V2).length = (A ++ U).length := by simp [hV2]
    have e4 : A ++ V2 ++ V1 ++ (U ++ C) = A ++ V2 ++ V1 ++ U ++ C := by simp
    rw [w2, w3, e1]
    rw [e2, hV2, e4] at i1
    exact ⟨_, c, i1⟩
theorem a7Zq (A U V C : List (List Da × Li)) (hU : U ≠ []) (hV : V ≠ []) (ht : ∀ z ∈ A ++ U ++ V ++ C, TgP Li.da z) (hl : (A ++ U ++ V ++ C).length ≤ 3000000000000) : XC pg 271 [.one (.ol 2000), Z (A.length : Int), Z ((A ++ U).length : Int), Z ((A ++ U ++ V).length : Int), .one (.d (.fn 135))] [(2000, .lst 85 7 ((A ++ U ++ V ++ C).map (·.1)))] (.tup []) [(2000, .lst 85 7 ((A ++ V ++ U ++ C).map (·.1)))] := by
 have hl' : A.length + U.length + V.length + C.length ≤ 3000000000000 := by simp at hl; omega
 have w1 : IntKind.wrap .i64 (((A ++ U).length : Int) - (A.length : Int)) = (U.length : Int) := by rw [wrI (by simp <;> omega) (by simp <;> omega)]; simp <;> omega
 have w2 : IntKind.wrap .i64 (((A ++ U ++ V).length : Int) - ((A ++ U).length : Int)) = (V.length : Int) := by rw [wrI (by simp <;> omega) (by simp <;> omega)]; simp <;> omega
 apply x7q
 rw [w1, w2]
 exact a7Iq _ _ A U V C (Nat.le_refl _) hU hV ht hl rfl
theorem aaFq (hO : SWO e6q) (A : List (List Da × Li)) (x : List Da × Li) : ∀ (n : Nat) (L R Q : List (List Da × Li)), L.length = n → (∀ z ∈ A ++ L ++ x :: R ++ Q, TgP Li.da z) → (A ++ L ++ x :: R ++ Q).length ≤ 3000000000000 → Sd e6q (L ++ R) → (∀ y ∈ R, e6q x y) → ∃ S, S.Perm (L ++ x :: R) ∧ Sd e6q S ∧ ∀ (r : AV) (O : List (Nat × Ob)) (b i : Int), (c3q r O (A.length : Int) b (IntKind.wrap .i64 (i + 1)) ((A ++ S ++ Q).map (·.1)) → e0q r O (A.length : Int) b i ((A ++ L).length : Int) ((A ++ L ++ x :: R ++ Q).map (·.1))) := by
 intro n
 induction n with
 | zero =>
  intro L R Q hn ht hl hs hR
  have : L = [] := List.eq_nil_of_length_eq_zero hn
  subst this
  refine ⟨x :: R, by simp, R0q hO (L := []) hs (fun y hy => hO.asym (hR y hy)) (by simp), fun r O b i h => ?_⟩
  apply h5q
  refine a2q (decide_eq_false (by simp)) ?_
  simpa using h
 | succ n ih =>
  intro L R Q hn ht hl hs hR
  obtain ⟨L', z, rfl⟩ : ∃ L' z, L = L' ++ [z] := by
   rcases List.eq_nil_or_concat L with rfl | ⟨L', z, h⟩
   ·simp at hn
   ·exact ⟨L', z, by rw [h, List.concat_eq_append]⟩
  have hl' : A.length + L'.length + R.length + Q.length + 2 ≤ 3000000000000 := by simp at hl; omega
  have hz := ht z (by simp)
  have hx := ht x (by simp)
  have hcmp := a3lq hx hz
  obtain ⟨_, _, _, _, _, _, _, ex⟩ := (ht x (by simp)).lit
  obtain ⟨_, _, _, _, _, _, _, ez⟩ := (ht z (by simp)).lit
  have eD : A ++ (L' ++ [z]) ++ x :: R ++ Q = (A ++ L') ++ z :: [] ++ x :: (R ++ Q) := by simp
  have g1 := P6q (fun z : List Da × Li => z.1) (P := A ++ L') (M := []) (Q := R ++ Q) (a := z) (b := x)
  have g2 := P9q (fun z : List Da × Li => z.1) (P := A ++ L') (M := []) (Q := R ++ Q) (a := z) (b := x)
  have l1 := z9q (fun z : List Da × Li => z.1) (A ++ L') [] (R ++ Q) z x
  have g3 : ((((A ++ L') ++ z :: [] ++ x :: (R ++ Q)).map (·.1)).set ((A ++ L').length + 1 + ([] : List (List Da × Li)).length) z.1)[(A ++ L').length]? = some z.1 := by
   rw [List.getElem?_set_ne (by simp)]; exact g2
  have w1 : IntKind.wrap .i64 (((A ++ (L' ++ [z])).length : Int) - 1) = (((A ++ L').length : Nat) : Int) := by rw [wrI (by simp <;> omega) (by simp <;> omega)]; simp <;> omega
  have w2 : IntKind.wrap .i64 ((((A ++ L').length + 1 + ([] : List (List Da × Li)).length : Nat) : Int) - 1) = (((A ++ L').length : Nat) : Int) := by rw [wrI (by simp <;> omega) (by simp <;> omega)]; simp <;> omega
  have hj : ((A ++ (L' ++ [z])).length : Int) = (((A ++ L').length + 1 + ([] : List (List Da × Li)).length : Nat) : Int) := by simp; omega
  by_cases hlt : e6q x z
  ·obtain ⟨S, p1, p2, p3⟩ := ih L' (z :: R) Q (by simpa using hn) (fun w hw => ht w (by simp at hw ⊢; grind)) (by simp; omega) (by simpa using hs) (fun y hy => by
    rcases List.mem_cons.1 hy with rfl | hy
    ·exact hlt
    ·exact hR y hy)
   refine ⟨S, p1.trans ?_, p2, fun r O b i h => ?_⟩
   ·have : (L' ++ [z]) ++ x :: R = L' ++ z :: x :: R := by simp
    rw [this]
    exact (List.Perm.swap ..).append_left L'
   ·have h4 := p3 r O b i h
    have eS : A ++ L' ++ x :: z :: R ++ Q = (A ++ L') ++ x :: [] ++ z :: (R ++ Q) := by simp
    rw [eS, ← a3pq] at h4
    rw [ex] at g1 hcmp
    rw [ez] at g2 g3 hcmp
    rw [ex, ez] at h4
    apply h5q
    rw [eD, hj, w2]
    refine a6q (decide_eq_true (by simp; omega)) ⟨_, rfl, ⟨by rw [l1]; simp; omega⟩, _, rfl, _, _, _, _, _, _, _, g1, _, rfl, ⟨by rw [l1]; simp; omega⟩, _, rfl, _, _, _, _, _, _, _, g2, _, hcmp, a6q (decide_eq_true hlt) ⟨_, rfl, ⟨by rw [l1]; simp; omega⟩, _, rfl, _, _, _, _, _, _, _, g2, _, rfl, ⟨by rw [l1]; simp; omega⟩, _, rfl, _, _, _, _, _, _, _, g1, _, rfl, ⟨by rw [l1]; simp; omega⟩, _, rfl, _, _, _, _, _, _, _, g1, _, rfl, ⟨by rw [List.length_set, l1]; simp; omega⟩, _, rfl, _, _, _, _, _, _, _, g3, h4⟩⟩
  ·refine ⟨(L' ++ [z]) ++ x :: R, .refl _, R0q hO hs (fun y hy => hO.asym (hR y hy)) (a6pq hO (s7q.1 hs).1 hlt), fun r O b i h => ?_⟩
   have e2 : A ++ (L' ++ [z] ++ x :: R) ++ Q = (A ++ L') ++ z :: [] ++ x :: (R ++ Q) := by simp
   rw [e2] at h
   rw [ex] at g1 hcmp
   rw [ez] at g2 hcmp
   apply h5q
   rw [eD, hj, w2]
   exact a6q (decide_eq_true (by simp; omega)) ⟨_, rfl, ⟨by rw [l1]; simp; omega⟩, _, rfl, _, _, _, _, _, _, _, g1, _, rfl, ⟨by rw [l1]; simp; omega⟩, _, rfl, _, _, _, _, _, _, _, g2, _, hcmp, a2q (decide_eq_false hlt) h⟩
theorem a1Tq (hO : SWO e6q) (A C : List (List Da × Li)) : ∀ (R S : List (List Da × Li)), (∀ z ∈ A ++ S ++ R ++ C, TgP Li.da z) → (A ++ S ++ R ++ C).length ≤ 3000000000000 → Sd e6q S → ∃ M, M.Perm (S ++ R) ∧ Sd e6q M ∧ c3q (.tup []) [(2000, .lst 85 7 ((A ++ M ++ C).map (·.1)))] (A.length : Int) ((A ++ S ++ R).length : Int) ((A ++ S).length : Int) ((A ++ S ++ R ++ C).map (·.1))
 | [], S, ht, hl, hs => by
  refine ⟨S, by simp, hs, ?_⟩
  apply h6q
  exact a2q (decide_eq_false (by simp)) ⟨rfl, by simp⟩
 | x :: R, S, ht, hl, hs => by
  have hl' : A.length + S.length + R.length + C.length + 1 ≤ 3000000000000 := by simp at hl; omega
  obtain ⟨S', p1, p2, p3⟩ := aaFq hO A x S.length S [] (R ++ C) rfl (by simpa using ht) (by simpa using hl) (by simpa using hs) (by simp)
  have pl := p1.length_eq
  simp only [List.length_append, List.length_cons, List.length_nil] at pl
  obtain ⟨M, q1, q2, q3⟩ := a1Tq hO A C R S' (fun w hw => ht w (by
   have hp : w ∈ S' → w ∈ S ++ [x] := fun h => p1.subset h
   simp at hw hp ⊢; grind)) (by simp; omega) p2
  refine ⟨M, q1.trans ?_, q2, ?_⟩
  ·have e : S ++ x :: R = S ++ [x] ++ R := by simp
   rw [e]
   exact p1.append_right R
  ·have h4 := p3 (.tup []) [(2000, .lst 85 7 ((A ++ M ++ C).map (·.1)))] ((A ++ S ++ x :: R).length : Int) ((A ++ S).length : Int)
   have w1 : IntKind.wrap .i64 (((A ++ S).length : Int) + 1) = ((A ++ S').length : Int) := by rw [wrI (by simp <;> omega) (by simp <;> omega)]; simp <;> omega
   have e1 : (A ++ S' ++ R).length = (A ++ S ++ x :: R).length := by simp; omega
   have e2 : A ++ S' ++ (R ++ C) = A ++ S' ++ R ++ C := by simp
   have e3 : A ++ S ++ [x] ++ (R ++ C) = A ++ S ++ x :: R ++ C := by simp
   rw [w1, e2, e3] at h4
   rw [e1] at q3
   apply h6q
   exact a6q (decide_eq_true (by simp; omega)) (h4 q3)
theorem T5q (hO : SWO e6q) (A R C : List (List Da × Li)) (ht : ∀ z ∈ A ++ R ++ C, TgP Li.da z) (hl : (A ++ R ++ C).length ≤ 3000000000000) : ∃ M, M.Perm R ∧ Sd e6q M ∧ XC pg 266 [.one (.ol 2000), Z (A.length : Int), Z ((A ++ R).length : Int), .one (.d (.fn 135))] [(2000, .lst 85 7 ((A ++ R ++ C).map (·.1)))] (.tup []) [(2000, .lst 85 7 ((A ++ M ++ C).map (·.1)))] := by
 have hl' : A.length + R.length + C.length ≤ 3000000000000 := by simp at hl; omega
 have w1 : IntKind.wrap .i64 ((A.length : Int) + 1) = ((A.length + 1 : Nat) : Int) := by rw [wrI (by omega) (by omega)]; simp
 cases R with
 | nil =>
  refine ⟨[], .refl _, .nil, ?_⟩
  apply k7q
  rw [w1]
  apply h6q
  exact a2q (decide_eq_false (by simp <;> omega)) ⟨rfl, rfl⟩
 | cons x R =>
  obtain ⟨M, p1, p2, p3⟩ := a1Tq hO A C R [x] (by simpa using ht) (by simpa using hl) (by simp)
  refine ⟨M, by simpa using p1, p2, ?_⟩
  apply k7q
  rw [w1]
  have e1 : (A ++ [x]).length = A.length + 1 := by simp
  have e2 : A ++ [x] ++ R = A ++ x :: R := by simp
  rw [e1, e2] at p3
  exact p3
theorem a54q (i : Int) (x : List Da × Li) (Q : List (List Da × Li)) : ∀ (R1 D : List (List Da × Li)), (∀ z ∈ D ++ x :: R1 ++ Q, TgP Li.da z) → (D ++ x :: R1 ++ Q).length ≤ 3000000000000 → i = ((D.length + R1.length + 1 : Nat) : Int) → d4q (.tup []) [(2000, .lst 85 7 ((D ++ R1 ++ x :: Q).map (·.1)))] i (D.length : Int) ((D ++ x :: R1 ++ Q).map (·.1)) := by
 intro R1
 induction R1 with
 | nil =>
  intro D ht hl hi
  have w : IntKind.wrap .i64 (i - 1) = (D.length : Int) := by rw [wrI (by omega) (by simp at hl hi; omega)]; simp at hi; omega
  apply l7q
  rw [w]
  exact a2q (decide_eq_false (by omega)) ⟨rfl, by simp⟩
 | cons y R1 ih0 =>
  intro D ht hl hi
  have hl' : D.length + R1.length + Q.length + 2 ≤ 3000000000000 := by simp at hl; omega
  have ih := ih0 (D ++ [y]) (fun w hw => ht w (by simp at hw ⊢; grind)) (by simp; omega) (by simp at hi ⊢; omega)
  have w : IntKind.wrap .i64 (i - 1) = ((D.length + R1.length + 1 : Nat) : Int) := by rw [wrI (by omega) (by simp at hi; omega)]; simp at hi; omega
  have w1 : IntKind.wrap .i64 ((D.length : Int) + 1) = ((D.length + 1 + ([] : List (List Da × Li)).length : Nat) : Int) := by rw [wrI (by omega) (by omega)]; simp
  have eD : D ++ x :: y :: R1 ++ Q = D ++ x :: [] ++ y :: (R1 ++ Q) := by simp
  have eE : D ++ [y] ++ x :: R1 ++ Q = D ++ y :: [] ++ x :: (R1 ++ Q) := by simp
  have eO : D ++ [y] ++ R1 ++ x :: Q = D ++ y :: R1 ++ x :: Q := by simp
  have e1 : (D ++ [y]).length = D.length + 1 + ([] : List (List Da × Li)).length := by simp
  have g1 := P6q (fun z : List Da × Li => z.1) (P := D) (M := []) (Q := R1 ++ Q) (a := x) (b := y)
  have g2 := P9q (fun z : List Da × Li => z.1) (P := D) (M := []) (Q := R1 ++ Q) (a := x) (b := y)
  have l1 := z9q (fun z : List Da × Li => z.1) D [] (R1 ++ Q) x y
  have g3 : (((D ++ x :: [] ++ y :: (R1 ++ Q)).map (·.1)).set D.length y.1)[D.length + 1 + ([] : List (List Da × Li)).length]? = some y.1 := by
   rw [List.getElem?_set_ne (by simp)]; exact g1
  obtain ⟨_, _, _, _, _, _, _, ex⟩ := (ht x (by simp)).lit
  obtain ⟨_, _, _, _, _, _, _, ey⟩ := (ht y (by simp)).lit
  rw [eE, eO, e1, ← a0Sq (fun z : List Da × Li => z.1) (P := D) (M := []) (Q := R1 ++ Q) (a := x) (b := y)] at ih
  rw [ex] at g2
  rw [ey] at g1 g3
  rw [ex, ey] at ih
  apply l7q
  rw [w, eD, w1]
  exact a6q (decide_eq_true (by omega)) ⟨_, rfl, ⟨by rw [l1]; simp; omega⟩, _, rfl, _, _, _, _, _, _, _, g1, _, rfl, ⟨by rw [l1]; simp; omega⟩, _, rfl, _, _, _, _, _, _, _, g2, _, rfl, ⟨by rw [l1]; simp; omega⟩, _, rfl, _, _, _, _, _, _, _, g2, _, rfl, ⟨by rw [List.length_set, l1]; simp; omega⟩, _, rfl, _, _, _, _, _, _, _, g3, ih⟩
theorem a6Sq (D : List (List Da × Li)) (x : List Da × Li) : ∀ (n : Nat) (L Q : List (List Da × Li)), L.length = n → (∀ z ∈ D ++ L ++ x :: Q, TgP Li.da z) → (D ++ L ++ x :: Q).length ≤ 3000000000000 → d3q (.tup []) [(2000, .lst 85 7 ((D ++ x :: L ++ Q).map (·.1)))] (D.length : Int) ((D ++ L).length : Int) ((D ++ L ++ x :: Q).map (·.1)) := by
 intro n
 induction n with
 | zero =>
  intro L Q hn ht hl
  have : L = [] := List.eq_nil_of_length_eq_zero hn
  subst this
  apply l2q
  exact a2q (decide_eq_false (by simp)) ⟨rfl, by simp⟩
 | succ n ih =>
  intro L Q hn ht hl
  obtain ⟨L', z, rfl⟩ : ∃ L' z, L = L' ++ [z] := by
   rcases List.eq_nil_or_concat L with rfl | ⟨L', z, h⟩
   ·simp at hn
   ·exact ⟨L', z, by rw [h, List.concat_eq_append]⟩
  have hl' : D.length + L'.length + Q.length + 2 ≤ 3000000000000 := by simp at hl; omega
  have i1 := ih L' (z :: Q) (by simpa using hn) (fun w hw => ht w (by simp at hw ⊢; grind)) (by simp; omega)
  have eD : D ++ (L' ++ [z]) ++ x :: Q = (D ++ L') ++ z :: [] ++ x :: Q := by simp
  have eE : D ++ L' ++ x :: z :: Q = (D ++ L') ++ x :: [] ++ z :: Q := by simp
  have eO : D ++ x :: L' ++ z :: Q = D ++ x :: (L' ++ [z]) ++ Q := by simp
  have hj : ((D ++ (L' ++ [z])).length : Int) = (((D ++ L').length + 1 + ([] : List (List Da × Li)).length : Nat) : Int) := by simp; omega
  have w2 : IntKind.wrap .i64 ((((D ++ L').length + 1 + ([] : List (List Da × Li)).length : Nat) : Int) - 1) = (((D ++ L').length : Nat) : Int) := by rw [wrI (by simp <;> omega) (by simp <;> omega)]; simp <;> omega
  have g1 := P6q (fun z : List Da × Li => z.1) (P := D ++ L') (M := []) (Q := Q) (a := z) (b := x)
  have g2 := P9q (fun z : List Da × Li => z.1) (P := D ++ L') (M := []) (Q := Q) (a := z) (b := x)
  have l1 := z9q (fun z : List Da × Li => z.1) (D ++ L') [] Q z x
  have g3 : ((((D ++ L') ++ z :: [] ++ x :: Q).map (·.1)).set ((D ++ L').length + 1 + ([] : List (List Da × Li)).length) z.1)[(D ++ L').length]? = some z.1 := by
   rw [List.getElem?_set_ne (by simp)]; exact g2
  obtain ⟨_, _, _, _, _, _, _, ex⟩ := (ht x (by simp)).lit
  obtain ⟨_, _, _, _, _, _, _, ez⟩ := (ht z (by simp)).lit
  rw [eE, eO, ← a3pq] at i1
  rw [ex] at g1
  rw [ez] at g2 g3
  rw [ex, ez] at i1
  apply l2q
  rw [eD, hj, w2]
  exact a6q (decide_eq_true (by simp; omega)) ⟨_, rfl, ⟨by rw [l1]; simp; omega⟩, _, rfl, _, _, _, _, _, _, _, g2, _, rfl, ⟨by rw [l1]; simp; omega⟩, _, rfl, _, _, _, _, _, _, _, g1, _, rfl, ⟨by rw [l1]; simp; omega⟩, _, rfl, _, _, _, _, _, _, _, g1, _, rfl, ⟨by rw [List.length_set, l1]; simp; omega⟩, _, rfl, _, _, _, _, _, _, _, g3, i1⟩
theorem afnq (hO : SWO e6q) (A R C : List (List Da × Li)) (x : List Da × Li) (ht : ∀ z ∈ A ++ x :: R ++ C, TgP Li.da z) (hl : (A ++ x :: R ++ C).length ≤ 3000000000000) (hs : Sd e6q R) : ∃ M, M.Perm (x :: R) ∧ Sd e6q M ∧ b7q (.tup []) [(2000, .lst 85 7 ((A ++ M ++ C).map (·.1)))] (A.length : Int) ((A.length + 1 : Nat) : Int) ((A.length + 1 + R.length : Nat) : Int) ((A ++ x :: R ++ C).map (·.1)) := by
 have hl' : A.length + R.length + C.length + 1 ≤ 3000000000000 := by simp at hl; omega
 have hlen : ((A ++ x :: R ++ C).map (·.1)).length = A.length + R.length + C.length + 1 := by simp; omega
 have eD : A ++ x :: R ++ C = A ++ [x] ++ R ++ C := by simp
 have gx : ((A ++ x :: R ++ C).map (·.1))[A.length]? = some x.1 := by
  have := x1q (fun z : List Da × Li => z.1) (P := A) (R := x :: R) (Q := C) (k := 0) (y := x) rfl
  exact this
 obtain ⟨k, k1, k2, k3, k4, k5⟩ := W8q (ι := AV × List (Nat × Ob)) (p := fun t i j => b7q t.1 t.2 (A.length : Int) (i : Int) (j : Int) ((A ++ x :: R ++ C).map (·.1))) (ex := fun t i => d4q t.1 t.2 (i : Int) (A.length : Int) ((A ++ x :: R ++ C).map (·.1)))
  (fun h => ∃ y, R[h - (A.length + 1)]? = some y ∧ e6q y x) (A.length + 1) (A.length + 1 + R.length) (fun t i _ _ h => by
   apply l6q
   exact a2q (decide_eq_false (by omega)) h) (fun t i j h1 h2 h3 => by
   obtain ⟨y, hy⟩ := d0q (l := R) (i := (i + j) / 2 - (A.length + 1)) (by omega)
   have hym := List.mem_of_getElem? hy
   have hcmp := a3lq (ht y (by simp [hym])) (ht x (by simp))
   have gy := x1q (fun z : List Da × Li => z.1) (P := A ++ [x]) (Q := C) hy
   have eh : (A ++ [x]).length + ((i + j) / 2 - (A.length + 1)) = (i + j) / 2 := by simp; omega
   rw [eh, ← eD] at gy
   obtain ⟨_, _, _, _, _, _, _, ex⟩ := (ht x (by simp)).lit
   obtain ⟨_, _, _, _, _, _, _, ey⟩ := (ht y (by simp [hym])).lit
   have core : (e6q y x → b7q t.1 t.2 (A.length : Int) (((i + j) / 2 + 1 : Nat) : Int) (j : Int) ((A ++ x :: R ++ C).map (·.1))) → (¬ e6q y x → b7q t.1 t.2 (A.length : Int) (i : Int) (((i + j) / 2 : Nat) : Int) ((A ++ x :: R ++ C).map (·.1))) → b7q t.1 t.2 (A.length : Int) (i : Int) (j : Int) ((A ++ x :: R ++ C).map (·.1)) := by
    intro c1 c2
    have w1 : IntKind.wrap .i64 ((((i + j) / 2 : Nat) : Int) + 1) = (((i + j) / 2 + 1 : Nat) : Int) := by rw [wrI (by omega) (by omega)]; simp
    have gx2 := gx
    rw [ex] at gx2 hcmp
    rw [ey] at gy hcmp
    apply l6q
    rw [midw (by omega), w1]
    refine a6q (decide_eq_true (by omega)) ⟨⟨F5q⟩, _, rfl, ⟨by rw [hlen]; omega⟩, _, rfl, _, _, _, _, _, _, _, gy, _, rfl, ⟨by rw [hlen]; omega⟩, _, rfl, _, _, _, _, _, _, _, gx2, _, hcmp, ?_⟩
    by_cases hlt : e6q y x
    ·exact a6q (decide_eq_true hlt) (c1 hlt)
    ·exact a2q (decide_eq_false hlt) (c2 hlt)
   refine ⟨fun hf hp => core (fun _ => hp) fun hn => ?_, fun hn hp => core (fun hlt => absurd ⟨y, hy, hlt⟩ hn) fun _ => hp⟩
   obtain ⟨y', hy', hlt⟩ := hf
   rw [hy] at hy'
   cases hy'
   exact absurd hlt hn) R.length (A.length + 1) (A.length + 1 + R.length) (by omega) (Nat.le_refl _) (by omega) (Nat.le_refl _) (.inl rfl) (.inl rfl)
 obtain ⟨q, rfl⟩ : ∃ q, k = A.length + 1 + q := ⟨k - (A.length + 1), by omega⟩
 have hq : q ≤ R.length := by omega
 have hsR : Sd e6q (R.take q ++ R.drop q) := by rw [List.take_append_drop]; exact hs
 obtain ⟨s1, s2, _⟩ := s7q.1 hsR
 have hR1 : ∀ y ∈ R.take q, e6q y x := by
  refine a0bq hO s1 ?_
  rcases k3 with h | ⟨y, hy, hlt⟩
  ·have : q = 0 := by omega
   subst this; exact .inl (by simp)
  ·by_cases h0 : q = 0
   ·subst h0; exact .inl (by simp)
   ·refine .inr ⟨y, ?_, hlt⟩
    rw [List.length_take, Nat.min_eq_left hq, List.getElem?_take_of_lt (by omega)]
    rw [← hy]; congr 1; omega
 have hR2 : ∀ y ∈ R.drop q, ¬ e6q y x := by
  refine I5q hO s2 ?_
  rcases k4 with h | h
  ·exact .inl (List.drop_eq_nil_of_le (by omega))
  ·by_cases h0 : q = R.length
   ·exact .inl (List.drop_eq_nil_of_le (by omega))
   ·obtain ⟨y, hy⟩ := d0q (l := R) (i := q) (by omega)
    refine .inr ⟨y, by rw [List.getElem?_drop]; simpa using hy, fun hlt => h ⟨y, ?_, hlt⟩⟩
    rw [← hy]; congr 1; omega
 refine ⟨R.take q ++ x :: R.drop q, ?_, R0q hO hsR hR2 (fun y hy => hO.asym (hR1 y hy)), k5 (_, _) ?_⟩
 ·refine List.perm_middle.trans ?_
  rw [List.take_append_drop]
 ·have h := a54q ((A.length + 1 + q : Nat) : Int) x (R.drop q ++ C) (R.take q) A (fun w hw => ht w (by
   have e : A ++ x :: R.take q ++ (R.drop q ++ C) = A ++ x :: R ++ C := by
    simp only [List.append_assoc, List.cons_append]; rw [← List.append_assoc (R.take q), List.take_append_drop]
   rw [e] at hw; exact hw)) (by simp; omega) (by simp; omega)
  have e1 : A ++ x :: R.take q ++ (R.drop q ++ C) = A ++ x :: R ++ C := by
   simp only [List.append_assoc, List.cons_append]; rw [← List.append_assoc (R.take q), List.take_append_drop]
  have e2 : A ++ R.take q ++ x :: (R.drop q ++ C) = A ++ (R.take q ++ x :: R.drop q) ++ C := by simp
  rw [e1, e2] at h
  exact h
theorem acYq (hO : SWO e6q) (A L C : List (List Da × Li)) (x : List Da × Li) (ht : ∀ z ∈ A ++ L ++ x :: C, TgP Li.da z) (hl : (A ++ L ++ x :: C).length ≤ 3000000000000) (hs : Sd e6q L) : ∃ M, M.Perm (L ++ [x]) ∧ Sd e6q M ∧ b6q (.tup []) [(2000, .lst 85 7 ((A ++ M ++ C).map (·.1)))] ((A.length + L.length : Nat) : Int) (A.length : Int) ((A.length + L.length : Nat) : Int) ((A ++ L ++ x :: C).map (·.1)) := by
 have hl' : A.length + L.length + C.length + 1 ≤ 3000000000000 := by simp at hl; omega
 have hlen : ((A ++ L ++ x :: C).map (·.1)).length = A.length + L.length + C.length + 1 := by simp; omega
 have gx : ((A ++ L ++ x :: C).map (·.1))[A.length + L.length]? = some x.1 := by simp
 obtain ⟨k, k1, k2, k3, k4, k5⟩ := W8q (ι := AV × List (Nat × Ob)) (p := fun t i j => b6q t.1 t.2 ((A.length + L.length : Nat) : Int) (i : Int) (j : Int) ((A ++ L ++ x :: C).map (·.1))) (ex := fun t i => d3q t.1 t.2 (i : Int) ((A.length + L.length : Nat) : Int) ((A ++ L ++ x :: C).map (·.1)))
  (fun h => ∃ y, L[h - A.length]? = some y ∧ ¬ e6q x y) A.length (A.length + L.length) (fun t i _ _ h => by
   apply l1q
   exact a2q (decide_eq_false (by omega)) h) (fun t i j h1 h2 h3 => by
   obtain ⟨y, hy⟩ := d0q (l := L) (i := (i + j) / 2 - A.length) (by omega)
   have hym := List.mem_of_getElem? hy
   have hcmp := a3lq (ht x (by simp)) (ht y (by simp [hym]))
   have gy := x1q (fun z : List Da × Li => z.1) (P := A) (Q := x :: C) hy
   have eh : A.length + ((i + j) / 2 - A.length) = (i + j) / 2 := by omega
   rw [eh] at gy
   obtain ⟨_, _, _, _, _, _, _, ex⟩ := (ht x (by simp)).lit
   obtain ⟨_, _, _, _, _, _, _, ey⟩ := (ht y (by simp [hym])).lit
   have core : (¬ e6q x y → b6q t.1 t.2 ((A.length + L.length : Nat) : Int) (((i + j) / 2 + 1 : Nat) : Int) (j : Int) ((A ++ L ++ x :: C).map (·.1))) → (e6q x y → b6q t.1 t.2 ((A.length + L.length : Nat) : Int) (i : Int) (((i + j) / 2 : Nat) : Int) ((A ++ L ++ x :: C).map (·.1))) → b6q t.1 t.2 ((A.length + L.length : Nat) : Int) (i : Int) (j : Int) ((A ++ L ++ x :: C).map (·.1)) := by
    intro c1 c2
    have w1 : IntKind.wrap .i64 ((((i + j) / 2 : Nat) : Int) + 1) = (((i + j) / 2 + 1 : Nat) : Int) := by rw [wrI (by omega) (by omega)]; simp
    have gx2 := gx
    rw [ex] at gx2 hcmp
    rw [ey] at gy hcmp
    apply l1q
    rw [midw (by omega), w1]
    refine a6q (decide_eq_true (by omega)) ⟨⟨F5q⟩, _, rfl, ⟨by rw [hlen]; omega⟩, _, rfl, _, _, _, _, _, _, _, gx2, _, rfl, ⟨by rw [hlen]; omega⟩, _, rfl, _, _, _, _, _, _, _, gy, _, hcmp, ?_⟩
    by_cases hlt : e6q x y
    ·exact a2q (by rw [decide_eq_true (show Li.cmp x.2 y.2 < 0 from hlt)]; rfl) (c2 hlt)
    ·exact a6q (by rw [decide_eq_false (show ¬ Li.cmp x.2 y.2 < 0 from hlt)]; rfl) (c1 hlt)
   refine ⟨fun hf hp => core (fun _ => hp) fun hn => ?_, fun hn hp => core (fun hlt => absurd ⟨y, hy, hlt⟩ hn) fun _ => hp⟩
   obtain ⟨y', hy', hlt⟩ := hf
   rw [hy] at hy'
   cases hy'
   exact absurd hn hlt) L.length A.length (A.length + L.length) (by omega) (Nat.le_refl _) (by omega) (Nat.le_refl _) (.inl rfl) (.inl rfl)
 obtain ⟨q, rfl⟩ : ∃ q, k = A.length + q := ⟨k - A.length, by omega⟩
 have hq : q ≤ L.length := by omega
 have hsL : Sd e6q (L.take q ++ L.drop q) := by rw [List.take_append_drop]; exact hs
 obtain ⟨s1, s2, _⟩ := s7q.1 hsL
 have hL1 : ∀ y ∈ L.take q, ¬ e6q x y := by
  refine a08q hO s1 ?_
  by_cases h0 : q = 0
  ·subst h0; exact .inl (by simp)
  ·rcases k3 with h | ⟨y, hy, hlt⟩
   ·exact absurd (by omega) h0
   ·refine .inr ⟨y, ?_, hlt⟩
    rw [List.length_take, Nat.min_eq_left hq, List.getElem?_take_of_lt (by omega)]
    rw [← hy]; congr 1; omega
 have hL2 : ∀ y ∈ L.drop q, e6q x y := by
  refine a7lq hO s2 ?_
  by_cases h0 : q = L.length
  ·exact .inl (List.drop_eq_nil_of_le (by omega))
  ·rcases k4 with h | h
   ·exact absurd (by omega) h0
   ·obtain ⟨y, hy⟩ := d0q (l := L) (i := q) (by omega)
    refine .inr ⟨y, by rw [List.getElem?_drop]; simpa using hy, Classical.byContradiction fun hlt => h ⟨y, ?_, hlt⟩⟩
    rw [← hy]; congr 1; omega
 refine ⟨L.take q ++ x :: L.drop q, ?_, R0q hO hsL (fun y hy => hO.asym (hL2 y hy)) hL1, k5 (_, _) ?_⟩
 ·refine List.perm_middle.trans ?_
  rw [List.take_append_drop]
  exact (List.perm_append_singleton x L).symm
 ·have e1 : A ++ L.take q ++ L.drop q ++ x :: C = A ++ L ++ x :: C := by rw [List.append_assoc A, List.take_append_drop]
  have h := a6Sq (A ++ L.take q) x (L.drop q).length (L.drop q) C rfl (by rw [e1]; exact ht) (by rw [e1]; exact hl)
  have e2 : A ++ L.take q ++ x :: L.drop q ++ C = A ++ (L.take q ++ x :: L.drop q) ++ C := by simp
  have e3 : (A ++ L.take q).length = A.length + q := by simp; omega
  have e4 : (A ++ L.take q ++ L.drop q).length = A.length + L.length := by simp
  rw [e1, e2, e3, e4] at h
  exact h
theorem aeyq (hO : SWO e6q) (A L1 L2 R1 R2 C : List (List Da × Li)) (a m b mid k e : Nat) (ha : a = A.length) (hk : k = a + L1.length) (hm : m = k + L2.length) (he : e = m + R1.length) (hb : b = e + R2.length) (hmid : mid = k + R1.length) (ht : ∀ z ∈ A ++ L1 ++ L2 ++ R1 ++ R2 ++ C, TgP Li.da z) (hl : (A ++ L1 ++ L2 ++ R1 ++ R2 ++ C).length ≤ 3000000000000) (hL : Sd e6q (L1 ++ L2)) (hR : Sd e6q (R1 ++ R2))
  (f1 : (L1 = [] ∨ R2 = []) ∨ ∃ y0 z0, L1[L1.length - 1]? = some y0 ∧ R2[0]? = some z0 ∧ ¬ e6q z0 y0) (f2 : (L2 = [] ∨ R1 = []) ∨ ∃ y0 z0, L2[0]? = some y0 ∧ R1[R1.length - 1]? = some z0 ∧ e6q z0 y0)
  (ih : ∀ (A L R C : List (List Da × Li)), (L ++ R).length < (L1 ++ L2 ++ R1 ++ R2).length → L ≠ [] → R ≠ [] → (∀ z ∈ A ++ L ++ R ++ C, TgP Li.da z) → (A ++ L ++ R ++ C).length ≤ 3000000000000 → Sd e6q L → Sd e6q R → ∃ M, M.Perm (L ++ R) ∧ Sd e6q M ∧ XC pg 267 [.one (.ol 2000), Z (A.length : Int), Z ((A ++ L).length : Int), Z ((A ++ L ++ R).length : Int), .one (.d (.fn 135))] [(2000, .lst 85 7 ((A ++ L ++ R ++ C).map (·.1)))] (.tup []) [(2000, .lst 85 7 ((A ++ M ++ C).map (·.1)))])
  (hlt1 : (L1 ++ R1).length < (L1 ++ L2 ++ R1 ++ R2).length) (hlt2 : (L2 ++ R2).length < (L1 ++ L2 ++ R1 ++ R2).length) :
  ∃ M, M.Perm (L1 ++ L2 ++ (R1 ++ R2)) ∧ Sd e6q M ∧ ∀ s21 s22 : Int, s21 = k → a9q (.tup []) [(2000, .lst 85 7 ((A ++ M ++ C).map (·.1)))] (a : Int) (m : Int) (b : Int) (mid : Int) ((mid + m : Nat) : Int) (k : Int) s21 s22 ((A ++ L1 ++ L2 ++ R1 ++ R2 ++ C).map (·.1)) := by
 have hl' : A.length + L1.length + L2.length + R1.length + R2.length + C.length ≤ 3000000000000 := by simp at hl; omega
 obtain ⟨hs1, hs2, hs12⟩ := s7q.1 hL
 obtain ⟨hr1, hr2, hr12⟩ := s7q.1 hR
 obtain ⟨M1, p1, q1, z1, c1⟩ : ∃ M1, M1.Perm (L1 ++ R1) ∧ Sd e6q M1 ∧ ((L1 = [] ∨ R1 = []) → M1 = L1 ++ R1) ∧ (L1 ≠ [] → R1 ≠ [] → XC pg 267 [.one (.ol 2000), Z (a : Int), Z (k : Int), Z (mid : Int), .one (.d (.fn 135))] [(2000, .lst 85 7 ((A ++ L1 ++ R1 ++ L2 ++ R2 ++ C).map (·.1)))] (.tup []) [(2000, .lst 85 7 ((A ++ M1 ++ L2 ++ R2 ++ C).map (·.1)))]) := by
  by_cases h : L1 = [] ∨ R1 = []
  ·refine ⟨L1 ++ R1, .refl _, ?_, fun _ => rfl, fun h1 h2 => absurd h (by simp [h1, h2])⟩
   rcases h with rfl | rfl
   ·simpa using hr1
   ·simpa using hs1
  ·have h1 : L1 ≠ [] := fun e => h (.inl e)
   have h2 : R1 ≠ [] := fun e => h (.inr e)
   obtain ⟨M1, p, q, c⟩ := ih A L1 R1 (L2 ++ R2 ++ C) hlt1 h1 h2 (fun w hw => ht w (by simp at hw ⊢; grind)) (by simp; omega) hs1 hr1
   refine ⟨M1, p, q, fun e => absurd e h, fun _ _ => ?_⟩
   have e1 : (A ++ L1).length = k := by simp; omega
   have e2 : (A ++ L1 ++ R1).length = mid := by simp; omega
   have e3 : A ++ L1 ++ R1 ++ (L2 ++ R2 ++ C) = A ++ L1 ++ R1 ++ L2 ++ R2 ++ C := by simp
   have e4 : A ++ M1 ++ (L2 ++ R2 ++ C) = A ++ M1 ++ L2 ++ R2 ++ C := by simp
   rw [e1, e2, e3, e4, ← ha] at c
   exact c
 have pl1 := p1.length_eq
 simp only [List.length_append] at pl1
 obtain ⟨M2, p2, q2, z2, c2⟩ : ∃ M2, M2.Perm (L2 ++ R2) ∧ Sd e6q M2 ∧ ((L2 = [] ∨ R2 = []) → M2 = L2 ++ R2) ∧ (L2 ≠ [] → R2 ≠ [] → XC pg 267 [.one (.ol 2000), Z (mid : Int), Z (e : Int), Z (b : Int), .one (.d (.fn 135))] [(2000, .lst 85 7 ((A ++ M1 ++ L2 ++ R2 ++ C).map (·.1)))] (.tup []) [(2000, .lst 85 7 ((A ++ M1 ++ M2 ++ C).map (·.1)))]) := by
  by_cases h : L2 = [] ∨ R2 = []
  ·refine ⟨L2 ++ R2, .refl _, ?_, fun _ => rfl, fun h1 h2 => absurd h (by simp [h1, h2])⟩
   rcases h with rfl | rfl
   ·simpa using hr2
   ·simpa using hs2
  ·have h1 : L2 ≠ [] := fun e => h (.inl e)
   have h2 : R2 ≠ [] := fun e => h (.inr e)
   obtain ⟨M2, p, q, c⟩ := ih (A ++ M1) L2 R2 C hlt2 h1 h2 (fun w hw => ht w (by
    have hp : w ∈ M1 → w ∈ L1 ++ R1 := fun h => p1.subset h
    simp at hw hp ⊢; grind)) (by simp; omega) hs2 hr2
   refine ⟨M2, p, q, fun e => absurd e h, fun _ _ => ?_⟩
   have e1 : (A ++ M1).length = mid := by simp; omega
   have e2 : (A ++ M1 ++ L2).length = e := by simp; omega
   have e3 : (A ++ M1 ++ L2 ++ R2).length = b := by simp; omega
   rw [e1, e2, e3] at c
   exact c
 have hcross1 : ∀ x ∈ L1, ∀ y ∈ R2, ¬ e6q y x := fun x hx y hy => by
  rcases f1 with (h | h) | ⟨y0, z0, g1, g2, g3⟩
  ·simp [h] at hx
  ·simp [h] at hy
  ·exact I5q hO hr2 (.inr ⟨z0, g2, a08q hO hs1 (.inr ⟨y0, g1, g3⟩) x hx⟩) y hy
 have hcross2 : ∀ x ∈ R1, ∀ y ∈ L2, ¬ e6q y x := fun x hx y hy => by
  rcases f2 with (h | h) | ⟨y0, z0, g1, g2, g3⟩
  ·simp [h] at hy
  ·simp [h] at hx
  ·exact I5q hO hs2 (.inr ⟨y0, g1, hO.asym (a0bq hO hr1 (.inr ⟨z0, g2, g3⟩) x hx)⟩) y hy
 refine ⟨M1 ++ M2, ?_, s7q.2 ⟨q1, q2, fun x hx y hy => ?_⟩, fun s21 s22 h21 => ?_⟩
 ·refine (p1.append p2).trans ?_
  have e1 : L1 ++ R1 ++ (L2 ++ R2) = L1 ++ ((R1 ++ L2) ++ R2) := by simp
  have e2 : L1 ++ L2 ++ (R1 ++ R2) = L1 ++ ((L2 ++ R1) ++ R2) := by simp
  rw [e1, e2]
  exact (List.perm_append_comm.append_right R2).append_left L1
 ·have hx := p1.subset hx
  have hy := p2.subset hy
  rcases List.mem_append.1 hx with hx | hx <;> rcases List.mem_append.1 hy with hy | hy
  ·exact hs12 x hx y hy
  ·exact hcross1 x hx y hy
  ·exact hcross2 x hx y hy
  ·exact hr12 x hx y hy
 ·subst h21
  obtain ⟨D3, hD3⟩ : ∃ D3, D3 = A ++ M1 ++ M2 ++ C := ⟨_, rfl⟩
  have eO : A ++ (M1 ++ M2) ++ C = D3 := by rw [hD3]; simp
  rw [eO]
  have hRight : ifB (decide ((mid : Int) < ((e : Nat) : Int))) (ifB (decide (((e : Nat) : Int) < (b : Int))) (∃ xs', XC pg 267 [.one (.ol 2000), Z (mid : Int), Z ((e : Nat) : Int), Z (b : Int), .one (.d (.fn 135))] [(2000, .lst 85 7 ((A ++ M1 ++ L2 ++ R2 ++ C).map (·.1)))] (.tup []) [(2000, .lst 85 7 xs')] ∧ ((AV.tup []) = .tup [] ∧ [((2000 : Nat), Ob.lst 85 7 (xs'))] = [(2000, Ob.lst 85 7 (D3.map (·.1)))])) ((AV.tup []) = .tup [] ∧ [((2000 : Nat), Ob.lst 85 7 ((A ++ M1 ++ L2 ++ R2 ++ C).map (·.1)))] = [(2000, Ob.lst 85 7 (D3.map (·.1)))])) ((AV.tup []) = .tup [] ∧ [((2000 : Nat), Ob.lst 85 7 ((A ++ M1 ++ L2 ++ R2 ++ C).map (·.1)))] = [(2000, Ob.lst 85 7 (D3.map (·.1)))]) := by
   by_cases h2 : L2 = []
   ·refine a2q (decide_eq_false (by subst h2; simp at hm; omega)) ⟨rfl, ?_⟩
    rw [hD3, z2 (.inl h2)]; simp
   ·have := List.length_pos_iff.2 h2
    refine a6q (decide_eq_true (by omega)) ?_
    by_cases h3 : R2 = []
    ·refine a2q (decide_eq_false (by subst h3; simp at hb; omega)) ⟨rfl, ?_⟩
     rw [hD3, z2 (.inr h3)]; simp
    ·have := List.length_pos_iff.2 h3
     exact a6q (decide_eq_true (by omega)) ⟨_, c2 h2 h3, rfl, by rw [hD3]⟩
  have hLeft : ifB (decide ((a : Int) < (k : Int))) (ifB (decide ((k : Int) < (mid : Int))) (∃ xs1, XC pg 267 [.one (.ol 2000), Z (a : Int), Z (k : Int), Z (mid : Int), .one (.d (.fn 135))] [(2000, .lst 85 7 ((A ++ L1 ++ R1 ++ L2 ++ R2 ++ C).map (·.1)))] (.tup []) [(2000, .lst 85 7 xs1)] ∧ ifB (decide ((mid : Int) < ((e : Nat) : Int))) (ifB (decide (((e : Nat) : Int) < (b : Int))) (∃ xs', XC pg 267 [.one (.ol 2000), Z (mid : Int), Z ((e : Nat) : Int), Z (b : Int), .one (.d (.fn 135))] [(2000, .lst 85 7 (xs1))] (.tup []) [(2000, .lst 85 7 xs')] ∧ ((AV.tup []) = .tup [] ∧ [((2000 : Nat), Ob.lst 85 7 (xs'))] = [(2000, Ob.lst 85 7 (D3.map (·.1)))])) ((AV.tup []) = .tup [] ∧ [((2000 : Nat), Ob.lst 85 7 (xs1))] = [(2000, Ob.lst 85 7 (D3.map (·.1)))])) ((AV.tup []) = .tup [] ∧ [((2000 : Nat), Ob.lst 85 7 (xs1))] = [(2000, Ob.lst 85 7 (D3.map (·.1)))])) (ifB (decide ((mid : Int) < ((e : Nat) : Int))) (ifB (decide (((e : Nat) : Int) < (b : Int))) (∃ xs', XC pg 267 [.one (.ol 2000), Z (mid : Int), Z ((e : Nat) : Int), Z (b : Int), .one (.d (.fn 135))] [(2000, .lst 85 7 ((A ++ L1 ++ R1 ++ L2 ++ R2 ++ C).map (·.1)))] (.tup []) [(2000, .lst 85 7 xs')] ∧ ((AV.tup []) = .tup [] ∧ [((2000 : Nat), Ob.lst 85 7 (xs'))] = [(2000, Ob.lst 85 7 (D3.map (·.1)))])) ((AV.tup []) = .tup [] ∧ [((2000 : Nat), Ob.lst 85 7 ((A ++ L1 ++ R1 ++ L2 ++ R2 ++ C).map (·.1)))] = [(2000, Ob.lst 85 7 (D3.map (·.1)))])) ((AV.tup []) = .tup [] ∧ [((2000 : Nat), Ob.lst 85 7 ((A ++ L1 ++ R1 ++ L2 ++ R2 ++ C).map (·.1)))] = [(2000, Ob.lst 85 7 (D3.map (·.1)))]))) (ifB (decide ((mid : Int) < ((e : Nat) : Int))) (ifB (decide (((e : Nat) : Int) < (b : Int))) (∃ xs', XC pg 267 [.one (.ol 2000), Z (mid : Int), Z ((e : Nat) : Int), Z (b : Int), .one (.d (.fn 135))] [(2000, .lst 85 7 ((A ++ L1 ++ R1 ++ L2 ++ R2 ++ C).map (·.1)))] (.tup []) [(2000, .lst 85 7 xs')] ∧ ((AV.tup []) = .tup [] ∧ [((2000 : Nat), Ob.lst 85 7 (xs'))] = [(2000, Ob.lst 85 7 (D3.map (·.1)))])) ((AV.tup []) = .tup [] ∧ [((2000 : Nat), Ob.lst 85 7 ((A ++ L1 ++ R1 ++ L2 ++ R2 ++ C).map (·.1)))] = [(2000, Ob.lst 85 7 (D3.map (·.1)))])) ((AV.tup []) = .tup [] ∧ [((2000 : Nat), Ob.lst 85 7 ((A ++ L1 ++ R1 ++ L2 ++ R2 ++ C).map (·.1)))] = [(2000, Ob.lst 85 7 (D3.map (·.1)))])) := by
   by_cases h2 : L1 = []
   ·refine a2q (decide_eq_false (by subst h2; simp at hk; omega)) ?_
    rw [z1 (.inl h2)] at hRight
    simpa using hRight
   ·have := List.length_pos_iff.2 h2
    refine a6q (decide_eq_true (by omega)) ?_
    by_cases h3 : R1 = []
    ·refine a2q (decide_eq_false (by subst h3; simp at hmid; omega)) ?_
     rw [z1 (.inr h3)] at hRight
     simpa using hRight
    ·have := List.length_pos_iff.2 h3
     exact a6q (decide_eq_true (by omega)) ⟨_, c1 h2 h3, hRight⟩
  have w : IntKind.wrap .i64 (((mid + m : Nat) : Int) - (k : Int)) = ((e : Nat) : Int) := by rw [wrI (by omega) (by omega)]; omega
  apply l3q
  rw [w]
  refine a2q (decide_eq_false (by omega)) ?_
  by_cases h2 : L2 = []
  ·refine a2q (decide_eq_false (by subst h2; simp at hm; omega)) ?_
   have e1 : A ++ L1 ++ L2 ++ R1 ++ R2 ++ C = A ++ L1 ++ R1 ++ L2 ++ R2 ++ C := by subst h2; simp
   rw [e1]
   exact hLeft
  ·have := List.length_pos_iff.2 h2
   refine a6q (decide_eq_true (by omega)) ?_
   by_cases h3 : R1 = []
   ·refine a2q (decide_eq_false (by subst h3; simp at he; omega)) ?_
    have e1 : A ++ L1 ++ L2 ++ R1 ++ R2 ++ C = A ++ L1 ++ R1 ++ L2 ++ R2 ++ C := by subst h3; simp
    rw [e1]
    exact hLeft
   ·have := List.length_pos_iff.2 h3
    have c := a7Zq (A ++ L1) L2 R1 (R2 ++ C) h2 h3 (fun w hw => ht w (by simp at hw ⊢; grind)) (by simp; omega)
    have e1 : A ++ L1 ++ L2 ++ R1 ++ (R2 ++ C) = A ++ L1 ++ L2 ++ R1 ++ R2 ++ C := by simp
    have e2 : A ++ L1 ++ R1 ++ L2 ++ (R2 ++ C) = A ++ L1 ++ R1 ++ L2 ++ R2 ++ C := by simp
    have e3 : (A ++ L1).length = k := by simp; omega
    have e4 : (A ++ L1 ++ L2).length = m := by simp; omega
    have e5 : (A ++ L1 ++ L2 ++ R1).length = e := by simp; omega
    rw [e1, e2, e3, e4, e5] at c
    exact a6q (decide_eq_true (by omega)) ⟨_, c, hLeft⟩
theorem aaAq (A L R C : List (List Da × Li)) (a m b mid lo hi : Nat) (ha : a = A.length) (hm : m = a + L.length) (hb : b = m + R.length) (hlh : lo ≤ hi) (hla : a ≤ lo) (hhm : hi ≤ m) (hc : ∀ c, lo ≤ c → c < hi → m + c ≤ mid + m - 1 ∧ mid + m - 1 - c < b) (ht : ∀ z ∈ A ++ L ++ R ++ C, TgP Li.da z) (hl : (A ++ L ++ R ++ C).length ≤ 3000000000000) (hmid : mid ≤ 3000000000000) :
  ∃ k, lo ≤ k ∧ k ≤ hi ∧ (k = lo ∨ ∃ y z, L[k - 1 - a]? = some y ∧ R[mid + m - 1 - (k - 1) - m]? = some z ∧ ¬ e6q z y) ∧ (k = hi ∨ ¬ ∃ y z, L[k - a]? = some y ∧ R[mid + m - 1 - k - m]? = some z ∧ ¬ e6q z y) ∧
  ∀ t : AV × List (Nat × Ob), a9q t.1 t.2 (a : Int) (m : Int) (b : Int) (mid : Int) ((mid + m : Nat) : Int) (k : Int) (k : Int) ((mid + m - 1 : Nat) : Int) ((A ++ L ++ R ++ C).map (·.1)) → a9q t.1 t.2 (a : Int) (m : Int) (b : Int) (mid : Int) ((mid + m : Nat) : Int) (lo : Int) (hi : Int) ((mid + m - 1 : Nat) : Int) ((A ++ L ++ R ++ C).map (·.1)) := by
 have hl' : A.length + L.length + R.length + C.length ≤ 3000000000000 := by simp at hl; omega
 have hlen : ((A ++ L ++ R ++ C).map (·.1)).length = A.length + L.length + R.length + C.length := by simp; omega
 refine W8q (ι := AV × List (Nat × Ob)) (p := fun t i j => a9q t.1 t.2 (a : Int) (m : Int) (b : Int) (mid : Int) ((mid + m : Nat) : Int) (i : Int) (j : Int) ((mid + m - 1 : Nat) : Int) ((A ++ L ++ R ++ C).map (·.1))) (ex := fun t i => a9q t.1 t.2 (a : Int) (m : Int) (b : Int) (mid : Int) ((mid + m : Nat) : Int) (i : Int) (i : Int) ((mid + m - 1 : Nat) : Int) ((A ++ L ++ R ++ C).map (·.1)))
  (fun c => ∃ y z, L[c - a]? = some y ∧ R[mid + m - 1 - c - m]? = some z ∧ ¬ e6q z y) lo hi (fun t i _ _ h => h) (fun t i j h1 h2 h3 => ?_) (hi - lo) lo hi (Nat.le_refl _) (Nat.le_refl _) hlh (Nat.le_refl _) (.inl rfl) (.inl rfl)
 obtain ⟨hc1, hc2⟩ := hc ((i + j) / 2) (by omega) (by omega)
 obtain ⟨y, hy⟩ := d0q (l := L) (i := (i + j) / 2 - a) (by omega)
 obtain ⟨z, hz⟩ := d0q (l := R) (i := mid + m - 1 - (i + j) / 2 - m) (by omega)
 have hym := List.mem_of_getElem? hy
 have hzm := List.mem_of_getElem? hz
 have hcmp := a3lq (ht z (by simp [hzm])) (ht y (by simp [hym]))
 have gy := x1q (fun z : List Da × Li => z.1) (P := A) (Q := R ++ C) hy
 have gz := x1q (fun z : List Da × Li => z.1) (P := A ++ L) (Q := C) hz
 have eh : A.length + ((i + j) / 2 - a) = (i + j) / 2 := by omega
 have eg : (A ++ L).length + (mid + m - 1 - (i + j) / 2 - m) = mid + m - 1 - (i + j) / 2 := by simp; omega
 have eD : A ++ L ++ (R ++ C) = A ++ L ++ R ++ C := by simp
 rw [eh, eD] at gy
 rw [eg] at gz
 obtain ⟨_, _, _, _, _, _, _, ez⟩ := (ht z (by simp [hzm])).lit
 obtain ⟨_, _, _, _, _, _, _, ey⟩ := (ht y (by simp [hym])).lit
 have core : (¬ e6q z y → a9q t.1 t.2 (a : Int) (m : Int) (b : Int) (mid : Int) ((mid + m : Nat) : Int) (((i + j) / 2 + 1 : Nat) : Int) (j : Int) ((mid + m - 1 : Nat) : Int) ((A ++ L ++ R ++ C).map (·.1))) → (e6q z y → a9q t.1 t.2 (a : Int) (m : Int) (b : Int) (mid : Int) ((mid + m : Nat) : Int) (i : Int) (((i + j) / 2 : Nat) : Int) ((mid + m - 1 : Nat) : Int) ((A ++ L ++ R ++ C).map (·.1))) → a9q t.1 t.2 (a : Int) (m : Int) (b : Int) (mid : Int) ((mid + m : Nat) : Int) (i : Int) (j : Int) ((mid + m - 1 : Nat) : Int) ((A ++ L ++ R ++ C).map (·.1)) := by
  intro c1 c2
  have w1 : IntKind.wrap .i64 ((((i + j) / 2 : Nat) : Int) + 1) = (((i + j) / 2 + 1 : Nat) : Int) := by rw [wrI (by omega) (by omega)]; simp
  have w2 : IntKind.wrap .i64 (((mid + m - 1 : Nat) : Int) - (((i + j) / 2 : Nat) : Int)) = ((mid + m - 1 - (i + j) / 2 : Nat) : Int) := by rw [wrI (by omega) (by omega)]; omega
  rw [ez] at gz hcmp
  rw [ey] at gy hcmp
  apply l3q
  rw [midw (by omega), w1, w2]
  refine a6q (decide_eq_true (by omega)) ⟨⟨F5q⟩, _, rfl, ⟨by rw [hlen]; omega⟩, _, rfl, _, _, _, _, _, _, _, gz, _, rfl, ⟨by rw [hlen]; omega⟩, _, rfl, _, _, _, _, _, _, _, gy, _, hcmp, ?_⟩
  by_cases hlt : e6q z y
  ·exact a2q (by rw [decide_eq_true (show Li.cmp z.2 y.2 < 0 from hlt)]; rfl) (c2 hlt)
  ·exact a6q (by rw [decide_eq_false (show ¬ Li.cmp z.2 y.2 < 0 from hlt)]; rfl) (c1 hlt)
 refine ⟨fun hf hp => core (fun _ => hp) fun hn => ?_, fun hn hp => core (fun hlt => absurd ⟨y, z, hy, hz, hlt⟩ hn) fun _ => hp⟩
 obtain ⟨y', z', hy', hz', hlt⟩ := hf
 rw [hy] at hy'
 rw [hz] at hz'
 cases hy'
 cases hz'
 exact absurd hn hlt
theorem a06q (hO : SWO e6q) : ∀ (n : Nat) (A L R C : List (List Da × Li)), (L ++ R).length ≤ n → L ≠ [] → R ≠ [] → (∀ z ∈ A ++ L ++ R ++ C, TgP Li.da z) → (A ++ L ++ R ++ C).length ≤ 3000000000000 → Sd e6q L → Sd e6q R → ∃ M, M.Perm (L ++ R) ∧ Sd e6q M ∧ XC pg 267 [.one (.ol 2000), Z (A.length : Int), Z ((A ++ L).length : Int), Z ((A ++ L ++ R).length : Int), .one (.d (.fn 135))] [(2000, .lst 85 7 ((A ++ L ++ R ++ C).map (·.1)))] (.tup []) [(2000, .lst 85 7 ((A ++ M ++ C).map (·.1)))] := by
 intro n
 induction n with
 | zero =>
  intro A L R C hn hL _ _ _ _ _
  exact absurd (List.eq_nil_of_length_eq_zero (by simp at hn; simp [hn])) hL
 | succ n ih =>
  intro A L R C hn hL hR ht hl hsL hsR
  have hL' := List.length_pos_iff.2 hL
  have hR' := List.length_pos_iff.2 hR
  have hl' : A.length + L.length + R.length + C.length ≤ 3000000000000 := by simp at hl; omega
  have hn' : L.length + R.length ≤ n + 1 := by simpa using hn
  have em : (A ++ L).length = A.length + L.length := by simp
  have eb : (A ++ L ++ R).length = A.length + L.length + R.length := by simp; omega
  have w1 : IntKind.wrap .i64 (((A.length + L.length : Nat) : Int) - (A.length : Int)) = (L.length : Int) := by rw [wrI (by omega) (by omega)]; omega
  have w2 : IntKind.wrap .i64 (((A.length + L.length + R.length : Nat) : Int) - ((A.length + L.length : Nat) : Int)) = (R.length : Int) := by rw [wrI (by omega) (by omega)]; omega
  rw [em, eb]
  by_cases h1 : L.length = 1
  ·obtain ⟨x, rfl⟩ : ∃ x, L = [x] := List.length_eq_one_iff.1 h1
   obtain ⟨M, p1, p2, p3⟩ := afnq hO A R C x (by simpa using ht) (by simpa using hl) hsR
   refine ⟨M, p1, p2, ?_⟩
   apply g6q
   rw [w1]
   refine a6q (decide_eq_true (by omega)) ?_
   have e1 : A ++ [x] ++ R ++ C = A ++ x :: R ++ C := by simp
   rw [e1]
   exact p3
  ·by_cases h2 : R.length = 1
   ·obtain ⟨x, rfl⟩ : ∃ x, R = [x] := List.length_eq_one_iff.1 h2
    obtain ⟨M, p1, p2, p3⟩ := acYq hO A L C x (by simpa using ht) (by simpa using hl) hsL
    refine ⟨M, p1, p2, ?_⟩
    apply g6q
    rw [w1, w2]
    refine a2q (decide_eq_false (by omega)) (a6q (decide_eq_true (by omega)) ?_)
    have e1 : A ++ L ++ [x] ++ C = A ++ L ++ x :: C := by simp
    rw [e1]
    exact p3
   ·obtain ⟨a, ha⟩ : ∃ a, a = A.length := ⟨_, rfl⟩
    obtain ⟨m, hm⟩ : ∃ m, m = a + L.length := ⟨_, rfl⟩
    obtain ⟨b, hb⟩ : ∃ b, b = m + R.length := ⟨_, rfl⟩
    rw [← ha, ← hm] at w1
    rw [← ha, ← hm, ← hb] at w2 ⊢
    obtain ⟨mid, hmid⟩ : ∃ mid, mid = (a + b) / 2 := ⟨_, rfl⟩
    have wm : IntKind.wrap .i64 (((mid : Nat) : Int) + (m : Int)) = ((mid + m : Nat) : Int) := by rw [wrI (by omega) (by omega)]; simp
    have wp : IntKind.wrap .i64 (((mid + m : Nat) : Int) - 1) = ((mid + m - 1 : Nat) : Int) := by rw [wrI (by omega) (by omega)]; omega
    have hcases : ∃ lo hi, lo ≤ hi ∧ a ≤ lo ∧ hi ≤ m ∧ hi ≤ mid ∧ mid + m ≤ b + lo ∧ (∀ c, lo ≤ c → c < hi → m + c ≤ mid + m - 1 ∧ mid + m - 1 - c < b) ∧ (lo = a ∨ mid + m = b + lo) ∧ (hi = m ∨ hi = mid) ∧
      ∀ (r : AV) (O : List (Nat × Ob)), a9q r O (a : Int) (m : Int) (b : Int) (mid : Int) ((mid + m : Nat) : Int) (lo : Int) (hi : Int) ((mid + m - 1 : Nat) : Int) ((A ++ L ++ R ++ C).map (·.1)) → XC pg 267 [.one (.ol 2000), Z (a : Int), Z (m : Int), Z (b : Int), .one (.d (.fn 135))] [(2000, .lst 85 7 ((A ++ L ++ R ++ C).map (·.1)))] r O := by
     by_cases hgt : mid < m
     ·refine ⟨mid + m - b, mid, by omega, by omega, by omega, by omega, by omega, fun c h1 h2 => by omega, by omega, .inr rfl, fun r O h => ?_⟩
      have w3 : IntKind.wrap .i64 (((mid + m : Nat) : Int) - (b : Int)) = ((mid + m - b : Nat) : Int) := by rw [wrI (by omega) (by omega)]; omega
      apply g6q
      rw [w1, w2, midw (by omega), ← hmid, wm, wp, w3]
      exact a2q (decide_eq_false (by omega)) (a2q (decide_eq_false (by omega)) ⟨⟨F5q⟩, a6q (decide_eq_true (by omega)) h⟩)
     ·refine ⟨a, m, by omega, by omega, by omega, by omega, by omega, fun c h1 h2 => by omega, .inl rfl, .inl rfl, fun r O h => ?_⟩
      apply g6q
      rw [w1, w2, midw (by omega), ← hmid, wm, wp]
      exact a2q (decide_eq_false (by omega)) (a2q (decide_eq_false (by omega)) ⟨⟨F5q⟩, a2q (decide_eq_false (by omega)) h⟩)
    obtain ⟨lo, hi, c1, c2, c3, c4, c5, c6, c7, c8, c9⟩ := hcases
    obtain ⟨k, k1, k2, k3, k4, k5⟩ := aaAq A L R C a m b mid lo hi ha hm hb c1 c2 c3 c6 ht hl (by omega)
    obtain ⟨L1, L2, rfl, hL1⟩ : ∃ L1 L2, L = L1 ++ L2 ∧ L1.length = k - a := ⟨L.take (k - a), L.drop (k - a), by simp, by simp; omega⟩
    obtain ⟨R1, R2, rfl, hR1⟩ : ∃ R1 R2, R = R1 ++ R2 ∧ R1.length = mid - k := ⟨R.take (mid - k), R.drop (mid - k), by simp, by simp; omega⟩
    rw [List.length_append] at hm hb
    have f1 : (L1 = [] ∨ R2 = []) ∨ ∃ y0 z0, L1[L1.length - 1]? = some y0 ∧ R2[0]? = some z0 ∧ ¬ e6q z0 y0 := by
     by_cases hk0 : k = lo
     ·left
      rcases c7 with h | h
      ·exact .inl (List.eq_nil_of_length_eq_zero (by omega))
      ·exact .inr (List.eq_nil_of_length_eq_zero (by omega))
     ·right
      rcases k3 with h | ⟨y, z, hy, hz, hlt⟩
      ·exact absurd h hk0
      ·refine ⟨y, z, ?_, ?_, hlt⟩
       ·rw [← hy, List.getElem?_append_left (by omega)]; congr 1; omega
       ·rw [← hz, List.getElem?_append_right (by omega)]; congr 1; omega
    have f2 : (L2 = [] ∨ R1 = []) ∨ ∃ y0 z0, L2[0]? = some y0 ∧ R1[R1.length - 1]? = some z0 ∧ e6q z0 y0 := by
     by_cases hk0 : k = hi
     ·left
      rcases c8 with h | h
      ·exact .inl (List.eq_nil_of_length_eq_zero (by omega))
      ·exact .inr (List.eq_nil_of_length_eq_zero (by omega))
     ·right
      have hc := c6 k k1 (by omega)
      obtain ⟨y, hy⟩ := d0q (l := L2) (i := 0) (by omega)
      obtain ⟨z, hz⟩ := d0q (l := R1) (i := R1.length - 1) (by omega)
      refine ⟨y, z, hy, hz, Classical.byContradiction fun hlt => ?_⟩
      rcases k4 with h | h
      ·exact hk0 h
      ·refine h ⟨y, z, ?_, ?_, hlt⟩
       ·rw [← hy, List.getElem?_append_right (by omega)]; congr 1; omega
       ·rw [← hz, List.getElem?_append_left (by omega)]; congr 1; omega
    have eD : A ++ (L1 ++ L2) ++ (R1 ++ R2) ++ C = A ++ L1 ++ L2 ++ R1 ++ R2 ++ C := by simp
    have hfacts : k = a + L1.length ∧ m = k + L2.length ∧ b = m + R1.length + R2.length ∧ mid = k + R1.length := by
     clear c7 c8 c9 k3 k4 k5 f1 f2 c6 w1 w2 wm wp ih ht hl
     omega
    have hsz : mid < b ∧ a < mid := by
     clear c7 c8 c9 k3 k4 k5 f1 f2 c6 w1 w2 wm wp ih ht hl
     simp only [List.length_append] at h1 h2 hL' hR'
     omega
    have hsum : (L1 ++ L2 ++ R1 ++ R2).length = L1.length + L2.length + R1.length + R2.length := by simp; omega
    have hs1 : (L1 ++ R1).length < (L1 ++ L2 ++ R1 ++ R2).length := by
     clear c7 c8 c9 k3 k4 k5 f1 f2 c6 w1 w2 wm wp ih ht hl
     rw [hsum, List.length_append]; omega
    have hs2 : (L2 ++ R2).length < (L1 ++ L2 ++ R1 ++ R2).length := by
     clear c7 c8 c9 k3 k4 k5 f1 f2 c6 w1 w2 wm wp ih ht hl
     rw [hsum, List.length_append]; omega
    have hn2 : (L1 ++ L2 ++ R1 ++ R2).length ≤ n + 1 := by
     rw [hsum]; simp only [List.length_append] at hn'; omega
    obtain ⟨g1, g2, g3, g4⟩ := hfacts
    obtain ⟨M, p1, p2, p3⟩ := aeyq hO A L1 L2 R1 R2 C a m b mid k (m + R1.length) ha g1 g2 rfl g3 g4 (by rw [← eD]; exact ht) (by rw [← eD]; exact hl) hsL hsR f1 f2 (fun A' L' R' C' hlt h1 h2 h3 h4 h5 h6 => ih A' L' R' C' (Nat.le_of_lt_succ (Nat.lt_of_lt_of_le hlt hn2)) h1 h2 h3 h4 h5 h6) hs1 hs2
    refine ⟨M, p1, p2, c9 _ _ (k5 (_, _) ?_)⟩
    rw [eD]
    exact p3 _ _ rfl
inductive P3q (k : Nat) : List (List Da × Li) → Prop
 | last {l} : l.length ≤ k → Sd e6q l → P3q k l
 | cons {b r} : b.length = k → Sd e6q b → P3q k r → P3q k (b ++ r)
theorem a1uq {k : Nat} (hk : 0 < k) {l : List (List Da × Li)} (h : P3q k l) (hl : l.length ≤ k) : Sd e6q l := by
 cases h with
 | last _ h => exact h
 | @cons b r h1 h2 _ =>
  have : r = [] := List.eq_nil_of_length_eq_zero (by simp at hl; omega)
  subst this
  simpa using h2
theorem aaDq (hO : SWO e6q) (k : Nat) (hk : 0 < k) (hk2 : k ≤ 6000000000000) : ∀ (n : Nat) (D S : List (List Da × Li)), S.length ≤ n → (∀ z ∈ D ++ S, TgP Li.da z) → (D ++ S).length ≤ 3000000000000 → P3q k S → ∃ S', S'.Perm S ∧ P3q (2 * k) S' ∧ ∀ (r : AV) (O : List (Nat × Ob)), c4q r O ((D ++ S).length : Int) ((2 * k : Nat) : Int) ((D ++ S').map (·.1)) → f3q r O ((D ++ S).length : Int) (k : Int) (D.length : Int) ((D.length + 2 * k : Nat) : Int) ((D ++ S).map (·.1)) := by
 intro n
 induction n with
 | zero =>
  intro D S hn ht hl hb
  have : S = [] := List.eq_nil_of_length_eq_zero (by omega)
  subst this
  refine ⟨[], .refl _, .last (by simp) .nil, fun r O h => ?_⟩
  have w1 : IntKind.wrap .i64 ((D.length : Int) + (k : Int)) = ((D.length + k : Nat) : Int) := by rw [wrI (by omega) (by simp at hl; omega)]; simp
  have w2 : IntKind.wrap .i64 ((k : Int) * 2) = ((2 * k : Nat) : Int) := by rw [wrI (by omega) (by omega)]; omega
  apply g5q
  rw [w1, w2]
  exact a2q (decide_eq_false (by simp; omega)) (a2q (decide_eq_false (by simp; omega)) h)
 | succ n ih =>
  intro D S hn ht hl hb
  have hl' : D.length + S.length ≤ 3000000000000 := by simpa using hl
  have hlen : (D ++ S).length = D.length + S.length := by simp
  have w1 : IntKind.wrap .i64 ((D.length : Int) + (k : Int)) = ((D.length + k : Nat) : Int) := by rw [wrI (by omega) (by omega)]; simp
  have w2 : IntKind.wrap .i64 ((k : Int) * 2) = ((2 * k : Nat) : Int) := by rw [wrI (by omega) (by omega)]; omega
  have w3 : IntKind.wrap .i64 (2 * (k : Int)) = ((2 * k : Nat) : Int) := by rw [wrI (by omega) (by omega)]; omega
  have w4 : IntKind.wrap .i64 (((D.length + 2 * k : Nat) : Int) + ((2 * k : Nat) : Int)) = ((D.length + 2 * k + 2 * k : Nat) : Int) := by rw [wrI (by omega) (by omega)]; omega
  by_cases h1 : S.length ≤ k
  ·refine ⟨S, .refl _, .last (by omega) (a1uq hk hb h1), fun r O h => ?_⟩
   apply g5q
   rw [w1, w2]
   exact a2q (decide_eq_false (by omega)) (a2q (decide_eq_false (by omega)) h)
  ·obtain ⟨b1, S1, rfl, hb1, hs1, hb2⟩ : ∃ b1 S1, S = b1 ++ S1 ∧ b1.length = k ∧ Sd e6q b1 ∧ P3q k S1 := by
    cases hb with
    | last h _ => exact absurd h h1
    | cons h2 h3 h4 => exact ⟨_, _, rfl, h2, h3, h4⟩
   simp only [List.length_append] at h1 hn hl'
   have hlen : (D ++ (b1 ++ S1)).length = D.length + (b1.length + S1.length) := by simp
   by_cases h2 : S1.length < k
   ·have hs2 := a1uq hk hb2 (by omega)
    obtain ⟨M, p1, p2, p3⟩ := a06q hO _ D b1 S1 [] (Nat.le_refl _) (by intro h; subst h; simp at hb1; omega) (by intro h; subst h; simp at h1; omega) (by simpa using ht) (by simpa using hl) hs1 hs2
    refine ⟨M, p1, .last (by rw [p1.length_eq]; simp; omega) p2, fun r O h => ?_⟩
    apply g5q
    rw [w1, w2]
    have e1 : (D ++ b1).length = D.length + k := by simp [hb1]
    have e2 : (D ++ b1 ++ S1).length = (D ++ (b1 ++ S1)).length := by simp <;> omega
    have e3 : D ++ b1 ++ S1 ++ [] = D ++ (b1 ++ S1) := by simp
    rw [e1, e2, e3, List.append_nil] at p3
    exact a2q (decide_eq_false (by omega)) (a6q (decide_eq_true (by omega)) ⟨_, p3, h⟩)
   ·obtain ⟨b2, S2, rfl, hb2l, hs2, hb3⟩ : ∃ b2 S2, S1 = b2 ++ S2 ∧ b2.length = k ∧ Sd e6q b2 ∧ P3q k S2 := by
     cases hb2 with
     | last g g' => exact ⟨_, [], by simp, by omega, g', .last (by simp) .nil⟩
     | cons g2 g3 g4 => exact ⟨_, _, rfl, g2, g3, g4⟩
    simp only [List.length_append] at h1 h2 hn hl'
    have hlen : (D ++ (b1 ++ (b2 ++ S2))).length = D.length + (b1.length + (b2.length + S2.length)) := by simp
    obtain ⟨M, p1, p2, p3⟩ := a06q hO _ D b1 b2 S2 (Nat.le_refl _) (by intro h; subst h; simp at hb1; omega) (by intro h; subst h; simp at hb2l; omega) (by simpa using ht) (by simpa using hl) hs1 hs2
    have pl := p1.length_eq
    simp only [List.length_append] at pl
    obtain ⟨S', q1, q2, q3⟩ := ih (D ++ M) S2 (by omega) (fun w hw => ht w (by
     have hp : w ∈ M → w ∈ b1 ++ b2 := fun h => p1.subset h
     simp at hw hp ⊢; grind)) (by simp; omega) hb3
    refine ⟨M ++ S', ?_, .cons (by omega) p2 q2, fun r O h => ?_⟩
    ·have := (p1.append q1)
     simpa using this
    ·have e4 : D ++ M ++ S' = D ++ (M ++ S') := by simp
     have e5 : (D ++ M ++ S2).length = (D ++ (b1 ++ (b2 ++ S2))).length := by simp; omega
     have e6 : (D ++ M).length = D.length + 2 * k := by simp; omega
     have h5 := q3 r O
     rw [e4, e5, e6] at h5
     have e1 : (D ++ b1).length = D.length + k := by simp [hb1]
     have e2 : (D ++ b1 ++ b2).length = D.length + 2 * k := by simp; omega
     have e3 : D ++ b1 ++ b2 ++ S2 = D ++ (b1 ++ (b2 ++ S2)) := by simp
     rw [e1, e2, e3] at p3
     apply g5q
     rw [w1, w3, w4]
     exact a6q (decide_eq_true (by omega)) ⟨_, p3, h5 h⟩
theorem ab1q (hO : SWO e6q) : ∀ (n k : Nat) (S : List (List Da × Li)), S.length ≤ n + k → 0 < k → k ≤ 6000000000000 → (∀ z ∈ S, TgP Li.da z) → S.length ≤ 3000000000000 → P3q k S → ∃ S', S'.Perm S ∧ Sd e6q S' ∧ c4q (.tup []) [(2000, .lst 85 7 ((S').map (·.1)))] (S.length : Int) (k : Int) (S.map (·.1)) := by
 intro n
 induction n with
 | zero =>
  intro k S hn hk hk2 ht hl hb
  refine ⟨S, .refl _, a1uq hk hb (by omega), ?_⟩
  apply i9q
  exact a2q (decide_eq_false (by omega)) ⟨rfl, rfl⟩
 | succ n ih =>
  intro k S hn hk hk2 ht hl hb
  by_cases h : S.length ≤ k
  ·refine ⟨S, .refl _, a1uq hk hb h, ?_⟩
   apply i9q
   exact a2q (decide_eq_false (by omega)) ⟨rfl, rfl⟩
  ·obtain ⟨S1, p1, p2, p3⟩ := aaDq hO k hk hk2 S.length [] S (Nat.le_refl _) (by simpa using ht) (by simpa using hl) hb
   have pl := p1.length_eq
   obtain ⟨S', q1, q2, q3⟩ := ih (2 * k) S1 (by omega) (by omega) (by omega) (fun z hz => ht z (p1.subset hz)) (by omega) p2
   refine ⟨S', q1.trans p1, q2, ?_⟩
   have w3 : IntKind.wrap .i64 (2 * (k : Int)) = ((2 * k : Nat) : Int) := by rw [wrI (by omega) (by omega)]; omega
   have h5 := p3 (.tup []) [(2000, .lst 85 7 ((S').map (·.1)))]
   simp only [List.nil_append, List.length_nil, Nat.zero_add] at h5
   rw [pl] at q3
   apply i9q
   rw [w3]
   exact a6q (decide_eq_true (by omega)) (h5 q3)
theorem a6rq (hO : SWO e6q) : ∀ (n : Nat) (D S : List (List Da × Li)), S.length ≤ n → (∀ z ∈ D ++ S, TgP Li.da z) → (D ++ S).length ≤ 3000000000000 → ∃ S', S'.Perm S ∧ P3q 20 S' ∧ ∀ (r : AV) (O : List (Nat × Ob)), c4q r O ((D ++ S).length : Int) 20 ((D ++ S').map (·.1)) → f4q r O ((D ++ S).length : Int) 20 (D.length : Int) ((D.length + 20 : Nat) : Int) ((D ++ S).map (·.1)) := by
 intro n
 induction n with
 | zero =>
  intro D S hn ht hl
  have : S = [] := List.eq_nil_of_length_eq_zero (by omega)
  subst this
  obtain ⟨M, p1, p2, p3⟩ := T5q hO D [] [] (by simpa using ht) (by simpa using hl)
  have : M = [] := List.eq_nil_of_length_eq_zero (by rw [p1.length_eq]; rfl)
  subst this
  refine ⟨[], .refl _, .last (by simp) .nil, fun r O h => ?_⟩
  simp only [List.append_nil] at p3 h ⊢
  apply i8q
  exact a2q (decide_eq_false (by omega)) ⟨_, p3, h⟩
 | succ n ih =>
  intro D S hn ht hl
  have hl' : D.length + S.length ≤ 3000000000000 := by simpa using hl
  have hlen : (D ++ S).length = D.length + S.length := by simp
  by_cases h1 : S.length < 20
  ·obtain ⟨M, p1, p2, p3⟩ := T5q hO D S [] (by simpa using ht) (by simpa using hl)
   refine ⟨M, p1, .last (by rw [p1.length_eq]; omega) p2, fun r O h => ?_⟩
   apply i8q
   rw [List.append_nil, List.append_nil] at p3
   exact a2q (decide_eq_false (by omega)) ⟨_, p3, h⟩
  ·obtain ⟨b, S2, rfl, hb⟩ : ∃ b S2, S = b ++ S2 ∧ b.length = 20 := ⟨S.take 20, S.drop 20, by simp, by simp; omega⟩
   simp only [List.length_append] at h1 hn hl'
   have hlen : (D ++ (b ++ S2)).length = D.length + (b.length + S2.length) := by simp
   obtain ⟨M, p1, p2, p3⟩ := T5q hO D b S2 (by simpa using ht) (by simpa using hl)
   have pl := p1.length_eq
   obtain ⟨S', q1, q2, q3⟩ := ih (D ++ M) S2 (by omega) (fun w hw => ht w (by
    have hp : w ∈ M → w ∈ b := fun h => p1.subset h
    simp at hw hp ⊢; grind)) (by simp; omega)
   refine ⟨M ++ S', p1.append q1, .cons (by omega) p2 q2, fun r O h => ?_⟩
   have e4 : D ++ M ++ S' = D ++ (M ++ S') := by simp
   have e5 : (D ++ M ++ S2).length = (D ++ (b ++ S2)).length := by simp; omega
   have e6 : (D ++ M).length = D.length + 20 := by simp; omega
   have h5 := q3 r O
   rw [e4, e5, e6] at h5
   have e1 : (D ++ b).length = D.length + 20 := by simp [hb]
   have e3 : D ++ b ++ S2 = D ++ (b ++ S2) := by simp
   have w4 : IntKind.wrap .i64 (((D.length + 20 : Nat) : Int) + 20) = ((D.length + 20 + 20 : Nat) : Int) := by rw [wrI (by omega) (by omega)]; omega
   rw [e1, e3] at p3
   apply i8q
   rw [w4]
   exact a6q (decide_eq_true (by omega)) ⟨_, p3, h5 h⟩
theorem abfq (hO : SWO e6q) (S : List (List Da × Li)) (ht : ∀ z ∈ S, TgP Li.da z) (hl : S.length ≤ 3000000000000) : ∃ S', S'.Perm S ∧ Sd e6q S' ∧ XC pg 235 [.one (.ol 2000), .one (.d (.fn 135))] [(2000, .lst 85 7 ((S).map (·.1)))] (.tup []) [(2000, .lst 85 7 ((S').map (·.1)))] := by
 obtain ⟨S1, p1, p2, p3⟩ := a6rq hO S.length [] S (Nat.le_refl _) (by simpa using ht) (by simpa using hl)
 have pl := p1.length_eq
 obtain ⟨S', q1, q2, q3⟩ := ab1q hO S.length 20 S1 (by omega) (by omega) (by omega) (fun z hz => ht z (p1.subset hz)) (by omega) p2
 refine ⟨S', q1.trans p1, q2, ?_⟩
 have h5 := p3 (.tup []) [(2000, .lst 85 7 ((S').map (·.1)))]
 simp only [List.nil_append, List.length_nil, Nat.zero_add] at h5
 rw [pl] at q3
 apply w9q
 refine ⟨_, x2q ?_, rfl, rfl⟩
 rw [List.length_map]
 exact h5 q3
theorem a4Eq {x y r s : Int} (h : r = -s) : u6q x y r = -u6q y x s := by
 unfold u6q; split <;> split <;> (try split) <;> omega
theorem a6gq {x y r : Int} : u6q x y r ≤ 0 ↔ x < y ∨ (x = y ∧ r ≤ 0) := by
 unfold u6q; split
 ·omega
 ·split <;> omega
mutual
theorem Tm.cmp_neg : ∀ a b : Tm, Tm.cmp a b = -Tm.cmp b a
 | .mk f v ks, .mk g u ls => by
  rw [Tm.cmp_mk, Tm.cmp_mk]
  exact a4Eq (a4Eq (a4Eq (Tm.cmps_neg ks ls)))
theorem Tm.cmps_neg : ∀ a b : List Tm, Tm.cmps a b = -Tm.cmps b a
 | [], [] => by simp [Tm.cmps]
 | [], _ :: _ => by simp [Tm.cmps]
 | _ :: _, [] => by simp [Tm.cmps]
 | t :: r, u :: s => by
  have h1 := Tm.cmp_neg t u
  have h2 := Tm.cmps_neg r s
  rw [Tm.cmps_cons, Tm.cmps_cons]
  split <;> split <;> omega
end
mutual
theorem Tm.cmp_eq : ∀ a b : Tm, Tm.cmp a b = 0 → a = b
 | .mk f v ks, .mk g u ls, h => by
  obtain ⟨h1, h2, h3, h4⟩ := Tm.cmp0.1 h
  rw [h1, h2, Tm.cmps_eq ks ls h3 h4]
theorem Tm.cmps_eq : ∀ a b : List Tm, a.length = b.length → Tm.cmps a b = 0 → a = b
 | [], [], _, _ => rfl
 | [], _ :: _, h, _ => by simp at h
 | _ :: _, [], h, _ => by simp at h
 | t :: r, u :: s, h, h2 => by
  rw [Tm.cmps_cons] at h2
  split at h2
  ·rename_i h3
   rw [Tm.cmp_eq t u h3, Tm.cmps_eq r s (by simpa using h) h2]
  ·rename_i h3
   exact absurd h2 h3
end
mutual
theorem Tm.cmp_tr : ∀ a b c : Tm, Tm.cmp a b ≤ 0 → Tm.cmp b c ≤ 0 → Tm.cmp a c ≤ 0
 | .mk f v ks, .mk g u ls, .mk p w ms, h1, h2 => by
  have ih := Tm.cmps_tr ks ls ms
  rw [Tm.cmp_mk, a6gq, a6gq, a6gq] at h1 h2 ⊢
  rcases h1 with h1 | ⟨h1, h1' | ⟨h1', h1'' | ⟨h1'', h3⟩⟩⟩ <;> rcases h2 with h2 | ⟨h2, h2' | ⟨h2', h2'' | ⟨h2'', h4⟩⟩⟩
  all_goals first
   | omega
   | exact .inr ⟨by omega, .inr ⟨by omega, .inr ⟨by omega, ih (by omega) (by omega) h3 h4⟩⟩⟩
theorem Tm.cmps_tr : ∀ a b c : List Tm, a.length = b.length → b.length = c.length → Tm.cmps a b ≤ 0 → Tm.cmps b c ≤ 0 → Tm.cmps a c ≤ 0
 | [], [], [], _, _, _, _ => by simp [Tm.cmps]
 | [], _ :: _, _, h, _, _, _ => by simp at h
 | _ :: _, [], _, h, _, _, _ => by simp at h
 | _, [], _ :: _, _, h, _, _ => by simp at h
 | _, _ :: _, [], _, h, _, _ => by simp at h
 | t :: r, u :: s, w :: q, h1, h2, h3, h4 => by
  have i1 := Tm.cmp_tr t u w
  have i2 := Tm.cmps_tr r s q (by simpa using h1) (by simpa using h2)
  have n1 := Tm.cmp_neg t u
  rw [Tm.cmps_cons] at h3 h4 ⊢
  by_cases e1 : Tm.cmp t u = 0
  ·have := Tm.cmp_eq t u e1
   subst this
   rw [if_pos e1] at h3
   by_cases e2 : Tm.cmp t w = 0
   ·rw [if_pos e2] at h4 ⊢; exact i2 h3 h4
   ·rw [if_neg e2] at h4 ⊢; exact h4
  ·rw [if_neg e1] at h3
   by_cases e2 : Tm.cmp u w = 0
   ·have := Tm.cmp_eq u w e2
    subst this
    rw [if_neg e1]; exact h3
   ·rw [if_neg e2] at h4
    have h5 := i1 h3 h4
    by_cases e3 : Tm.cmp t w = 0
    ·have := Tm.cmp_eq t w e3
     subst this
     omega
    ·rw [if_neg e3]; exact h5
end
theorem Li.cmp_neg (a b : Li) : Li.cmp a b = -Li.cmp b a := by
 have h1 := Tm.cmp_neg a.l b.l
 have h2 := Tm.cmp_neg a.r b.r
 unfold Li.cmp
 by_cases hp : a.p = b.p
 ·rw [if_pos hp, if_pos hp.symm]
  split <;> split <;> omega
 ·have e : b.p = !a.p := by cases hb : b.p <;> cases ha : a.p <;> simp_all
  rw [if_neg hp, if_neg (show ¬ b.p = a.p from fun h => hp h.symm), e]
  cases a.p <;> rfl
theorem Li.cmp_eq (a b : Li) (h : Li.cmp a b = 0) : a = b := by
 obtain ⟨p, l, r⟩ := a
 obtain ⟨p', l', r'⟩ := b
 unfold Li.cmp at h
 dsimp only at h
 by_cases hp : p = p'
 ·rw [if_pos hp] at h
  split at h
  ·rename_i hl
   rw [hp, Tm.cmp_eq l l' hl, Tm.cmp_eq r r' h]
  ·rename_i hl
   exact absurd h hl
 ·rw [if_neg hp] at h
  split at h <;> simp at h
theorem Li.cmp_tr (a b c : Li) (h1 : Li.cmp a b ≤ 0) (h2 : Li.cmp b c ≤ 0) : Li.cmp a c ≤ 0 := by
 obtain ⟨p, l, r⟩ := a
 obtain ⟨p', l', r'⟩ := b
 obtain ⟨p2, l2, r2⟩ := c
 unfold Li.cmp at h1 h2 ⊢
 dsimp only at h1 h2 ⊢
 have n1 := Tm.cmp_neg l l'
 have t1 := Tm.cmp_tr l l' l2
 have t2 := Tm.cmp_tr r r' r2
 have e1 := Tm.cmp_eq l l'
 have e2 := Tm.cmp_eq l' l2
 have e3 := Tm.cmp_eq l l2
 cases p <;> cases p' <;> cases p2 <;> simp at h1 h2 ⊢
 all_goals
  by_cases c1 : Tm.cmp l l' = 0
  ·have := e1 c1
   subst this
   rw [if_pos c1] at h1
   by_cases c2 : Tm.cmp l l2 = 0
   ·rw [if_pos c2] at h2 ⊢; exact t2 h1 h2
   ·rw [if_neg c2] at h2 ⊢; exact h2
  ·rw [if_neg c1] at h1
   by_cases c2 : Tm.cmp l' l2 = 0
   ·have := e2 c2
    subst this
    rw [if_neg c1]; exact h1
   ·rw [if_neg c2] at h2
    have h5 := t1 h1 h2
    by_cases c3 : Tm.cmp l l2 = 0
    ·have := e3 c3
     subst this
     omega
    ·rw [if_neg c3]; exact h5
theorem ahcq : SWO e5q := ⟨fun {a b} h h2 => by have := Tm.cmp_neg a.2 b.2; unfold e5q at h h2; omega, fun {a b c} h1 h2 h3 => by
 have n1 := Tm.cmp_neg a.2 b.2
 have n2 := Tm.cmp_neg b.2 c.2
 have n3 := Tm.cmp_neg a.2 c.2
 have t := Tm.cmp_tr a.2 b.2 c.2
 unfold e5q at h1 h2 h3
 have := t (by omega) (by omega)
 omega⟩
theorem ahfq : SWO e6q := ⟨fun {a b} h h2 => by have := Li.cmp_neg a.2 b.2; unfold e6q at h h2; omega, fun {a b c} h1 h2 h3 => by
 have n1 := Li.cmp_neg a.2 b.2
 have n2 := Li.cmp_neg b.2 c.2
 have n3 := Li.cmp_neg a.2 c.2
 have t := Li.cmp_tr a.2 b.2 c.2
 unfold e6q at h1 h2 h3
 have := t (by omega) (by omega)
 omega⟩
def y4q {α : Type} (cmp : α → α → Int) (x : α) : List α → List α
 | [] => [x]
 | y :: r => if cmp y x ≤ 0 then y :: y4q cmp x r else x :: y :: r
def q2q {α : Type} (cmp : α → α → Int) (l : List α) : List α := l.foldl (fun a x => y4q cmp x a) []
theorem a2Eq {α : Type} (cmp : α → α → Int) (x : α) : ∀ l : List α, (y4q cmp x l).Perm (x :: l)
 | [] => .refl _
 | y :: r => by
  unfold y4q; split
  ·exact ((a2Eq cmp x r).cons y).trans (.swap ..)
  ·exact .refl _
theorem A2q {α : Type} (cmp : α → α → Int) (l : List α) : (q2q cmp l).Perm l := by
 have : ∀ (l a : List α), (l.foldl (fun a x => y4q cmp x a) a).Perm (a ++ l) := by
  intro l
  induction l with
  | nil => intro a; simp
  | cons x r ih =>
   intro a
   refine (ih _).trans ?_
   refine ((a2Eq cmp x a).append_right r).trans ?_
   exact List.perm_middle.symm
 have h := this l []
 rw [List.nil_append] at h
 exact h
abbrev SdC {α : Type} (cmp : α → α → Int) (l : List α) : Prop := l.Pairwise (fun a b => cmp a b ≤ 0)
structure TotC {α : Type} (cmp : α → α → Int) : Prop where
 neg : ∀ a b, cmp a b = -cmp b a
 eq : ∀ a b, cmp a b = 0 → a = b
 tr : ∀ a b c, cmp a b ≤ 0 → cmp b c ≤ 0 → cmp a c ≤ 0
theorem aciq : TotC Tm.cmp := ⟨Tm.cmp_neg, Tm.cmp_eq, Tm.cmp_tr⟩
theorem a8Hq : TotC Li.cmp := ⟨Li.cmp_neg, Li.cmp_eq, Li.cmp_tr⟩
theorem abAq {α : Type} {cmp : α → α → Int} (h : TotC cmp) (x : α) : ∀ {l : List α}, SdC cmp l → SdC cmp (y4q cmp x l)
 | [], _ => by simp [y4q, SdC]
 | y :: r, hs => by
  obtain ⟨h1, h2⟩ := List.pairwise_cons.1 hs
  unfold y4q; split
  ·rename_i hy
   refine List.pairwise_cons.2 ⟨fun z hz => ?_, abAq h x h2⟩
   rcases List.mem_cons.1 ((a2Eq cmp x r).subset hz) with rfl | hz
   ·exact hy
   ·exact h1 z hz
  ·rename_i hy
   have hxy : cmp x y ≤ 0 := by have := h.neg x y; omega
   refine List.pairwise_cons.2 ⟨fun z hz => ?_, hs⟩
   rcases List.mem_cons.1 hz with rfl | hz
   ·exact hxy
   ·exact h.tr _ _ _ hxy (h1 z hz)
theorem a4vq {α : Type} {cmp : α → α → Int} (h : TotC cmp) (l : List α) : SdC cmp (q2q cmp l) := by
 have : ∀ (l a : List α), SdC cmp a → SdC cmp (l.foldl (fun a x => y4q cmp x a) a) := by
  intro l
  induction l with
  | nil => intro a h; exact h
  | cons x r ih => intro a ha; exact ih _ (abAq h x ha)
 exact this l [] (by simp [SdC])
theorem a65q {α : Type} {cmp : α → α → Int} (h : TotC cmp) : ∀ {a b : List α}, SdC cmp a → SdC cmp b → a.Perm b → a = b
 | [], b, _, _, hp => (List.Perm.nil_eq hp)
 | x :: r, b, ha, hb, hp => by
  cases b with
  | nil => exact absurd hp.length_eq (by simp)
  | cons y s =>
   obtain ⟨a1, a2⟩ := List.pairwise_cons.1 ha
   obtain ⟨b1, b2⟩ := List.pairwise_cons.1 hb
   have hxy : x = y := by
    have h1 : cmp x y ≤ 0 := by
     rcases List.mem_cons.1 (hp.symm.subset (List.mem_cons_self (a := y) (l := s))) with e | h1
     ·have := h.neg x y; rw [e] at this ⊢; omega
     ·exact a1 y h1
    have h2 : cmp y x ≤ 0 := by
     rcases List.mem_cons.1 (hp.subset (List.mem_cons_self (a := x) (l := r))) with e | h2
     ·have := h.neg x y; rw [e] at this ⊢; omega
     ·exact b1 x h2
    exact h.eq x y (by have := h.neg x y; omega)
   subst hxy
   rw [a65q h a2 b2 hp.cons_inv]
theorem adxq {α : Type} {cmp : α → α → Int} (h : TotC cmp) {l : List (List Da × α)} (hs : Sd (fun a b : List Da × α => cmp a.2 b.2 < 0) l) : SdC cmp (l.map (·.2)) := by
 rw [SdC, List.pairwise_map]
 exact hs.imp fun {a b} h1 => by have := h.neg a.2 b.2; omega
theorem ab7q (ts : List Tm) (hl : ts.length ≤ 3000000000000) : XC pg 201 [.one (.ol 2000), .one (.d (.fn 143))] [(2000, .tr 30 3 (Tm.das ts))] (.tup []) [(2000, .tr 30 3 (Tm.das (q2q Tm.cmp ts)))] := by
 refine abnq fun xs' hx => ?_
 rw [Tm.das_map] at hx
 obtain ⟨zs, rfl, rfl, ht⟩ := a1sq hx
 obtain ⟨S', p1, p2, p3⟩ := aaGq ahcq zs ht (by simpa using hl)
 refine ⟨S'.map (·.1), ⟨[], by rw [List.append_nil]; exact p1.map _⟩, ?_, p3⟩
 rw [a1tq fun z hz => ht z (p1.subset hz), Tm.das_map]
 congr 1
 exact a65q aciq (adxq aciq p2) (a4vq aciq _) ((p1.map _).trans (A2q _ _).symm)
theorem ab2q (ts : List Li) (hl : ts.length ≤ 3000000000000) : XC pg 235 [.one (.ol 2000), .one (.d (.fn 135))] [(2000, .tr 85 7 (ts.map Li.da))] (.tup []) [(2000, .tr 85 7 ((q2q Li.cmp ts).map Li.da))] := by
 refine abnq fun xs' hx => ?_
 obtain ⟨zs, rfl, rfl, ht⟩ := a1sq hx
 obtain ⟨S', p1, p2, p3⟩ := abfq ahfq zs ht (by simpa using hl)
 refine ⟨S'.map (·.1), ⟨[], by rw [List.append_nil]; exact p1.map _⟩, ?_, p3⟩
 rw [a1tq fun z hz => ht z (p1.subset hz)]
 congr 1
 exact a65q a8Hq (adxq a8Hq p2) (a4vq a8Hq _) ((p1.map _).trans (A2q _ _).symm)
def bl (s : List Sy) (f : Int) : Bool := inR f 0 ((s.length : Int) - 1) && ((s[f.toNat]?).map (·.ac)).getD false
mutual
def nrm (s : List Sy) : Tm → Tm
 | .mk f v ks => .mk f v (if bl s f then q2q Tm.cmp (nrmK s (bl s f) f ks) else nrmK s (bl s f) f ks)
def nrmK (s : List Sy) (b : Bool) (f : Int) : List Tm → List Tm
 | [] => []
 | t :: r => (if b = true ∧ (nrm s t).f = f then (nrm s t).ks else [nrm s t]) ++ nrmK s b f r
end
theorem afUq (a b : List Tm) : Tm.cns (a ++ b) = Tm.cns a + Tm.cns b := by
 induction a with
 | nil => simp [Tm.cns]
 | cons x r ih => simp only [List.cons_append, Tm.cns, ih]; omega
theorem ae8q {a b : List Tm} (h : a.Perm b) : Tm.cns a = Tm.cns b := by
 rw [Tm.cns_cnL, Tm.cns_cnL, cnL, cnL, h.length_eq, (h.map _).sum_nat]
theorem Tm.cn_ks (t : Tm) : Tm.cns t.ks = t.cn := by cases t; simp [Tm.ks, Tm.cn]
mutual
theorem Q9q (s : List Sy) : ∀ t : Tm, (nrm s t).cn ≤ t.cn
 | .mk f v ks => by
  have h := nrmK_cns s (bl s f) f ks
  simp only [nrm, Tm.cn]
  split
  ·rw [ae8q (A2q _ _)]; exact h
  ·exact h
theorem nrmK_cns (s : List Sy) (b : Bool) (f : Int) : ∀ l : List Tm, Tm.cns (nrmK s b f l) ≤ Tm.cns l
 | [] => by simp [nrmK, Tm.cns]
 | t :: r => by
  have h1 := Q9q s t
  have h2 := nrmK_cns s b f r
  simp only [nrmK, afUq, Tm.cns]
  split
  ·rw [Tm.cn_ks]; omega
  ·simp only [Tm.cns]; omega
end
theorem a0Oq {x lo hi : Int} : inR x lo hi = true ↔ lo ≤ x ∧ x ≤ hi := by simp [inR]
theorem adeq {s : List Sy} {f : Int} {m : Nat} {x : Sy} (hf : f = (m : Int)) (hm : s[m]? = some x) : bl s f = x.ac := by
 have h := (List.getElem?_eq_some_iff.1 hm).1
 subst hf
 have : inR (m : Int) 0 ((s.length : Int) - 1) = true := a0Oq.2 ⟨by omega, by omega⟩
 simp [bl, this, hm]
theorem a6lq (s : List Sy) (f : Int) (hs : s.length ≤ 10000000) : XC pg 151 [L (s.map Sy.da), Z f] [] (B (bl s f)) [] := by
 have w : IntKind.wrap .i64 ((s.length : Int) - 1) = (s.length : Int) - 1 := wrI (by omega) (by omega)
 apply a8vq
 rw [List.length_map, w]
 refine ⟨_, C6q f 0 _, ?_⟩
 by_cases h : inR f 0 ((s.length : Int) - 1) = true
 ·obtain ⟨h1, h2⟩ := a0Oq.1 h
  obtain ⟨m, rfl⟩ : ∃ m : Nat, f = (m : Int) := ⟨f.toNat, by omega⟩
  obtain ⟨x, hx⟩ := d0q (l := s) (i := m) (by omega)
  have hx2 := i7q (g := Sy.da) hx
  refine a6q h ⟨m, rfl, _, _, _, hx2, ?_, rfl⟩
  rw [adeq rfl hx]
 ·exact a2q (Bool.eq_false_iff.2 h) ⟨by simp [bl, h], rfl⟩
theorem aaQq (s : List Sy) (f : Int) (hs : s.length ≤ 10000000) : XC pg 161 [L (s.map Sy.da), Z f] [] (B (inR f 0 ((s.length : Int) - 1))) [] := by
 have w : IntKind.wrap .i64 ((s.length : Int) - 1) = (s.length : Int) - 1 := wrI (by omega) (by omega)
 apply a1Vq
 rw [List.length_map, w]
 exact ⟨_, C7q f 0 _, rfl, rfl⟩
theorem a12q (s : List Sy) (f : Int) (hs : s.length ≤ 10000000) : XC pg 98 [L (s.map Sy.da), Z f] [] (B (bl s f)) [] := by
 apply a7Qq
 refine ⟨_, aaQq s f hs, ?_⟩
 by_cases h : inR f 0 ((s.length : Int) - 1) = true
 ·obtain ⟨h1, h2⟩ := a0Oq.1 h
  obtain ⟨m, rfl⟩ : ∃ m : Nat, f = (m : Int) := ⟨f.toNat, by omega⟩
  obtain ⟨x, hx⟩ := d0q (l := s) (i := m) (by omega)
  have hx2 := i7q (g := Sy.da) hx
  refine a6q h ⟨m, rfl, _, _, _, hx2, ?_, rfl⟩
  rw [adeq rfl hx]
 ·exact a2q (Bool.eq_false_iff.2 h) ⟨by simp [bl, h], rfl⟩
theorem L3q {α β : Type} (g : α → β) (p : List α) : List.drop p.length (p.map g) = [] := List.drop_eq_nil_of_le (by simp)
theorem a59q {α : Type} (cmp : α → α → Int) (l : List α) (x : α) : q2q cmp (l ++ [x]) = y4q cmp x (q2q cmp l) := by simp [q2q, List.foldl_append]
theorem a3dq (a b : List Tm) : Tm.das (a ++ b) = Tm.das a ++ Tm.das b := by simp [Tm.das_map]
theorem a4Pq (t : Tm) (l : List Tm) (hl : l.length ≤ 3000000000000) : ∀ (q p : List Tm), l = p ++ q → A9q (.one (.ol 0)) [(0, .lst 30 3 (Tm.das (p ++ y4q Tm.cmp t q)))] (Tm.das l) (p.length : Int) t.f t.v (Tm.das t.ks)
 | [], p, e => by
  have e3 : [] ++ (Tm.das l).take p.length ++ [[.int .i64 t.f, .int .i64 t.v, .sl (Tm.das t.ks)]] ++ (Tm.das l).drop p.length = Tm.das (p ++ y4q Tm.cmp t []) := by
   subst e
   obtain ⟨f, v, ks⟩ := t
   simp [Tm.das_map, y4q, u7q, L3q, Tm.da, Tm.f, Tm.v, Tm.ks]
  have hpl : l.length = p.length := by rw [e]; simp
  apply X8q
  refine a2q (decide_eq_false (by rw [b3q]; omega)) ⟨p.length, rfl, ⟨by rw [b3q]; omega⟩, ⟨Z2q _⟩, ⟨fun y hy => Z2q _ y (List.mem_of_mem_take (List.mem_of_mem_drop hy))⟩, ⟨?_⟩, ⟨?_⟩, p.length, rfl, ⟨by rw [b3q]; omega⟩, ⟨Z2q _⟩, ⟨fun y hy => Z2q _ y (List.mem_of_mem_take (List.mem_of_mem_drop hy))⟩, ⟨?_⟩, rfl, ?_⟩
  ·simp [b3q]; omega
  ·simp [b3q]; omega
  ·simp [b3q]; omega
  ·rw [← e3]; simp
 | y :: q, p, e => by
  have ih := a4Pq t l hl q (p ++ [y]) (by simp [e])
  have hb := B1q t y
  have hn := Tm.cmp_neg t y
  have hx : (Tm.das l)[p.length]? = some y.da := by rw [e]; exact q5q
  have hpl : l.length = p.length + q.length + 1 := by rw [e]; simp; omega
  rw [h0q] at ih
  have e3 : Tm.cmp t y < 0 → [] ++ (Tm.das l).take p.length ++ [[.int .i64 t.f, .int .i64 t.v, .sl (Tm.das t.ks)]] ++ (Tm.das l).drop p.length = Tm.das (p ++ y4q Tm.cmp t (y :: q)) := fun h => by
   subst e
   have e4 : y4q Tm.cmp t (y :: q) = t :: y :: q := by rw [y4q, if_neg (by omega)]
   rw [e4]
   obtain ⟨f, v, ks⟩ := t
   simp [Tm.das_map, List.take_append, List.drop_append, u7q, L3q, Tm.da, Tm.f, Tm.v, Tm.ks]
  have et : t.da = [.int .i64 t.f, .int .i64 t.v, .sl (Tm.das t.ks)] := by obtain ⟨f, v, ks⟩ := t; rfl
  rw [et] at hb
  have ih2 : ¬ Tm.cmp t y < 0 → p ++ y4q Tm.cmp t (y :: q) = p ++ [y] ++ y4q Tm.cmp t q := fun h => by
   rw [y4q, if_pos (by omega)]; simp
  obtain ⟨g, u, ms⟩ := y
  apply X8q
  refine a6q (decide_eq_true (by rw [b3q]; omega)) ⟨p.length, rfl, g, u, Tm.das ms, hx, _, hb, ?_⟩
  by_cases h : Tm.cmp t (.mk g u ms) < 0
  ·refine a2q (by simp [h]) ⟨p.length, rfl, ⟨by rw [b3q]; omega⟩, ⟨Z2q _⟩, ⟨fun y hy => Z2q _ y (List.mem_of_mem_take (List.mem_of_mem_drop hy))⟩, ⟨?_⟩, ⟨?_⟩, p.length, rfl, ⟨by rw [b3q]; omega⟩, ⟨Z2q _⟩, ⟨fun y hy => Z2q _ y (List.mem_of_mem_take (List.mem_of_mem_drop hy))⟩, ⟨?_⟩, rfl, ?_⟩
   ·simp [b3q]; omega
   ·simp [b3q]; omega
   ·simp [b3q]; omega
   ·rw [← e3 h]; simp
  ·rw [ih2 h, wr1 (n := p.length + 1) (by omega) (by omega)]
   exact a6q (by simp [h]) ih
theorem a5Gq (t : Tm) (l : List Tm) (hl : l.length ≤ 3000000000000) : XC pg 199 [L (Tm.das l), .dat t.da] [] (.one (.ol 0)) [(0, .lst 30 3 (Tm.das (y4q Tm.cmp t l)))] := by
 have h := a4Pq t l hl l [] rfl
 obtain ⟨f, v, ks⟩ := t
 exact a8wq h
theorem a3Pq (r : AV) (O : List (Nat × Ob)) (s0 : List (List Da)) (s6 s3 s31 : Int) (s32 : List (List Da)) (s5 s51 n2 n3 : Int) (w : List Tm) : ∀ (q p acc : List Tm), w = p ++ q → acc.length + q.length ≤ 2500000000000 → p.length + q.length ≤ 2500000000000 → r2q r O s0 (IntKind.wrap .i64 (s6 + 1)) s3 s31 s32 0 0 s5 s51 (Tm.das (q2q Tm.cmp (acc ++ q))) → D8q r O s0 s6 (p.length : Int) s3 s31 s32 0 0 s5 s51 n2 n3 (Tm.das w) (Tm.das (q2q Tm.cmp acc))
 | [], p, acc, e, _, _, h => by
  apply a02q
  subst e
  exact a2q (d8q (by simp [b3q])) (by simpa using h)
 | y :: q, p, acc, e, h1, h2, h => by
  simp only [List.length_cons] at h1 h2
  have ih := a3Pq r O s0 s6 s3 s31 s32 s5 s51 n2 n3 w q (p ++ [y]) (acc ++ [y]) (by simp [e]) (by simp; omega) (by simp; omega) (by simpa using h)
  have c := a5Gq y (q2q Tm.cmp acc) (by rw [(A2q _ _).length_eq]; omega)
  have hx : (Tm.das w)[p.length]? = some y.da := by rw [e]; exact q5q
  have hlt : p.length < w.length := by rw [e]; simp
  rw [h0q, a59q] at ih
  obtain ⟨g, u, ms⟩ := y
  apply a02q
  refine a6q (f0q (by rw [b3q]; exact hlt)) ⟨p.length, rfl, g, u, Tm.das ms, hx, _, c, ?_⟩
  rw [wr1 (n := p.length + 1) (by omega) (by omega)]
  exact ih
theorem a26q (s : List Sy) (hs : s.length ≤ 10000000) (f v : Int) (ks : List Tm) (hk : Tm.cns ks ≤ 1200000000000) : ∀ (q p acc : List Tm), ks = p ++ q → acc.length + Tm.cns q ≤ 2400000000000 → (∀ t ∈ q, t.cn ≤ 1200000000000 ∧ XC pg 141 [L (s.map Sy.da), .dat t.da] [] (.dat (nrm s t).da) []) → r2q (.dat (Tm.mk f v (if bl s f then q2q Tm.cmp (acc ++ nrmK s (bl s f) f q) else acc ++ nrmK s (bl s f) f q)).da) [] (s.map Sy.da) (p.length : Int) f v (Tm.das ks) 0 0 f v (Tm.das (if bl s f then q2q Tm.cmp acc else acc))
 | [], p, acc, e, _, _ => by
  apply a0mq
  subst e
  refine a2q (d8q (by simp [b3q])) ⟨?_, rfl⟩
  simp only [nrmK, List.append_nil]
  rfl
 | y :: q, p, acc, e, ha, hc => by
  have hcn : Tm.cns (y :: q) = 1 + y.cn + Tm.cns q := by simp [Tm.cns]
  have hkl := Tm.cns_cnL ks ▸ g2q Tm.cn ks
  obtain ⟨hyc, cy⟩ := hc y (by simp)
  have hnc := Q9q s y
  have hnl := Tm.len_cns (nrm s y).ks
  rw [Tm.cn_ks] at hnl
  have hx : (Tm.das ks)[p.length]? = some y.da := by rw [e]; exact q5q
  have hlt : p.length < ks.length := by rw [e]; simp
  have hw := wr1 hlt (by omega)
  have ih := fun acc' h => a26q s hs f v ks hk q (p ++ [y]) acc' (by simp [e]) h (fun t ht => hc t (List.mem_cons_of_mem _ ht))
  rw [h0q] at ih
  have eb := a6lq s f hs
  have eK : nrmK s (bl s f) f (y :: q) = (if bl s f = true ∧ (nrm s y).f = f then (nrm s y).ks else [nrm s y]) ++ nrmK s (bl s f) f q := by rw [nrmK]
  rw [eK]
  have cP := a5Gq (nrm s y) (q2q Tm.cmp acc) (by rw [(A2q _ _).length_eq]; omega)
  generalize hny : nrm s y = ny at *
  generalize bl s f = b at *
  obtain ⟨g, u, ms⟩ := y
  obtain ⟨g', u', ms'⟩ := ny
  apply a0mq
  rw [hw]
  refine a6q (f0q (by rw [b3q]; exact hlt)) ⟨p.length, rfl, g, u, Tm.das ms, hx, _, _, _, cy, _, eb, ?_⟩
  cases b with
  | false =>
   refine a6q rfl ⟨⟨by simp [b3q]; omega⟩, ?_⟩
   have := ih (acc ++ [.mk g' u' ms']) (by simp; omega)
   simpa [a3dq, Tm.das, Tm.da] using this
  | true =>
   refine a2q rfl ?_
   by_cases hg : g' = f
   ·refine a2q (decide_eq_false (by simp [hg])) ?_
    have := ih (acc ++ ms') (by simp [Tm.ks] at hnl ⊢; omega)
    have h7 := a3Pq (.dat (Tm.mk f v (if true = true then q2q Tm.cmp (acc ++ ((if true = true ∧ (Tm.mk g' u' ms').f = f then (Tm.mk g' u' ms').ks else [.mk g' u' ms']) ++ nrmK s true f q)) else acc ++ ((if true = true ∧ (Tm.mk g' u' ms').f = f then (Tm.mk g' u' ms').ks else [.mk g' u' ms']) ++ nrmK s true f q))).da) [] (s.map Sy.da) (p.length : Int) f v (Tm.das ks) f v g' u' ms' ms' [] acc rfl (by simp [Tm.ks] at hnl; omega) (by simp [Tm.ks] at hnl ⊢; omega)
    rw [hw] at h7
    refine h7 ?_
    simpa [Tm.f, Tm.ks, hg, List.append_assoc] using this
   ·refine a6q (decide_eq_true (by simpa using hg)) ⟨_, cP, ?_⟩
    have := ih (acc ++ [.mk g' u' ms']) (by simp; omega)
    simp only [if_true, a59q] at this
    simpa [Tm.f, hg, List.append_assoc] using this
theorem R5q (s : List Sy) (hs : s.length ≤ 10000000) (t : Tm) : t.cn ≤ 1200000000000 → XC pg 141 [L (s.map Sy.da), .dat t.da] [] (.dat (nrm s t).da) [] := by
 induction t using Tm.ind with
 | h f v ks ih =>
 intro hc
 have hcn : (Tm.mk f v ks).cn = Tm.cns ks := by simp [Tm.cn]
 rw [hcn] at hc
 apply aahq
 have := a26q s hs f v ks hc ks [] [] rfl (by simp; omega) (fun t ht => by
  have hb : t.cn ≤ 1200000000000 := by have := Tm.cns_cnL ks ▸ j4q (cn := Tm.cn) ht; omega
  exact ⟨hb, ih t ht hb⟩)
 simpa [nrm, q2q, Tm.das] using this
theorem a24q (s : List Sy) (hs : s.length ≤ 10000000) (f v : Int) (ks : List Tm) (hk : Tm.cns ks ≤ 1200000000000) : ∀ (q p acc : List Tm), ks = p ++ q → acc.length + Tm.cns q ≤ 2400000000000 → (∀ t ∈ q, t.cn ≤ 1200000000000 ∧ XC pg 144 [L (s.map Sy.da), .dat t.da] [] (.agg [.d (.int .i64 (nrm s t).f), .d (.int .i64 (nrm s t).v), .ol 0]) [(0, .tr 30 3 (Tm.das (nrm s t).ks))]) → u8q (.agg [.d (.int .i64 f), .d (.int .i64 v), .ol 0]) [(0, .tr 30 3 (Tm.das (if bl s f then q2q Tm.cmp (acc ++ nrmK s (bl s f) f q) else acc ++ nrmK s (bl s f) f q)))] (s.map Sy.da) (Tm.das ks) (ks.length : Int) (p.length : Int) f v (Tm.das ks) 0 0 (Tm.das acc)
 | [], p, acc, e, ha, _ => by
  have eb := a12q s f hs
  have cs := ab7q acc (by omega)
  apply a04q
  subst e
  refine a2q (d8q (by simp)) ⟨_, eb, ?_⟩
  simp only [nrmK, List.append_nil]
  generalize bl s f = b at *
  cases b with
  | true => exact a6q rfl ⟨_, cs, by simp⟩
  | false => exact a2q rfl (by simp)
 | y :: q, p, acc, e, ha, hc => by
  have hcn : Tm.cns (y :: q) = 1 + y.cn + Tm.cns q := by simp [Tm.cns]
  have hkl := Tm.cns_cnL ks ▸ g2q Tm.cn ks
  obtain ⟨hyc, cy⟩ := hc y (by simp)
  have hnc := Q9q s y
  have hnl := Tm.len_cns (nrm s y).ks
  rw [Tm.cn_ks] at hnl
  have hx : (Tm.das ks)[p.length]? = some y.da := by rw [e]; exact q5q
  have hlt : p.length < ks.length := by rw [e]; simp
  have hw := wr1 hlt (by omega)
  have ih := fun acc' h => a24q s hs f v ks hk q (p ++ [y]) acc' (by simp [e]) h (fun t ht => hc t (List.mem_cons_of_mem _ ht))
  rw [h0q] at ih
  have eb := a12q s f hs
  have eK : nrmK s (bl s f) f (y :: q) = (if bl s f = true ∧ (nrm s y).f = f then (nrm s y).ks else [nrm s y]) ++ nrmK s (bl s f) f q := by rw [nrmK]
  rw [eK]
  generalize hny : nrm s y = ny at *
  generalize bl s f = b at *
  obtain ⟨g, u, ms⟩ := y
  obtain ⟨g', u', ms'⟩ := ny
  apply a04q
  rw [hw]
  refine a6q (f0q hlt) ⟨p.length, rfl, g, u, Tm.das ms, hx, _, _, _, cy, _, eb, ?_⟩
  simp only [Tm.f, Tm.v, Tm.ks] at hnl ⊢
  cases b with
  | false =>
   refine a2q rfl ⟨⟨by simp [b3q]; omega⟩, ?_⟩
   have := ih (acc ++ [.mk g' u' ms']) (by simp; omega)
   simpa [a3dq, Tm.das, Tm.da] using this
  | true =>
   refine a6q rfl ?_
   by_cases hg : g' = f
   ·refine a6q (decide_eq_true hg) ⟨⟨by simp [b3q]; omega⟩, ?_⟩
    have := ih (acc ++ ms') (by simp; omega)
    simpa [a3dq, hg, List.append_assoc] using this
   ·refine a2q (decide_eq_false hg) ⟨⟨by simp [b3q]; omega⟩, ?_⟩
    have := ih (acc ++ [.mk g' u' ms']) (by simp; omega)
    simpa [a3dq, Tm.das, Tm.da, hg, List.append_assoc] using this
theorem R3q (s : List Sy) (hs : s.length ≤ 10000000) (t : Tm) : t.cn ≤ 1200000000000 → XC pg 144 [L (s.map Sy.da), .dat t.da] [] (.agg [.d (.int .i64 (nrm s t).f), .d (.int .i64 (nrm s t).v), .ol 0]) [(0, .tr 30 3 (Tm.das (nrm s t).ks))] := by
 induction t using Tm.ind with
 | h f v ks ih =>
 intro hc
 have hcn : (Tm.mk f v ks).cn = Tm.cns ks := by simp [Tm.cn]
 rw [hcn] at hc
 apply a9fq
 have := a24q s hs f v ks hc ks [] [] rfl (by simp; omega) (fun t ht => by
  have hb : t.cn ≤ 1200000000000 := by have := Tm.cns_cnL ks ▸ j4q (cn := Tm.cn) ht; omega
  exact ⟨hb, ih t ht hb⟩)
 rw [b3q]
 simpa [nrm, Tm.f, Tm.v, Tm.ks, Tm.das] using this
def lmk (s : List Sy) (pos : Bool) (a b : Tm) : Li := if Tm.cmp (nrm s a) (nrm s b) < 0 then ⟨pos, nrm s b, nrm s a⟩ else ⟨pos, nrm s a, nrm s b⟩
theorem adoq (s : List Sy) (pos : Bool) (a b : Tm) : (lmk s pos a b).cn ≤ a.cn + b.cn := by
 have h1 := Q9q s a
 have h2 := Q9q s b
 unfold lmk Li.cn; split <;> dsimp only <;> omega
theorem Y9q (s : List Sy) (hs : s.length ≤ 10000000) (pos : Bool) (a b : Tm) (ha : a.cn ≤ 1200000000000) (hb : b.cn ≤ 1200000000000) : XC pg 92 [L (s.map Sy.da), B pos, .dat a.da, .dat b.da] [] (.dat (lmk s pos a b).da) [] := by
 have h1 := R5q s hs a ha
 have h2 := R5q s hs b hb
 have h3 := B1q (nrm s a) (nrm s b)
 unfold lmk
 generalize nrm s a = x at *
 generalize nrm s b = y at *
 obtain ⟨f, v, ks⟩ := a
 obtain ⟨g, u, ls⟩ := b
 obtain ⟨f', v', ks'⟩ := x
 obtain ⟨g', u', ls'⟩ := y
 apply a5Bq
 refine ⟨_, _, _, h1, _, _, _, h2, _, h3, ?_⟩
 by_cases h : Tm.cmp (.mk f' v' ks') (.mk g' u' ls') < 0
 ·rw [if_pos h]; exact a6q (decide_eq_true h) ⟨rfl, rfl⟩
 ·rw [if_neg h]; exact a2q (decide_eq_false h) ⟨rfl, rfl⟩
theorem X7q (s : List Sy) (hs : s.length ≤ 10000000) (pos : Bool) (a b : Tm) (ha : a.cn ≤ 1200000000000) (hb : b.cn ≤ 1200000000000) : XC pg 136 [L (s.map Sy.da), B pos, .dat a.da, .dat b.da] [] (.agg [.d (.bool (lmk s pos a b).p), .d (.int .i64 (lmk s pos a b).l.f), .d (.int .i64 (lmk s pos a b).l.v), .ol 0, .d (.int .i64 (lmk s pos a b).r.f), .d (.int .i64 (lmk s pos a b).r.v), .ol 1]) [(0, .tr 30 3 (Tm.das (lmk s pos a b).l.ks)), (1, .tr 30 3 (Tm.das (lmk s pos a b).r.ks))] := by
 have h1 := R3q s hs a ha
 have h2 := R3q s hs b hb
 have h3 := K5q (nrm s a) (nrm s b)
 unfold lmk
 generalize nrm s a = x at *
 generalize nrm s b = y at *
 obtain ⟨f, v, ks⟩ := a
 obtain ⟨g, u, ls⟩ := b
 obtain ⟨f', v', ks'⟩ := x
 obtain ⟨g', u', ls'⟩ := y
 apply a5lq
 refine ⟨_, _, _, h1, _, _, _, h2, _, h3, ?_⟩
 by_cases h : Tm.cmp (.mk f' v' ks') (.mk g' u' ls') < 0
 ·rw [if_pos h]; exact a6q (decide_eq_true h) ⟨rfl, rfl⟩
 ·rw [if_neg h]; exact a2q (decide_eq_false h) ⟨rfl, rfl⟩
theorem a9uq : ∀ l : List Sy, E5q l = 3 * l.length
 | [] => by simp [E5q]
 | ⟨a, b, c⟩ :: r => by
  have h := a9uq r
  rw [a50q, h, List.length_cons]
  simp only [a1Eq]
  omega
theorem aeIq {α : Type} (cn : α → Nat) (x : α) (r : List α) : cnL cn (x :: r) = 1 + cn x + cnL cn r := by simp [cnL]; omega
theorem a8Yq : ∀ l : List Bd, K8q l ≤ 3 * cnL Bd.cn l
 | [] => by simp [K8q]
 | ⟨v, .mk f u ks⟩ :: r => by
  have h := a8Yq r
  have e : Bd.cn ⟨v, .mk f u ks⟩ = Tm.cns ks := by simp [Bd.cn, Tm.cn]
  rw [a5aq, aeIq, e]
  simp only [a1Rq]
  omega
theorem a9Oq (x : Bd) (hc : x.cn ≤ 1048576) : XC pg 69 [.dat x.da] [] (.agg [.d (.int .i64 x.v), .d (.int .i64 x.t.f), .d (.int .i64 x.t.v), .ol 0]) [(0, .tr 30 3 (Tm.das x.t.ks))] := by
 have h1 := Z9q x.t hc
 obtain ⟨v, ⟨f, u, ks⟩⟩ := x
 apply a6jq
 exact ⟨_, _, _, h1, rfl, rfl⟩
theorem a8qq (l : List Bd) (hc : cnL Bd.cn l ≤ 1048576) : XC pg 26 [L (l.map Bd.da)] [] (.one (.ol 0)) [(0, .tr 116 4 (l.map Bd.da))] := by
 have hl := g2q Bd.cn l
 apply a5Tq
 refine ⟨l.length, l.length, by simp, by simp, ⟨by omega, by omega, by omega⟩, ?_⟩
 have key := j8q (p := fun i => w6q (.one (.ol 0)) [(0, .tr 116 4 (l.map Bd.da))] (l.map Bd.da) (i : Int) ((l.map Bd.da).take i ++ List.replicate ((l.map Bd.da).length - i) [.int .i64 0, .int .i64 0, .int .i64 0, .sl []])) l.length ?_ ?_ 0 (Nat.zero_le _)
 ·rw [List.take_zero, List.nil_append, Nat.sub_zero, List.length_map] at key
  exact key
 ·apply Q3q
  refine a2q (d8q (by simp)) ⟨rfl, ?_⟩
  rw [a1Oq rfl (by simp)]
 ·intro i hi ih
  obtain ⟨x, hx⟩ := d0q hi
  have hx1 := i7q (g := Bd.da) hx
  have hm := j4q (cn := Bd.cn) (List.mem_of_getElem? hx)
  have hxc := a9Oq x (by omega)
  have hd := Bd.da_len x
  obtain ⟨v, ⟨f, u, ks⟩⟩ := x
  apply Q3q
  refine a6q (f0q (by simpa using hi)) ⟨i, rfl, _, _, _, _, hx1, _, _, _, _, hxc, i, rfl, ⟨by simp; omega⟩, i, by omega, _, _, _, _, a1Dq rfl (by simpa using hi), ?_⟩
  rw [wr1 hi (by omega)]
  have he := a0cq (z := [.int .i64 0, .int .i64 0, .int .i64 0, .sl []]) (n := (l.map Bd.da).length) rfl hx1 hd rfl
  exact he ▸ ih
def t3q : List Bd → Int → Tm
 | [], v => .mk (-1) v []
 | b :: r, v => if b.v = v then b.t else t3q r v
def N4q : List Bd → Int → Tm × Bool
 | [], _ => (.mk 0 0 [], false)
 | b :: r, v => if b.v = v then (b.t, true) else N4q r v
theorem a7yq : ∀ (u : List Bd) (v : Int), t3q u v = if (N4q u v).2 then (N4q u v).1 else .mk (-1) v []
 | [], v => rfl
 | b :: r, v => by
  unfold t3q N4q; split
  ·rfl
  ·exact a7yq r v
theorem a41q : ∀ (u : List Bd) (v : Int), (t3q u v).cn ≤ cnL Bd.cn u
 | [], v => by simp [t3q, Tm.cn, Tm.cns]
 | b :: r, v => by
  have h := a41q r v
  have e : cnL Bd.cn (b :: r) = 1 + b.t.cn + cnL Bd.cn r := by simp [cnL, Bd.cn]; omega
  unfold t3q; split
  ·omega
  ·omega
mutual
def fil (u : List Bd) : Tm → Tm
 | .mk f v ks => if f = -1 ∧ ks.length = 0 then t3q u v else .mk f v (fils u ks)
def fils (u : List Bd) : List Tm → List Tm
 | [] => []
 | t :: r => fil u t :: fils u r
end
theorem a1wq (u : List Bd) (l : List Tm) : fils u l = l.map (fil u) := by induction l <;> simp_all [fils]
mutual
theorem a5gq (u : List Bd) : ∀ t : Tm, (fil u t).cn + 1 ≤ (t.cn + 1) * (cnL Bd.cn u + 1)
 | .mk f v ks => by
  have h := fils_cns u ks
  have hl := a41q u v
  simp only [fil, Tm.cn]
  rw [Nat.add_mul, Nat.one_mul]
  split
  ·omega
  ·simp only [Tm.cn]; omega
theorem fils_cns (u : List Bd) : ∀ l : List Tm, Tm.cns (fils u l) ≤ Tm.cns l * (cnL Bd.cn u + 1)
 | [] => by simp [fils, Tm.cns]
 | t :: r => by
  have h1 := a5gq u t
  have h2 := fils_cns u r
  have e : Tm.cns (t :: r) = (t.cn + 1) + Tm.cns r := by simp [Tm.cns]; omega
  rw [e, Nat.add_mul]
  simp only [fils, Tm.cns]
  omega
end
theorem a7aq {u : List Bd} {t : Tm} (h1 : t.cn ≤ 1048576) (h2 : cnL Bd.cn u ≤ 1048576) : (fil u t).cn ≤ 1099513724928 := by
 have h := a5gq u t
 have := Nat.mul_le_mul (show t.cn + 1 ≤ 1048577 by omega) (show cnL Bd.cn u + 1 ≤ 1048577 by omega)
 omega
theorem a28q (u : List Bd) (hu : cnL Bd.cn u ≤ 1048576) (v : Int) : ∀ (q p : List Bd), u = p ++ q → C2q (.dat (t3q q v).da) [] (u.map Bd.da) v (p.length : Int) 0 0
 | [], p, e => by
  apply a0fq
  subst e
  exact a2q (d8q (by simp)) ⟨_, _, _, a8hq ⟨rfl, rfl⟩, rfl, rfl⟩
 | b :: q, p, e => by
  have ih := a28q u hu v q (p ++ [b]) (by simp [e])
  have hl := g2q Bd.cn u
  have hm := j4q (cn := Bd.cn) (l := u) (x := b) (by simp [e])
  have hbc : b.cn = b.t.cn := rfl
  have hx : (u.map Bd.da)[p.length]? = some b.da := by rw [e]; exact g3q
  have hlt : p.length < u.length := by rw [e]; simp
  have hw := wr1 hlt (by omega)
  have c := aaIq b.t (by omega)
  rw [h0q] at ih
  obtain ⟨w, ⟨f, x, ks⟩⟩ := b
  apply a0fq
  rw [hw]
  refine a6q (f0q (by simpa using hlt)) ⟨p.length, rfl, _, _, _, _, hx, ?_⟩
  by_cases h : w = v
  ·refine a6q (decide_eq_true h) ⟨p.length, rfl, _, _, _, _, hx, _, _, _, c, ?_, rfl⟩
   simp [t3q, h, Tm.da]
  ·refine a2q (decide_eq_false h) ?_
   have e2 : t3q (⟨w, .mk f x ks⟩ :: q) v = t3q q v := by simp [t3q, h]
   rw [e2]
   exact ih
theorem a8lq (u : List Bd) (hu : cnL Bd.cn u ≤ 1048576) (v : Int) : XC pg 200 [L (u.map Bd.da), Z v] [] (.dat (t3q u v).da) [] := by
 apply aa4q
 exact a28q u hu v u [] rfl
theorem a5Yq (u : List Bd) (hl : u.length ≤ 1048576) (v : Int) : ∀ (q p : List Bd), u = p ++ q → A7q (.tup [.dat (N4q q v).1.da, B (N4q q v).2]) [] v (u.map Bd.da) (u.length : Int) (p.length : Int) 0 0
 | [], p, e => by
  apply Y7q
  subst e
  exact a2q (d8q (by simp)) ⟨rfl, rfl⟩
 | b :: q, p, e => by
  have ih := a5Yq u hl v q (p ++ [b]) (by simp [e])
  have hx : (u.map Bd.da)[p.length]? = some b.da := by rw [e]; exact g3q
  have hlt : p.length < u.length := by rw [e]; simp
  have hw := wr1 hlt (by omega)
  rw [h0q] at ih
  obtain ⟨w, ⟨f, x, ks⟩⟩ := b
  apply Y7q
  rw [hw]
  refine a6q (f0q hlt) ⟨p.length, rfl, _, _, _, _, hx, ?_⟩
  by_cases h : w = v
  ·refine a6q (decide_eq_true h) ⟨?_, rfl⟩
   simp [N4q, h, Tm.da]
  ·refine a2q (decide_eq_false h) ?_
   have e2 : N4q (⟨w, .mk f x ks⟩ :: q) v = N4q q v := by simp [N4q, h]
   rw [e2]
   exact ih
theorem ac0q (u : List Bd) (hl : u.length ≤ 1048576) (v : Int) : XC pg 232 [L (u.map Bd.da), Z v] [] (.tup [.dat (N4q u v).1.da, B (N4q u v).2]) [] := by
 apply a89q
 rw [List.length_map]
 exact a5Yq u hl v u [] rfl
theorem a8mq (u : List Bd) (hu : cnL Bd.cn u ≤ 1048576) (v : Int) : XC pg 202 [L (u.map Bd.da), Z v] [] (.agg [.d (.int .i64 (t3q u v).f), .d (.int .i64 (t3q u v).v), .ol 0]) [(0, .tr 30 3 (Tm.das (t3q u v).ks))] := by
 have hl := g2q Bd.cn u
 have h1 := ac0q u (by omega) v
 have hlc := a41q u v
 rw [a7yq] at hlc ⊢
 generalize N4q u v = tb at *
 obtain ⟨t, b⟩ := tb
 dsimp only at h1 hlc ⊢
 cases b with
 | false =>
  obtain ⟨f, x, ks⟩ := t
  apply a2rq
  exact ⟨_, _, _, _, h1, a6q rfl ⟨_, _, a4iq ⟨rfl, rfl⟩, rfl, rfl⟩⟩
 | true =>
  have c := a7Rq t (by simp at hlc; omega)
  obtain ⟨f, x, ks⟩ := t
  apply a2rq
  exact ⟨_, _, _, _, h1, a2q rfl ⟨_, _, _, c, rfl, rfl⟩⟩
theorem a5cq (u : List Bd) (f v : Int) (ks : List Tm) (hc : ks.length ≤ 1048576) : ∀ (q p : List Tm), ks = p ++ q → (∀ t ∈ q, XC pg 142 [L (u.map Bd.da), .dat t.da] [] (.dat (fil u t).da) []) → v7q (.dat (Tm.mk f v (fils u ks)).da) [] (u.map Bd.da) (p.length : Int) f v (Tm.das ks) 0 0 f v (Tm.das (fils u p))
 | [], p, e, _ => by
  apply Z8q
  subst e
  exact a2q (d8q (by simp [b3q])) ⟨by simp [Tm.da], rfl⟩
 | y :: q, p, e, ht => by
  have ih := a5cq u f v ks hc q (p ++ [y]) (by simp [e]) (fun t h => ht t (List.mem_cons_of_mem _ h))
  have c := ht y (by simp)
  have hx : (Tm.das ks)[p.length]? = some y.da := by rw [e]; exact q5q
  have hlt : p.length < ks.length := by rw [e]; simp
  have hw := wr1 hlt (by omega)
  have hb : ((Tm.das (fils u p)).length + 1) * 40 ≤ 140737488355328 := by rw [b3q, a1wq, List.length_map]; omega
  have e2 : Tm.das (fils u (p ++ [y])) = Tm.das (fils u p) ++ [(fil u y).da] := by simp [a1wq, Tm.das_map]
  rw [h0q, e2] at ih
  generalize fil u y = z at *
  obtain ⟨g, x, ms⟩ := y
  obtain ⟨g', x', ms'⟩ := z
  apply Z8q
  rw [hw]
  exact a6q (f0q (by rw [b3q]; exact hlt)) ⟨p.length, rfl, _, _, _, hx, _, _, _, c, ⟨hb⟩, ih⟩
theorem acmq (u : List Bd) (hu : cnL Bd.cn u ≤ 1048576) (t : Tm) : t.cn ≤ 1048576 → XC pg 142 [L (u.map Bd.da), .dat t.da] [] (.dat (fil u t).da) [] := by
 induction t using Tm.ind with
 | h f v ks ih =>
 intro hc
 have hcn : (Tm.mk f v ks).cn = Tm.cns ks := by simp [Tm.cn]
 rw [hcn] at hc
 have hkl := Tm.cns_cnL ks ▸ g2q Tm.cn ks
 have lp := a5cq u f v ks (by omega) ks [] rfl (fun t ht => ih t ht (by have := Tm.cns_cnL ks ▸ j4q (cn := Tm.cn) ht; omega))
 have lk := a8lq u hu v
 apply a7Gq
 by_cases hf : f = -1
 ·refine a6q (decide_eq_true hf) ?_
  by_cases hk : ks.length = 0
  ·have e : fil u (.mk f v ks) = t3q u v := by rw [fil, if_pos ⟨hf, hk⟩]
   rw [e]
   refine a6q (by rw [b3q]; simp [hk]) ?_
   generalize t3q u v = z at *
   obtain ⟨g, x, ms⟩ := z
   exact ⟨_, _, _, lk, rfl, rfl⟩
  ·have e : fil u (.mk f v ks) = .mk f v (fils u ks) := by rw [fil, if_neg (fun h => hk h.2)]
   rw [e]
   exact a2q (by rw [b3q]; simp [hk]) lp
 ·have e : fil u (.mk f v ks) = .mk f v (fils u ks) := by rw [fil, if_neg (fun h => hf h.1)]
  rw [e]
  exact a2q (decide_eq_false hf) lp
theorem a3Oq (u : List Bd) (f v : Int) (ks : List Tm) (hc : ks.length ≤ 1048576) : ∀ (q p : List Tm), ks = p ++ q → (∀ t ∈ q, XC pg 145 [L (u.map Bd.da), .dat t.da] [] (.agg [.d (.int .i64 (fil u t).f), .d (.int .i64 (fil u t).v), .ol 0]) [(0, .tr 30 3 (Tm.das (fil u t).ks))]) → t6q (.agg [.d (.int .i64 f), .d (.int .i64 v), .ol 0]) [(0, .tr 30 3 (Tm.das (fils u ks)))] (u.map Bd.da) (Tm.das ks) (ks.length : Int) (p.length : Int) f v (Tm.das ks) 0 0 (Tm.das (fils u p))
 | [], p, e, _ => by
  apply V4q
  subst e
  exact a2q (d8q (by simp)) ⟨rfl, by simp⟩
 | y :: q, p, e, ht => by
  have ih := a3Oq u f v ks hc q (p ++ [y]) (by simp [e]) (fun t h => ht t (List.mem_cons_of_mem _ h))
  have c := ht y (by simp)
  have hx : (Tm.das ks)[p.length]? = some y.da := by rw [e]; exact q5q
  have hlt : p.length < ks.length := by rw [e]; simp
  have hw := wr1 hlt (by omega)
  have hb : ((Tm.das (fils u p)).length + 1) * 40 ≤ 140737488355328 := by rw [b3q, a1wq, List.length_map]; omega
  have e2 : Tm.das (fils u (p ++ [y])) = Tm.das (fils u p) ++ [(fil u y).da] := by simp [a1wq, Tm.das_map]
  rw [h0q, e2] at ih
  generalize fil u y = z at *
  obtain ⟨g, x, ms⟩ := y
  obtain ⟨g', x', ms'⟩ := z
  apply V4q
  rw [hw]
  exact a6q (f0q hlt) ⟨p.length, rfl, _, _, _, hx, _, _, _, c, ⟨hb⟩, ih⟩
theorem aaUq (u : List Bd) (hu : cnL Bd.cn u ≤ 1048576) (t : Tm) : t.cn ≤ 1048576 → XC pg 145 [L (u.map Bd.da), .dat t.da] [] (.agg [.d (.int .i64 (fil u t).f), .d (.int .i64 (fil u t).v), .ol 0]) [(0, .tr 30 3 (Tm.das (fil u t).ks))] := by
 induction t using Tm.ind with
 | h f v ks ih =>
 intro hc
 have hcn : (Tm.mk f v ks).cn = Tm.cns ks := by simp [Tm.cn]
 rw [hcn] at hc
 have hkl := Tm.cns_cnL ks ▸ g2q Tm.cn ks
 have lp := a3Oq u f v ks (by omega) ks [] rfl (fun t ht => ih t ht (by have := Tm.cns_cnL ks ▸ j4q (cn := Tm.cn) ht; omega))
 have lk := a8mq u hu v
 apply a6cq
 rw [b3q]
 refine ⟨_, a0Eq (.mk f v ks), ?_⟩
 by_cases hf : f = -1
 ·refine a6q (decide_eq_true hf) ?_
  by_cases hk : ks.length = 0
  ·have e : fil u (.mk f v ks) = t3q u v := by rw [fil, if_pos ⟨hf, hk⟩]
   rw [e]
   exact a6q (by simp [hk]) ⟨_, _, _, lk, rfl, rfl⟩
  ·have e : fil u (.mk f v ks) = .mk f v (fils u ks) := by rw [fil, if_neg (fun h => hk h.2)]
   rw [e]
   exact a2q (by simp [hk]) lp
 ·have e : fil u (.mk f v ks) = .mk f v (fils u ks) := by rw [fil, if_neg (fun h => hf h.1)]
  rw [e]
  exact a2q (decide_eq_false hf) lp
def k8q (s : List Sy) (u : List Bd) (t : Tm) : Tm := nrm s (fil u t)
theorem a35q {s : List Sy} {u : List Bd} {t : Tm} (h1 : t.cn ≤ 1048576) (h2 : cnL Bd.cn u ≤ 1048576) : (k8q s u t).cn ≤ 1099513724928 := Nat.le_trans (Q9q s _) (a7aq h1 h2)
def o0q (s : List Sy) (u : List Bd) (x : Li) : Li := lmk s x.p (k8q s u x.l) (k8q s u x.r)
theorem E6q (s : List Sy) (hs : s.length ≤ 10000000) (u : List Bd) (hu : cnL Bd.cn u ≤ 1048576) (t : Tm) (hc : t.cn ≤ 1048576) : XC pg 79 [L (s.map Sy.da), L (u.map Bd.da), .dat t.da] [] (.dat (k8q s u t).da) [] := by
 have h1 := acmq u hu t hc
 have h2 := R5q s hs (fil u t) (by have := a7aq hc hu; omega)
 unfold k8q
 generalize nrm s (fil u t) = y at *
 generalize fil u t = x at *
 obtain ⟨f, v, ks⟩ := t
 obtain ⟨f', v', ks'⟩ := x
 obtain ⟨g, w, ms⟩ := y
 apply a7Tq
 exact ⟨_, _, _, h1, _, _, _, h2, rfl, rfl⟩
theorem E4q (s : List Sy) (hs : s.length ≤ 10000000) (u : List Bd) (hu : cnL Bd.cn u ≤ 1048576) (t : Tm) (hc : t.cn ≤ 1048576) : XC pg 81 [L (s.map Sy.da), L (u.map Bd.da), .dat t.da] [] (.agg [.d (.int .i64 (k8q s u t).f), .d (.int .i64 (k8q s u t).v), .ol 0]) [(0, .tr 30 3 (Tm.das (k8q s u t).ks))] := by
 have h1 := aaUq u hu t hc
 have h2 := R3q s hs (fil u t) (by have := a7aq hc hu; omega)
 unfold k8q
 generalize nrm s (fil u t) = y at *
 generalize fil u t = x at *
 obtain ⟨f, v, ks⟩ := t
 obtain ⟨f', v', ks'⟩ := x
 obtain ⟨g, w, ms⟩ := y
 apply a87q
 exact ⟨_, _, _, h1, _, _, _, h2, rfl, rfl⟩
theorem a3rq (s : List Sy) (hs : s.length ≤ 10000000) (u : List Bd) (hu : cnL Bd.cn u ≤ 1048576) (x : Li) (hc : x.cn ≤ 1048576) : XC pg 66 [L (s.map Sy.da), L (u.map Bd.da), .dat x.da] [] (.dat (o0q s u x).da) [] := by
 have h0 : x.cn = x.l.cn + x.r.cn := rfl
 have h1 := E6q s hs u hu x.l (by omega)
 have h2 := E6q s hs u hu x.r (by omega)
 have h3 := Y9q s hs x.p (k8q s u x.l) (k8q s u x.r) (by have := a35q (s := s) (u := u) (t := x.l) (by omega) hu; omega) (by have := a35q (s := s) (u := u) (t := x.r) (by omega) hu; omega)
 unfold o0q
 generalize lmk s x.p (k8q s u x.l) (k8q s u x.r) = z at *
 generalize k8q s u x.l = a at *
 generalize k8q s u x.r = b at *
 obtain ⟨p, ⟨f, v, ks⟩, ⟨g, w, ms⟩⟩ := x
 obtain ⟨f1, v1, k1⟩ := a
 obtain ⟨f2, v2, k2⟩ := b
 obtain ⟨p3, ⟨f3, v3, k3⟩, ⟨f4, v4, k4⟩⟩ := z
 apply a42q
 exact ⟨_, _, _, h1, _, _, _, h2, _, _, _, _, _, _, _, h3, rfl, rfl⟩
theorem a3Fq (s : List Sy) (hs : s.length ≤ 10000000) (u : List Bd) (hu : cnL Bd.cn u ≤ 1048576) (x : Li) (hc : x.cn ≤ 1048576) : XC pg 72 [L (s.map Sy.da), L (u.map Bd.da), .dat x.da] [] (.agg [.d (.bool (o0q s u x).p), .d (.int .i64 (o0q s u x).l.f), .d (.int .i64 (o0q s u x).l.v), .ol 0, .d (.int .i64 (o0q s u x).r.f), .d (.int .i64 (o0q s u x).r.v), .ol 1]) [(0, .tr 30 3 (Tm.das (o0q s u x).l.ks)), (1, .tr 30 3 (Tm.das (o0q s u x).r.ks))] := by
 have h0 : x.cn = x.l.cn + x.r.cn := rfl
 have h1 := E4q s hs u hu x.l (by omega)
 have h2 := E4q s hs u hu x.r (by omega)
 have h3 := X7q s hs x.p (k8q s u x.l) (k8q s u x.r) (by have := a35q (s := s) (u := u) (t := x.l) (by omega) hu; omega) (by have := a35q (s := s) (u := u) (t := x.r) (by omega) hu; omega)
 unfold o0q
 generalize lmk s x.p (k8q s u x.l) (k8q s u x.r) = z at *
 generalize k8q s u x.l = a at *
 generalize k8q s u x.r = b at *
 obtain ⟨p, ⟨f, v, ks⟩, ⟨g, w, ms⟩⟩ := x
 obtain ⟨f1, v1, k1⟩ := a
 obtain ⟨f2, v2, k2⟩ := b
 obtain ⟨p3, ⟨f3, v3, k3⟩, ⟨f4, v4, k4⟩⟩ := z
 apply a4aq
 exact ⟨_, _, _, h1, _, _, _, h2, _, _, _, _, _, _, _, h3, rfl, rfl⟩
def p1q {α : Type} (cmp : α → α → Int) (x : α) : List α → List α
 | [] => [x]
 | y :: r => if cmp y x < 0 then y :: p1q cmp x r else if cmp y x = 0 then y :: r else x :: y :: r
def N8q {α : Type} (cmp : α → α → Int) (l : List α) : List α := l.foldl (fun a x => p1q cmp x a) []
def n6q {β : Type} (eq : β → β → Bool) : β → List β → List β
 | _, [] => []
 | p, y :: r => if eq y p then n6q eq y r else y :: n6q eq y r
def R8q {β : Type} (eq : β → β → Bool) : List β → List β
 | [] => []
 | x :: r => x :: n6q eq x r
abbrev SsC {α : Type} (cmp : α → α → Int) (l : List α) : Prop := l.Pairwise (fun a b => cmp a b < 0)
section
variable {α : Type} {cmp : α → α → Int}
theorem TotC.lt_tr (h : TotC cmp) {a b c : α} (h1 : cmp a b < 0) (h2 : cmp b c ≤ 0) : cmp a c < 0 := by
 have h3 := h.tr a b c (by omega) h2
 by_cases h4 : cmp a c = 0
 ·have := h.eq a c h4
  subst this
  have := h.neg a b
  omega
 ·omega
theorem TotC.self (h : TotC cmp) (a : α) : cmp a a = 0 := by have := h.neg a a; omega
theorem a4eq (h : TotC cmp) {x y : α} : ∀ {l : List α}, y ∈ p1q cmp x l ↔ y = x ∨ y ∈ l
 | [] => by simp [p1q]
 | z :: r => by
  have ih := a4eq h (x := x) (y := y) (l := r)
  unfold p1q
  split
  ·rw [List.mem_cons, ih, List.mem_cons]
   constructor <;> rintro (h | h | h) <;> simp [h]
  ·split
   ·rename_i h2
    have := h.eq _ _ h2
    subst this
    simp
   ·simp
theorem abxq (h : TotC cmp) {x : α} : ∀ {l : List α}, SsC cmp l → SsC cmp (p1q cmp x l)
 | [], _ => by simp [p1q, SsC]
 | z :: r, hs => by
  obtain ⟨h1, h2⟩ := List.pairwise_cons.1 hs
  unfold p1q
  split
  ·rename_i hz
   refine List.pairwise_cons.2 ⟨fun w hw => ?_, abxq h h2⟩
   rcases (a4eq h).1 hw with rfl | hw
   ·exact hz
   ·exact h1 w hw
  ·split
   ·exact hs
   ·have hxz : cmp x z < 0 := by have := h.neg x z; omega
    refine List.pairwise_cons.2 ⟨fun w hw => ?_, hs⟩
    rcases List.mem_cons.1 hw with rfl | hw
    ·exact hxz
    ·exact h.lt_tr hxz (by have := h1 w hw; omega)
theorem aehq (h : TotC cmp) (l : List α) : ∀ a : List α, SsC cmp a → SsC cmp (l.foldl (fun a x => p1q cmp x a) a) ∧ ∀ y, y ∈ l.foldl (fun a x => p1q cmp x a) a ↔ y ∈ l ∨ y ∈ a := by
 induction l with
 | nil => intro a ha; exact ⟨ha, by simp⟩
 | cons x r ih =>
  intro a ha
  obtain ⟨h1, h2⟩ := ih _ (abxq h ha)
  refine ⟨h1, fun y => ?_⟩
  rw [List.foldl_cons, h2, a4eq h, List.mem_cons]
  constructor
  ·rintro (h | h | h) <;> simp [h]
  ·rintro ((h | h) | h) <;> simp [h]
theorem abrq (h : TotC cmp) : ∀ {a b : List α}, SsC cmp a → SsC cmp b → (∀ x, x ∈ a ↔ x ∈ b) → a = b
 | [], [], _, _, _ => rfl
 | [], y :: s, _, _, hm => by have := (hm y).2 (by simp); simp at this
 | x :: r, [], _, _, hm => by have := (hm x).1 (by simp); simp at this
 | x :: r, y :: s, ha, hb, hm => by
  obtain ⟨a1, a2⟩ := List.pairwise_cons.1 ha
  obtain ⟨b1, b2⟩ := List.pairwise_cons.1 hb
  have hxy : x = y := by
   rcases List.mem_cons.1 ((hm x).1 (by simp)) with e | h1
   ·exact e
   ·rcases List.mem_cons.1 ((hm y).2 (by simp)) with e | h2
    ·exact e.symm
    ·have := a1 y h2; have := b1 x h1; have := h.neg x y; omega
  subst hxy
  rw [abrq h a2 b2 fun z => ?_]
  have := hm z
  rw [List.mem_cons, List.mem_cons] at this
  constructor
  ·intro hz
   rcases this.1 (.inr hz) with e | h1
   ·subst e; have := a1 z hz; have := h.self z; omega
   ·exact h1
  ·intro hz
   rcases this.2 (.inr hz) with e | h1
   ·subst e; have := b1 z hz; have := h.self z; omega
   ·exact h1
theorem aa9q {eq : α → α → Bool} (he : ∀ a b, eq a b = true → a = b) {y : α} : ∀ {l : List α} {p : α}, (y ∈ n6q eq p l → y ∈ l) ∧ (y ∈ l → y = p ∨ y ∈ n6q eq p l)
 | [], p => by simp [n6q]
 | x :: r, p => by
  obtain ⟨h1, h2⟩ := aa9q he (y := y) (l := r) (p := x)
  unfold n6q
  split
  ·rename_i h3
   have := he _ _ h3
   subst this
   exact ⟨fun h => List.mem_cons_of_mem _ (h1 h), fun h => by
    rcases List.mem_cons.1 h with h | h
    ·exact .inl h
    ·exact h2 h⟩
  ·refine ⟨fun h => ?_, fun h => ?_⟩
   ·rcases List.mem_cons.1 h with h | h
    ·simp [h]
    ·exact List.mem_cons_of_mem _ (h1 h)
   ·rcases List.mem_cons.1 h with h | h
    ·simp [h]
    ·rcases h2 h with h | h <;> simp [h]
theorem abqq (h : TotC cmp) {eq : α → α → Bool} (he : ∀ a b, eq a b = decide (cmp a b = 0)) : ∀ {l : List α} {p : α}, SdC cmp (p :: l) → SsC cmp (p :: n6q eq p l)
 | [], p, _ => by simp [n6q, SsC]
 | x :: r, p, hs => by
  obtain ⟨h1, h2⟩ := List.pairwise_cons.1 hs
  have ih := abqq h he h2
  unfold n6q
  split
  ·rename_i h3
   rw [he, decide_eq_true_eq] at h3
   have := h.eq _ _ h3
   subst this
   exact ih
  ·rename_i h3
   rw [he, decide_eq_true_eq] at h3
   have hpx : cmp p x < 0 := by have := h1 x (by simp); have := h.neg p x; omega
   refine List.pairwise_cons.2 ⟨fun w hw => ?_, ih⟩
   rcases List.mem_cons.1 hw with rfl | hw
   ·exact hpx
   ·exact h.lt_tr hpx (by have := (List.pairwise_cons.1 ih).1 w hw; omega)
theorem acMq (h : TotC cmp) {eq : α → α → Bool} (he : ∀ a b, eq a b = decide (cmp a b = 0)) (l : List α) : R8q eq (q2q cmp l) = N8q cmp l := by
 obtain ⟨h1, h2⟩ := aehq h l [] (by simp [SsC])
 have hs := a4vq h l
 have hp := A2q cmp l
 have hee : ∀ a b, eq a b = true → a = b := fun a b e => h.eq a b (by simpa [he] using e)
 generalize q2q cmp l = s at hs hp
 refine abrq h ?_ h1 fun x => ?_
 ·cases s with
  | nil => simp [R8q, SsC]
  | cons p r => exact abqq h he hs
 ·rw [N8q, h2, ← hp.mem_iff]
  cases s with
  | nil => simp [R8q]
  | cons p r =>
   obtain ⟨g1, g2⟩ := aa9q hee (y := x) (l := r) (p := p)
   simp only [R8q, List.mem_cons, List.not_mem_nil, or_false]
   constructor
   ·rintro (h | h)
    ·exact .inl h
    ·exact .inr (g1 h)
   ·rintro (h | h)
    ·exact .inl h
    ·exact g2 h
theorem a7iq {β : Type} (eq : β → β → Bool) : ∀ (l : List β) (p : β), ∃ r, (n6q eq p l ++ r).Perm l
 | [], p => ⟨[], by simp [n6q]⟩
 | y :: l, p => by
  obtain ⟨r, h⟩ := a7iq eq l y
  unfold n6q
  split
  ·exact ⟨y :: r, List.perm_middle.trans (h.cons y)⟩
  ·exact ⟨r, h.cons y⟩
theorem aalq {β γ : Type} (g : β → γ) (eq : γ → γ → Bool) : ∀ (l : List β) (p : β), (n6q (fun a b => eq (g a) (g b)) p l).map g = n6q eq (g p) (l.map g)
 | [], p => rfl
 | y :: l, p => by
  have h := aalq g eq l y
  simp only [n6q, List.map_cons]
  split
  ·exact h
  ·rw [List.map_cons, h]
theorem a9xq {cn : α → Nat} {x : α} : ∀ l : List α, (((p1q cmp x l).map cn).sum + (p1q cmp x l).length) ≤ cn x + 1 + ((l.map cn).sum + l.length)
 | [] => by simp [p1q]
 | y :: r => by
  have h := a9xq (cn := cn) (x := x) r
  unfold p1q; split
  ·simp only [List.map_cons, List.sum_cons, List.length_cons]; omega
  ·split <;> simp only [List.map_cons, List.sum_cons, List.length_cons] <;> omega
end
theorem aaiq (a b : Li) : XC pg 65 [.dat a.da, .dat b.da] [] (B (decide (Li.cmp a b = 0))) [] := by
 have h1 := A8q a.l b.l
 have h2 := A8q a.r b.r
 obtain ⟨p, ⟨f, v, ks⟩, ⟨g, u, ls⟩⟩ := a
 obtain ⟨p', ⟨f', v', ks'⟩, ⟨g', u', ls'⟩⟩ := b
 apply a5Lq
 refine d2q (fun h => ⟨_, h1, g8q (fun h3 => ⟨_, h2, bE ?_⟩) fun h3 => bE ?_⟩) fun h => bE ?_
 ·subst h
  have h3 : Tm.cmp (.mk f v ks) (.mk f' v' ks') = 0 := by simpa using h3
  simp only [Li.cmp, if_true, if_pos h3]
 ·subst h
  have h3 : ¬ Tm.cmp (.mk f v ks) (.mk f' v' ks') = 0 := by simpa using h3
  simp only [Li.cmp, if_true, if_neg h3]
  simp [h3]
 ·simp only [Li.cmp, if_neg h]
  cases p <;> cases p' <;> simp_all
def a5dq (a b : Li) : Bool := decide (Li.cmp a b = 0)
def s3q (a b : List Da × Li) : Bool := a5dq a.2 b.2
theorem a3Nq {z w : List Da × Li} (hz : TgP Li.da z) (hw : TgP Li.da w) : XC pg 71 [.dat z.1, .dat w.1] [] (B (s3q z w)) [] := XC.ut (by
 show XC _ _ [.dat (Da.utL z.1), .dat (Da.utL w.1)] _ _ _
 rw [hz.ut Li.ut_da, hw.ut Li.ut_da]; exact a4bq _ _)
theorem adWq : ∀ (R F G : List (List Da × Li)) (y : List Da × Li) (K j : Nat), (∀ z ∈ F ++ G ++ y :: R, TgP Li.da z) → K + j = F.length + G.length + 1 → 1 ≤ j → (F ++ G ++ y :: R).length ≤ 3000000000000 → f2q (.one (.ol 0)) [(0, .lst 85 7 ((F ++ n6q s3q y R).map (·.1)))] (F.length : Int) K (j + R.length) (j : Int) ((F ++ G ++ y :: R).map (·.1)) := by
 intro R
 induction R with
 | nil =>
  intro F G y K j ht hK hj hl
  apply o9q
  refine a2q (decide_eq_false (by simp)) ⟨F.length, rfl, ⟨by simp, Nat.le_refl _⟩, ⟨by simp⟩, F.length, rfl, ⟨by omega, by simp⟩, ⟨by simp⟩, rfl, ?_⟩
  simp [n6q, List.take_append, u7q]
 | cons x R ih =>
  intro F G y K j ht hK hj hl
  have hlen : (F ++ G ++ y :: x :: R).length = F.length + G.length + R.length + 2 := by simp; omega
  have hx := ht x (by simp)
  have hy := ht y (by simp)
  have c := a3Nq hx hy
  obtain ⟨b, n1, n2, d, n3, n4, d1, ex⟩ := hx.lit
  obtain ⟨b', m1, m2, d', m3, m4, d1', ey⟩ := hy.lit
  have gx : ((F ++ G ++ y :: x :: R).map (·.1))[K + j]? = some x.1 := by
   have h := g3q (g := fun z : List Da × Li => z.1) (p := F ++ G ++ [y]) (x := x) (q := R)
   rw [show (F ++ G ++ [y]).length = K + j by simp; omega] at h
   simpa using h
  have gy : ((F ++ G ++ y :: x :: R).map (·.1))[K + (j - 1)]? = some y.1 := by
   have h := g3q (g := fun z : List Da × Li => z.1) (p := F ++ G) (x := y) (q := x :: R)
   rw [show (F ++ G).length = K + (j - 1) by simp; omega] at h
   exact h
  have w0 : IntKind.wrap .i64 ((j : Int) - 1) = ((j - 1 : Nat) : Int) := by rw [wrI (by omega) (by omega)]; omega
  have w1 : IntKind.wrap .i64 ((j : Int) + 1) = ((j + 1 : Nat) : Int) := by rw [wrI (by omega) (by omega)]; omega
  have w2 : IntKind.wrap .i64 ((F.length : Int) + 1) = ((F.length + 1 : Nat) : Int) := by rw [wrI (by omega) (by omega)]; omega
  have gx2 := gx
  rw [ex] at c gx2
  rw [ey] at c gy
  apply o9q
  rw [w0, w1, w2]
  refine a6q (decide_eq_true (by simp; omega)) ⟨j, rfl, ⟨by simp⟩, K + j, rfl, _, _, _, _, _, _, _, gx2, j - 1, rfl, ⟨by simp; omega⟩, K + (j - 1), rfl, _, _, _, _, _, _, _, gy, _, c, ?_⟩
  by_cases hs : s3q x y = true
  ·refine a2q (by simp [hs]) ?_
   have h := ih F (G ++ [y]) x K (j + 1) (by simpa using ht) (by simp; omega) (by omega) (by simp at hl ⊢; omega)
   have e1 : F ++ (G ++ [y]) ++ x :: R = F ++ G ++ y :: x :: R := by simp
   have e2 : n6q s3q y (x :: R) = n6q s3q x R := by rw [n6q, if_pos hs]
   rw [e1] at h
   rw [e2, show j + (x :: R).length = j + 1 + R.length by simp; omega]
   exact h
  ·refine a6q (by simpa using hs) ?_
   obtain ⟨g, H, eG⟩ : ∃ g H, G ++ [y] = g :: H := by
    cases G with
    | nil => exact ⟨y, [], rfl⟩
    | cons g G' => exact ⟨g, G' ++ [y], rfl⟩
   have hHl : H.length = G.length := by have := congrArg List.length eG; simp at this; omega
   have e0 : F ++ G ++ y :: x :: R = F ++ g :: (H ++ x :: R) := by
    rw [show F ++ G ++ y :: x :: R = F ++ (G ++ [y]) ++ x :: R by simp, eG]; simp
   have hg := ht g (by rw [e0]; simp)
   obtain ⟨b2, k1, k2, d2, k3, k4, d3, eg⟩ := hg.lit
   have gg : ((F ++ G ++ y :: x :: R).map (·.1))[F.length]? = some g.1 := by rw [e0]; exact g3q
   rw [eg] at gg
   refine ⟨j, rfl, ⟨by simp⟩, K + j, rfl, _, _, _, _, _, _, _, gx2, F.length, rfl, ⟨by simp; omega⟩, F.length, rfl, _, _, _, _, _, _, _, gg, ?_⟩
   have h := ih (F ++ [x]) H x K (j + 1) (fun z hz => by
    apply ht z
    rw [e0]
    simp at hz ⊢
    rcases hz with h | h | h | h | h <;> simp [h]) (by simp; omega) (by omega) (by simp at hl ⊢; omega)
   have e3 : (F ++ [x] ++ H ++ x :: R).map (·.1) = ((F ++ G ++ y :: x :: R).map (·.1)).set F.length x.1 := by rw [e0]; simp [List.set_append]
   have e2 : F ++ n6q s3q y (x :: R) = F ++ [x] ++ n6q s3q x R := by rw [n6q, if_neg hs]; simp
   rw [e3, ex, show (F ++ [x]).length = F.length + 1 by simp] at h
   rw [e2, show j + (x :: R).length = j + 1 + R.length by simp; omega]
   exact h
theorem acUq : ∀ (R P : List (List Da × Li)) (y : List Da × Li), (∀ z ∈ P ++ y :: R, TgP Li.da z) → (P ++ y :: R).length ≤ 3000000000000 → g7q (.one (.ol 0)) [(0, .lst 85 7 ((P ++ y :: n6q s3q y R).map (·.1)))] ((P.length + 1 : Nat) : Int) ((P ++ y :: R).map (·.1)) := by
 intro R
 induction R with
 | nil =>
  intro P y ht hl
  apply o8q
  exact a2q (decide_eq_false (by simp)) ⟨rfl, by simp [n6q]⟩
 | cons x R ih =>
  intro P y ht hl
  have hx := ht x (by simp)
  have hy := ht y (by simp)
  have c := a3Nq hx hy
  obtain ⟨b, n1, n2, d, n3, n4, d1, ex⟩ := hx.lit
  obtain ⟨b', m1, m2, d', m3, m4, d1', ey⟩ := hy.lit
  have gx : ((P ++ y :: x :: R).map (·.1))[P.length + 1]? = some x.1 := by
   have h := g3q (g := fun z : List Da × Li => z.1) (p := P ++ [y]) (x := x) (q := R)
   rw [show (P ++ [y]).length = P.length + 1 by simp, show P ++ [y] ++ x :: R = P ++ y :: x :: R by simp] at h
   exact h
  have gy : ((P ++ y :: x :: R).map (·.1))[P.length]? = some y.1 := g3q
  have hlen : (P ++ y :: x :: R).length = P.length + R.length + 2 := by simp; omega
  have w0 : IntKind.wrap .i64 (((P.length + 1 : Nat) : Int) - 1) = (P.length : Int) := by rw [wrI (by omega) (by omega)]; omega
  have w1 : IntKind.wrap .i64 (((P.length + 1 : Nat) : Int) + 1) = ((P.length + 1 + 1 : Nat) : Int) := by rw [wrI (by omega) (by omega)]; omega
  rw [ex] at c gx
  rw [ey] at c gy
  apply o8q
  rw [w0, w1]
  refine a6q (decide_eq_true (by simp; omega)) ⟨P.length + 1, rfl, ⟨by simp⟩, P.length + 1, rfl, _, _, _, _, _, _, _, gx, P.length, rfl, ⟨by simp⟩, P.length, rfl, _, _, _, _, _, _, _, gy, _, c, ?_⟩
  by_cases hs : s3q x y = true
  ·refine a6q hs ⟨P.length + 1, rfl, ⟨by simp, Nat.le_refl _⟩, ?_⟩
   have h := adWq R (P ++ [y]) [] x (P.length + 1) 1 (by simpa using ht) (by simp) (Nat.le_refl _) (by simp at hl ⊢; omega)
   have e1 : P ++ [y] ++ [] ++ x :: R = P ++ y :: x :: R := by simp
   have e2 : P ++ y :: n6q s3q y (x :: R) = P ++ [y] ++ n6q s3q x R := by rw [n6q, if_pos hs]; simp
   rw [e1, show (P ++ [y]).length = P.length + 1 by simp] at h
   rw [e2, show ((P ++ y :: x :: R).map (·.1)).length - (P.length + 1) = 1 + R.length by simp; omega, Nat.zero_add]
   exact h
  ·refine a2q (by simpa using hs) ?_
   have h := ih (P ++ [y]) x (by simpa using ht) (by simp at hl ⊢; omega)
   have e1 : P ++ [y] ++ x :: R = P ++ y :: x :: R := by simp
   have e2 : P ++ y :: n6q s3q y (x :: R) = P ++ [y] ++ x :: n6q s3q x R := by rw [n6q, if_neg hs]; simp
   rw [e1, show (P ++ [y]).length = P.length + 1 by simp] at h
   rw [e2]
   exact h
theorem aavq (zs : List (List Da × Li)) (ht : ∀ z ∈ zs, TgP Li.da z) (hl : zs.length ≤ 3000000000000) : XC pg 236 [.one (.ol 2000), .one (.d (.fn 71))] [(2000, .lst 85 7 (zs.map (·.1)))] (.one (.ol 0)) [(0, .lst 85 7 ((R8q s3q zs).map (·.1)))] := by
 apply B3q
 match zs, ht, hl with
 | [], _, _ => exact a6q (by simp) ⟨rfl, rfl⟩
 | [z], _, _ => exact a6q (by simp) ⟨rfl, rfl⟩
 | z :: x :: R, ht, hl =>
  refine a2q (decide_eq_false (by simp; omega)) ?_
  exact acUq (x :: R) [] z ht hl
theorem adUq {β : Type} (eq : β → β → Bool) : ∀ l : List β, ∃ r, (R8q eq l ++ r).Perm l
 | [] => ⟨[], by simp [R8q]⟩
 | x :: l => by
  obtain ⟨r, h⟩ := a7iq eq l x
  exact ⟨r, h.cons x⟩
theorem af4q {β γ : Type} (g : β → γ) (eq : γ → γ → Bool) : ∀ l : List β, (R8q (fun a b => eq (g a) (g b)) l).map g = R8q eq (l.map g)
 | [] => rfl
 | x :: l => by
  show g x :: _ = _
  rw [aalq g eq l x]; rfl
theorem aaTq (ls : List Li) (hl : ls.length ≤ 3000000000000) : XC pg 236 [.one (.ol 2000), .one (.d (.fn 71))] [(2000, .tr 85 7 (ls.map Li.da))] (.one (.ol 0)) [(0, .tr 85 7 ((R8q a5dq ls).map Li.da))] := by
 refine aesq fun xs' hx => ?_
 obtain ⟨zs, rfl, rfl, ht⟩ := a1sq hx
 obtain ⟨r, hp⟩ := adUq s3q zs
 refine ⟨(R8q s3q zs).map (·.1), ⟨r.map (·.1), ?_⟩, ?_, aavq zs ht (by simpa using hl)⟩
 ·rw [← List.map_append]
  exact hp.map _
 ·rw [a1tq fun z hz => ht z (hp.subset (List.mem_append_left _ hz))]
  congr 1
  exact af4q (fun z : List Da × Li => z.2) a5dq zs
def s9q (s : List Sy) (x : Li) : Li := lmk s x.p x.l x.r
def clm (s : List Sy) (ls : List Li) : List Li := N8q Li.cmp (ls.map (s9q s))
theorem afwq (s : List Sy) (x : Li) : (s9q s x).cn ≤ x.cn := adoq s x.p x.l x.r
theorem a97q (l : List Li) : ∀ a : List Li, cnL Li.cn (l.foldl (fun a x => p1q Li.cmp x a) a) ≤ cnL Li.cn a + cnL Li.cn l := by
 induction l with
 | nil => intro a; simp
 | cons x r ih =>
  intro a
  have h1 := ih (p1q Li.cmp x a)
  have h2 := a9xq (cmp := Li.cmp) (cn := Li.cn) (x := x) a
  have e1 : cnL Li.cn (x :: r) = 1 + x.cn + cnL Li.cn r := by simp [cnL]; omega
  have e2 : cnL Li.cn a = a.length + (a.map Li.cn).sum := by simp [cnL]
  have e3 : cnL Li.cn (p1q Li.cmp x a) = (p1q Li.cmp x a).length + ((p1q Li.cmp x a).map Li.cn).sum := by simp [cnL]
  rw [List.foldl_cons]
  omega
theorem aagq (s : List Sy) (l : List Li) : cnL Li.cn (l.map (s9q s)) ≤ cnL Li.cn l := by
 induction l with
 | nil => simp
 | cons x r ih =>
  have h := afwq s x
  have e1 : cnL Li.cn (x :: r) = 1 + x.cn + cnL Li.cn r := by simp [cnL]; omega
  have e2 : cnL Li.cn ((x :: r).map (s9q s)) = 1 + (s9q s x).cn + cnL Li.cn (r.map (s9q s)) := by simp [cnL]; omega
  omega
theorem adEq (s : List Sy) (ls : List Li) : cnL Li.cn (clm s ls) ≤ cnL Li.cn ls := by
 have h1 := a97q (ls.map (s9q s)) []
 have h2 := aagq s ls
 have h3 : cnL Li.cn ([] : List Li) = 0 := by simp [cnL]
 unfold clm N8q
 omega
theorem M5q (s : List Sy) (hs : s.length ≤ 10000000) (ls : List Li) (hc : cnL Li.cn ls ≤ 1200000000000) : ∀ (q p : List Li), ls = p ++ q → q8q (.agg [.ol 0]) [(0, .tr 85 7 ((clm s ls).map Li.da))] (s.map Sy.da) (ls.map Li.da) (ls.length : Int) (p.length : Int) ((p.map (s9q s)).map Li.da)
 | [], p, e => by
  have hl := g2q Li.cn ls
  have c1 := ab2q (ls.map (s9q s)) (by simp; omega)
  have c2 := aaTq (q2q Li.cmp (ls.map (s9q s))) (by rw [(A2q _ _).length_eq]; simp; omega)
  have e1 : R8q a5dq (q2q Li.cmp (ls.map (s9q s))) = clm s ls := acMq a8Hq (fun _ _ => rfl) _
  rw [e1] at c2
  apply H5q
  have ep : ls = p := by simpa using e
  subst ep
  exact a2q (decide_eq_false (by omega)) ⟨_, c1, _, c2, rfl, rfl⟩
 | x :: q, p, e => by
  have ih := M5q s hs ls hc q (p ++ [x]) (by simp [e])
  have hm := j4q (cn := Li.cn) (l := ls) (x := x) (by simp [e])
  have hl := g2q Li.cn ls
  have hxc : x.cn = x.l.cn + x.r.cn := rfl
  have c := X7q s hs x.p x.l x.r (by omega) (by omega)
  have hx : (ls.map Li.da)[p.length]? = some x.da := by rw [e]; exact g3q
  have hlt : p.length < ls.length := by rw [e]; simp
  have hw := wr1 hlt (by omega)
  have e2 : ((p ++ [x]).map (s9q s)).map Li.da = (p.map (s9q s)).map Li.da ++ [(s9q s x).da] := by simp
  have e3 : s9q s x = lmk s x.p x.l x.r := rfl
  rw [h0q, e2, e3] at ih
  generalize lmk s x.p x.l x.r = y at *
  obtain ⟨pp, ⟨f, v, ks⟩, ⟨g, u, ms⟩⟩ := x
  obtain ⟨pp', ⟨f', v', ks'⟩, ⟨g', u', ms'⟩⟩ := y
  apply H5q
  rw [hw]
  exact a6q (decide_eq_true (by omega)) ⟨p.length, rfl, _, _, _, _, _, _, _, hx, _, _, _, _, _, _, _, c, ⟨by simp; omega⟩, ih⟩
theorem L5q (s : List Sy) (hs : s.length ≤ 10000000) (ls : List Li) (hc : cnL Li.cn ls ≤ 1200000000000) : XC pg 196 [L (s.map Sy.da), L (ls.map Li.da)] [] (.agg [.ol 0]) [(0, .tr 85 7 ((clm s ls).map Li.da))] := by
 apply a2Wq
 rw [List.length_map]
 exact M5q s hs ls hc ls [] rfl
theorem lis7 (l : List Li) : ∀ y ∈ l.map Li.da, y.length = 7 := by
 intro y hy
 obtain ⟨x, _, rfl⟩ := List.mem_map.1 hy
 obtain ⟨p, ⟨f, v, ks⟩, ⟨g, u, ms⟩⟩ := x
 rfl
theorem V2q (r : AV) (O : List (Nat × Ob)) (s1 : List (List Da)) (s0 : List (List Da)) (s6 : Int) (x : Li) (l : List Li) (hl : l.length ≤ 1200000000000) (h : f8q r O s0 s1 (IntKind.wrap .i64 (s6 + 1)) ((p1q Li.cmp x l).map Li.da)) : ∀ (q p : List Li), l = p ++ q → p1q Li.cmp x l = p ++ p1q Li.cmp x q → r4q r O s0 s1 s6 (p.length : Int) x.p x.l.f x.l.v (Tm.das x.l.ks) x.r.f x.r.v (Tm.das x.r.ks) (l.map Li.da)
 | [], p, e, e2 => by
  have hpl : l.length = p.length := by rw [e]; simp
  have ed : x.da = [.bool x.p, .int .i64 x.l.f, .int .i64 x.l.v, .sl (Tm.das x.l.ks), .int .i64 x.r.f, .int .i64 x.r.v, .sl (Tm.das x.r.ks)] := by obtain ⟨pp, ⟨f, v, ks⟩, ⟨g, u, ms⟩⟩ := x; rfl
  apply I2q
  refine a2q (decide_eq_false (by simp; omega)) (a2q (decide_eq_false (by simp; omega)) ⟨p.length, rfl, ⟨by omega, by simp; omega⟩, ⟨by simp; omega⟩, ⟨lis7 l⟩, ⟨by simp; omega⟩, ⟨by simp; omega⟩, p.length, rfl, ⟨by simp; omega, Nat.le_refl _⟩, ⟨by simp; omega⟩, ⟨lis7 l⟩, ⟨by simp; omega⟩, ?_⟩)
  have h' : f8q r O s0 s1 (IntKind.wrap .i64 (s6 + 1)) ([] ++ ((l.map Li.da).drop (0 + 0)).take (p.length - 0) ++ [x.da] ++ ((l.map Li.da).drop (0 + p.length)).take ((l.map Li.da).length - p.length)) := by
   rw [e2] at h
   subst e
   simpa [p1q, u7q, L3q] using h
  rw [ed] at h'
  exact h'
 | y :: q, p, e, e2 => by
  have hpl : l.length = p.length + q.length + 1 := by rw [e]; simp; omega
  have ed : x.da = [.bool x.p, .int .i64 x.l.f, .int .i64 x.l.v, .sl (Tm.das x.l.ks), .int .i64 x.r.f, .int .i64 x.r.v, .sl (Tm.das x.r.ks)] := by obtain ⟨pp, ⟨f, v, ks⟩, ⟨g, u, ms⟩⟩ := x; rfl
  have hx : (l.map Li.da)[p.length]? = some y.da := by rw [e]; exact g3q
  have c1 := a1lq y x
  have c2 := aaiq y x
  rw [ed] at c1 c2
  have hlt : p.length < l.length := by omega
  have hw := wr1 hlt (by omega)
  have ih := fun h2 => V2q r O s1 s0 s6 x l hl h q (p ++ [y]) (by simp [e]) h2
  rw [h0q] at ih
  apply I2q
  rw [hw]
  by_cases hb : Li.cmp y x < 0
  ·have ih2 := ih (by rw [e2, p1q, if_pos hb]; simp)
   clear ih
   obtain ⟨pp, ⟨f, v, ks⟩, ⟨g, u, ms⟩⟩ := y
   exact a6q (decide_eq_true (by simp; omega)) ⟨p.length, rfl, ⟨by simp; omega⟩, p.length, rfl, _, _, _, _, _, _, _, hx, _, c1, a6q (decide_eq_true hb) ih2⟩
  ·by_cases hs : Li.cmp y x = 0
   ·have el : p1q Li.cmp x l = l := by rw [e2, p1q, if_neg hb, if_pos hs, ← e]
    rw [el] at h
    obtain ⟨pp, ⟨f, v, ks⟩, ⟨g, u, ms⟩⟩ := y
    exact a6q (decide_eq_true (by simp; omega)) ⟨p.length, rfl, ⟨by simp; omega⟩, p.length, rfl, _, _, _, _, _, _, _, hx, _, c1, a2q (decide_eq_false hb) (a6q (decide_eq_true (by simp; omega)) ⟨p.length, rfl, ⟨by simp; omega⟩, p.length, rfl, _, _, _, _, _, _, _, hx, _, c2, a6q (decide_eq_true hs) h⟩)⟩
   ·have el : p1q Li.cmp x l = p ++ x :: y :: q := by rw [e2, p1q, if_neg hb, if_neg hs]
    rw [el] at h
    have h' : f8q r O s0 s1 (IntKind.wrap .i64 (s6 + 1)) ([] ++ ((l.map Li.da).drop (0 + 0)).take (p.length - 0) ++ [x.da] ++ ((l.map Li.da).drop (0 + p.length)).take ((l.map Li.da).length - p.length)) := by
     have e3 : [] ++ ((l.map Li.da).drop (0 + 0)).take (p.length - 0) ++ [x.da] ++ ((l.map Li.da).drop (0 + p.length)).take ((l.map Li.da).length - p.length) = (p ++ x :: y :: q).map Li.da := by
      rw [e]; simp [List.take_append, List.drop_append, u7q, L3q]
     rw [e3]; exact h
    rw [ed] at h'
    obtain ⟨pp, ⟨f, v, ks⟩, ⟨g, u, ms⟩⟩ := y
    exact a6q (decide_eq_true (by simp; omega)) ⟨p.length, rfl, ⟨by simp; omega⟩, p.length, rfl, _, _, _, _, _, _, _, hx, _, c1, a2q (decide_eq_false hb) (a6q (decide_eq_true (by simp; omega)) ⟨p.length, rfl, ⟨by simp; omega⟩, p.length, rfl, _, _, _, _, _, _, _, hx, _, c2, a2q (decide_eq_false hs) ⟨p.length, rfl, ⟨by omega, by simp; omega⟩, ⟨by simp; omega⟩, ⟨lis7 l⟩, ⟨by simp; omega⟩, ⟨by simp; omega⟩, p.length, rfl, ⟨by simp; omega, Nat.le_refl _⟩, ⟨by simp; omega⟩, ⟨lis7 l⟩, ⟨by simp; omega⟩, h'⟩⟩)⟩
theorem M1q (s : List Sy) (hs : s.length ≤ 10000000) (ls : List Li) (hc : cnL Li.cn ls ≤ 1200000000000) : ∀ (q p : List Li), ls = p ++ q → f8q (.dat (Cl.mk (clm s ls)).da) [] (s.map Sy.da) (ls.map Li.da) (p.length : Int) ((N8q Li.cmp (p.map (s9q s))).map Li.da)
 | [], p, e => by
  apply I0q
  have ep : ls = p := by simpa using e
  subst ep
  exact a2q (decide_eq_false (by simp)) ⟨rfl, rfl⟩
 | x :: q, p, e => by
  have ih := M1q s hs ls hc q (p ++ [x]) (by simp [e])
  have hm := j4q (cn := Li.cn) (l := ls) (x := x) (by simp [e])
  have hl := g2q Li.cn ls
  have hxc : x.cn = x.l.cn + x.r.cn := rfl
  have c := Y9q s hs x.p x.l x.r (by omega) (by omega)
  have hx : (ls.map Li.da)[p.length]? = some x.da := by rw [e]; exact g3q
  have hlt : p.length < ls.length := by rw [e]; simp
  have hw := wr1 hlt (by omega)
  have e2 : N8q Li.cmp ((p ++ [x]).map (s9q s)) = p1q Li.cmp (lmk s x.p x.l x.r) (N8q Li.cmp (p.map (s9q s))) := by simp [N8q, List.foldl_append, s9q]
  have hlen : (N8q Li.cmp (p.map (s9q s))).length ≤ 1200000000000 := by
   have h1 := a97q (p.map (s9q s)) []
   have h2 := aagq s p
   have h3 : cnL Li.cn ([] : List Li) = 0 := by simp [cnL]
   have h4 := g2q Li.cn (N8q Li.cmp (p.map (s9q s)))
   have h5 : cnL Li.cn ls = cnL Li.cn p + cnL Li.cn (x :: q) := by rw [e]; simp [cnL]; omega
   unfold N8q at h4 ⊢
   omega
  rw [h0q, e2, ← hw] at ih
  have h7 := V2q _ _ _ _ _ (lmk s x.p x.l x.r) (N8q Li.cmp (p.map (s9q s))) hlen ih (N8q Li.cmp (p.map (s9q s))) [] rfl rfl
  generalize lmk s x.p x.l x.r = y at *
  obtain ⟨pp, ⟨f, v, ks⟩, ⟨g, u, ms⟩⟩ := x
  obtain ⟨pp', ⟨f', v', ks'⟩, ⟨g', u', ms'⟩⟩ := y
  apply I0q
  exact a6q (decide_eq_true (by simp; omega)) ⟨p.length, rfl, _, _, _, _, _, _, _, hx, p.length, rfl, _, _, _, _, _, _, _, hx, p.length, rfl, _, _, _, _, _, _, _, hx, _, _, _, _, _, _, _, c, h7⟩
theorem M3q (s : List Sy) (hs : s.length ≤ 10000000) (ls : List Li) (hc : cnL Li.cn ls ≤ 1200000000000) : XC pg 194 [L (s.map Sy.da), L (ls.map Li.da)] [] (.dat (Cl.mk (clm s ls)).da) [] := by
 apply a2Dq
 exact M1q s hs ls hc ls [] rfl
def clA (s : List Sy) (u : List Bd) (ls : List Li) : List Li := clm s (ls.map (o0q s u))
theorem aeoq (s : List Sy) (u : List Bd) (x : Li) : (o0q s u x).cn + 2 ≤ (x.cn + 2) * (cnL Bd.cn u + 1) := by
 have h1 := a5gq u x.l
 have h2 := a5gq u x.r
 have h3 := adoq s x.p (k8q s u x.l) (k8q s u x.r)
 have h4 := Q9q s (fil u x.l)
 have h5 := Q9q s (fil u x.r)
 have h0 : x.cn = x.l.cn + x.r.cn := rfl
 have e1 : k8q s u x.l = nrm s (fil u x.l) := rfl
 have e2 : k8q s u x.r = nrm s (fil u x.r) := rfl
 rw [← e1] at h4
 rw [← e2] at h5
 have e : (x.cn + 2) * (cnL Bd.cn u + 1) = (x.l.cn + 1) * (cnL Bd.cn u + 1) + (x.r.cn + 1) * (cnL Bd.cn u + 1) := by rw [← Nat.add_mul, h0]; congr 1; omega
 unfold o0q
 omega
theorem aeeq (s : List Sy) (u : List Bd) (l : List Li) : cnL Li.cn (l.map (o0q s u)) ≤ (2 * cnL Li.cn l) * (cnL Bd.cn u + 1) := by
 induction l with
 | nil => simp [cnL]
 | cons x r ih =>
  have h := aeoq s u x
  have e1 : cnL Li.cn (x :: r) = 1 + x.cn + cnL Li.cn r := by simp [cnL]; omega
  have e2 : cnL Li.cn ((x :: r).map (o0q s u)) = 1 + (o0q s u x).cn + cnL Li.cn (r.map (o0q s u)) := by simp [cnL]; omega
  have e3 : (2 * cnL Li.cn (x :: r)) * (cnL Bd.cn u + 1) = (x.cn + 2) * (cnL Bd.cn u + 1) + x.cn * (cnL Bd.cn u + 1) + (2 * cnL Li.cn r) * (cnL Bd.cn u + 1) := by
   rw [← Nat.add_mul, ← Nat.add_mul, e1]; congr 1; omega
  omega
theorem af1q {a b : Nat} (h : a + b ≤ 1048577) : 4 * (a * b) ≤ 1099513724929 := by
 have key : 4 * (a * b) ≤ (a + b) * (a + b) := by
  rcases Nat.le_total a b with h1 | h1
  ·obtain ⟨d, rfl⟩ := Nat.exists_eq_add_of_le h1
   have e1 : a * (a + d) = a * a + a * d := Nat.mul_add ..
   have e2 : (a + (a + d)) * (a + (a + d)) = 4 * (a * a) + 4 * (a * d) + d * d := by
    simp only [Nat.add_mul, Nat.mul_add, Nat.mul_comm d a]; omega
   omega
  ·obtain ⟨d, rfl⟩ := Nat.exists_eq_add_of_le h1
   have e1 : (b + d) * b = b * b + d * b := Nat.add_mul ..
   have e2 : (b + d + b) * (b + d + b) = 4 * (b * b) + 4 * (d * b) + d * d := by
    simp only [Nat.add_mul, Nat.mul_add, Nat.mul_comm b d]; omega
   omega
 have := Nat.mul_le_mul h h
 omega
theorem a47q (s : List Sy) {u : List Bd} {l : List Li} (h : cnL Li.cn l + cnL Bd.cn u ≤ 1048576) : cnL Li.cn (l.map (o0q s u)) ≤ 600000000000 := by
 have h1 := aeeq s u l
 have h2 := af1q (a := cnL Li.cn l) (b := cnL Bd.cn u + 1) (by omega)
 rw [Nat.mul_assoc] at h1
 omega
theorem a92q (s : List Sy) (u : List Bd) (l : List Li) (h : cnL Li.cn l + cnL Bd.cn u ≤ 1048576) : cnL Li.cn (clA s u l) ≤ 600000000000 := by
 have h1 := a47q s h
 have h2 := adEq s (l.map (o0q s u))
 unfold clA
 omega
theorem L1q (s : List Sy) (hs : s.length ≤ 10000000) (u : List Bd) (ls : List Li) (hc : cnL Li.cn ls + cnL Bd.cn u ≤ 1048576) : ∀ (q p : List Li), ls = p ++ q → p9q (.dat (Cl.mk (clA s u ls)).da) [] (s.map Sy.da) (u.map Bd.da) (p.length : Int) (ls.map Li.da) ((p.map (o0q s u)).map Li.da)
 | [], p, e => by
  have c := M3q s hs (ls.map (o0q s u)) (by have := a47q s hc; omega)
  apply F6q
  have ep : ls = p := by simpa using e
  subst ep
  exact a2q (decide_eq_false (by simp)) ⟨_, c, rfl, rfl⟩
 | x :: q, p, e => by
  have ih := L1q s hs u ls hc q (p ++ [x]) (by simp [e])
  have hm := j4q (cn := Li.cn) (l := ls) (x := x) (by simp [e])
  have hl := g2q Li.cn ls
  have c := a3rq s hs u (by omega) x (by omega)
  have hx : (ls.map Li.da)[p.length]? = some x.da := by rw [e]; exact g3q
  have hlt : p.length < ls.length := by rw [e]; simp
  have hw := wr1 hlt (by omega)
  have e2 : ((p ++ [x]).map (o0q s u)).map Li.da = (p.map (o0q s u)).map Li.da ++ [(o0q s u x).da] := by simp
  rw [h0q, e2] at ih
  generalize o0q s u x = y at *
  obtain ⟨pp, ⟨f, v, ks⟩, ⟨g, w, ms⟩⟩ := x
  obtain ⟨pp', ⟨f', v', ks'⟩, ⟨g', w', ms'⟩⟩ := y
  apply F6q
  rw [hw]
  exact a6q (decide_eq_true (by simp; omega)) ⟨p.length, rfl, _, _, _, _, _, _, _, hx, _, _, _, _, _, _, _, c, ⟨by simp; omega⟩, ih⟩
theorem a1Hq (s : List Sy) (hs : s.length ≤ 10000000) (u : List Bd) (c : Cl) (hc : c.cn + cnL Bd.cn u ≤ 1048576) : XC pg 132 [L (s.map Sy.da), L (u.map Bd.da), .dat c.da] [] (.dat (Cl.mk (clA s u c.ls)).da) [] := by
 obtain ⟨ls⟩ := c
 apply a2eq
 exact L1q s hs u ls hc ls [] rfl
theorem J9q (s : List Sy) (hs : s.length ≤ 10000000) (u : List Bd) (ls : List Li) (hc : cnL Li.cn ls + cnL Bd.cn u ≤ 1048576) : ∀ (q p : List Li), ls = p ++ q → p6q (.agg [.ol 0]) [(0, .tr 85 7 ((clA s u ls).map Li.da))] (s.map Sy.da) (u.map Bd.da) (ls.map Li.da) (ls.length : Int) (p.length : Int) ((p.map (o0q s u)).map Li.da)
 | [], p, e => by
  have c := L5q s hs (ls.map (o0q s u)) (by have := a47q s hc; omega)
  apply F9q
  have ep : ls = p := by simpa using e
  subst ep
  exact a2q (decide_eq_false (by omega)) ⟨_, c, rfl, rfl⟩
 | x :: q, p, e => by
  have ih := J9q s hs u ls hc q (p ++ [x]) (by simp [e])
  have hm := j4q (cn := Li.cn) (l := ls) (x := x) (by simp [e])
  have hl := g2q Li.cn ls
  have c := a3Fq s hs u (by omega) x (by omega)
  have hx : (ls.map Li.da)[p.length]? = some x.da := by rw [e]; exact g3q
  have hlt : p.length < ls.length := by rw [e]; simp
  have hw := wr1 hlt (by omega)
  have e2 : ((p ++ [x]).map (o0q s u)).map Li.da = (p.map (o0q s u)).map Li.da ++ [(o0q s u x).da] := by simp
  rw [h0q, e2] at ih
  generalize o0q s u x = y at *
  obtain ⟨pp, ⟨f, v, ks⟩, ⟨g, w, ms⟩⟩ := x
  obtain ⟨pp', ⟨f', v', ks'⟩, ⟨g', w', ms'⟩⟩ := y
  apply F9q
  rw [hw]
  exact a6q (decide_eq_true (by omega)) ⟨p.length, rfl, _, _, _, _, _, _, _, hx, _, _, _, _, _, _, _, c, ⟨by simp; omega⟩, ih⟩
theorem a1Bq (s : List Sy) (hs : s.length ≤ 10000000) (u : List Bd) (c : Cl) (hc : c.cn + cnL Bd.cn u ≤ 1048576) : XC pg 138 [L (s.map Sy.da), L (u.map Bd.da), .dat c.da] [] (.agg [.ol 0]) [(0, .tr 85 7 ((clA s u c.ls).map Li.da))] := by
 obtain ⟨ls⟩ := c
 apply a2hq
 rw [List.length_map]
 exact J9q s hs u ls hc ls [] rfl
def ixN : List Int → Int → Nat
 | [], _ => 0
 | x :: r, v => if x = v then 0 else ixN r v + 1
theorem abDq : ∀ (l : List Int) (v : Int) (i : Nat), v ∈ l → F0q (fun x => decide (v = x)) l i = ((i + ixN l v : Nat) : Int)
 | [], v, i, h => by simp at h
 | x :: r, v, i, h => by
  unfold F0q ixN
  by_cases hx : v = x
  ·rw [if_pos (decide_eq_true hx), if_pos hx.symm]; simp
  ·rw [if_neg (by simpa using hx), if_neg (fun e => hx e.symm), abDq r v (i + 1) (by
    rcases List.mem_cons.1 h with h | h
    ·exact absurd h hx
    ·exact h)]
   omega
mutual
def Tm.rn (vs : List Int) : Tm → Tm
 | .mk f v ks => .mk f (if f = -1 then (ixN vs v : Int) else v) (Tm.rns vs ks)
def Tm.rns (vs : List Int) : List Tm → List Tm
 | [] => []
 | t :: r => Tm.rn vs t :: Tm.rns vs r
end
theorem Tm.rns_map (vs : List Int) (l : List Tm) : Tm.rns vs l = l.map (Tm.rn vs) := by induction l <;> simp_all [Tm.rns]
mutual
theorem Tm.rn_cn (vs : List Int) : ∀ t : Tm, (t.rn vs).cn = t.cn
 | .mk f v ks => by
  have h := Tm.rns_cns vs ks
  simp [Tm.rn, Tm.cn, h]
theorem Tm.rns_cns (vs : List Int) : ∀ l : List Tm, Tm.cns (Tm.rns vs l) = Tm.cns l
 | [] => rfl
 | t :: r => by
  have h1 := Tm.rn_cn vs t
  have h2 := Tm.rns_cns vs r
  simp [Tm.rns, Tm.cns, h1, h2]
end
def Li.rn (vs : List Int) (x : Li) : Li := ⟨x.p, x.l.rn vs, x.r.rn vs⟩
theorem Li.rn_cn (vs : List Int) (x : Li) : (x.rn vs).cn = x.cn := by simp [Li.rn, Li.cn, Tm.rn_cn]
theorem a9Iq (vs : List Int) (l : List Li) : cnL Li.cn (l.map (Li.rn vs)) = cnL Li.cn l := by
 simp [cnL, Function.comp_def, Li.rn_cn]
def tdy (s : List Sy) (ls : List Li) : List Li := clm s (ls.map (Li.rn (cvs ls [])))
theorem a9Uq (s : List Sy) (ls : List Li) : cnL Li.cn (tdy s ls) ≤ cnL Li.cn ls := by
 have h1 := adEq s (ls.map (Li.rn (cvs ls [])))
 rw [a9Iq] at h1
 exact h1
theorem abkq : ∀ (l : List Li) (out : List Int) (y : Int), y ∈ cvs l out ↔ y ∈ out ∨ ∃ x ∈ l, x.l.occ y ∨ x.r.occ y
 | [], out, y => by simp [cvs]
 | x :: q, out, y => by
  rw [cvs, abkq q, Tm.mem_vs, Tm.mem_vs]
  simp [or_assoc]
theorem a43q (vs : List Int) (f v k : Int) (ks : List Tm) (hc : ks.length ≤ 1200000000000) : ∀ (q p : List Tm), ks = p ++ q → (∀ t ∈ q, XC pg 193 [.dat t.da, L (vs.map In.da)] [] (.dat (t.rn vs).da) []) → k6q (.dat (Tm.mk f k (Tm.rns vs ks)).da) [] (vs.map In.da) (p.length : Int) f v (Tm.das ks) 0 0 f k (Tm.das (Tm.rns vs p))
 | [], p, e, _ => by
  subst e
  apply K2q
  rw [List.append_nil]
  exact a2q (decide_eq_false (by rw [b3q]; omega)) ⟨rfl, rfl⟩
 | y :: q, p, e, ht => by
  have ih := a43q vs f v k ks hc q (p ++ [y]) (by simp [e]) (fun t h => ht t (List.mem_cons_of_mem _ h))
  have c := ht y (by simp)
  have hx : (Tm.das ks)[p.length]? = some y.da := by rw [e]; exact q5q
  have hlt : p.length < ks.length := by rw [e]; simp
  have hw := wr1 hlt (by omega)
  have hb : ((Tm.das (Tm.rns vs p)).length + 1) * 40 ≤ 140737488355328 := by rw [b3q, Tm.rns_map, List.length_map]; omega
  have e2 : Tm.das (Tm.rns vs (p ++ [y])) = Tm.das (Tm.rns vs p) ++ [(y.rn vs).da] := by simp [Tm.rns_map, Tm.das_map]
  rw [h0q, e2] at ih
  generalize y.rn vs = z at *
  obtain ⟨g, x, ms⟩ := y
  obtain ⟨g', x', ms'⟩ := z
  apply K2q
  rw [hw]
  exact a6q (f0q (by rw [b3q]; exact hlt)) ⟨p.length, rfl, _, _, _, hx, _, _, _, c, ⟨hb⟩, ih⟩
theorem abwq (vs : List Int) (hv : vs.length ≤ 10000000000000) (r : AV) (O : List (Nat × Ob)) (f v : Int) (t2 : List (List Da)) (s4 s41 o1 : Int) (o2 : Int) : ∀ (q p : List Int), vs = p ++ q → k6q r O (vs.map In.da) 0 f v t2 s4 s41 o1 ((p.length + ixN q v : Nat) : Int) [] → s8q r O (vs.map In.da) (p.length : Int) f v t2 s4 s41 o1 o2
 | [], p, e, h => by
  apply J7q
  subst e
  refine a2q (decide_eq_false (by simp)) ?_
  simpa [ixN] using h
 | x :: q, p, e, h => by
  have ih := abwq vs hv r O f v t2 s4 s41 o1 o2 q (p ++ [x]) (by simp [e])
  have hx : (vs.map In.da)[p.length]? = some [.int .i64 x] := i7q (g := In.da) (by rw [e]; exact f7q)
  have hlt : p.length < vs.length := by rw [e]; simp
  have hw := wr1 hlt (by omega)
  rw [h0q] at ih
  apply J7q
  rw [hw]
  refine a6q (f0q (by simpa using hlt)) ⟨p.length, rfl, _, hx, ?_⟩
  by_cases hxv : x = v
  ·refine a2q (by simp [hxv]) ?_
   simpa [ixN, hxv] using h
  ·refine a6q (by simpa using hxv) (ih ?_)
   have e3 : p.length + 1 + ixN q v = p.length + ixN (x :: q) v := by rw [ixN, if_neg hxv]; omega
   rw [e3]; exact h
theorem a19q (vs : List Int) (hv : vs.length ≤ 10000000000000) (t : Tm) : t.cn ≤ 1200000000000 → XC pg 193 [.dat t.da, L (vs.map In.da)] [] (.dat (t.rn vs).da) [] := by
 induction t using Tm.ind with
 | h f v ks ih =>
 intro hc
 have hcn : (Tm.mk f v ks).cn = Tm.cns ks := by simp [Tm.cn]
 rw [hcn] at hc
 have hkl := Tm.len_cns ks
 have hk : ∀ t ∈ ks, XC pg 193 [.dat t.da, L (vs.map In.da)] [] (.dat (t.rn vs).da) [] := fun t ht => ih t ht (by
  have := j4q (cn := Tm.cn) ht
  rw [← Tm.cns_cnL] at this
  omega)
 apply a3qq
 by_cases hf : f = -1
 ·refine a6q (decide_eq_true hf) ?_
  have h := a43q vs f v (ixN vs v : Int) ks (by omega) ks [] rfl hk
  have e : Tm.rn vs (.mk f v ks) = .mk f (ixN vs v : Int) (Tm.rns vs ks) := by rw [Tm.rn, if_pos hf]
  rw [e]
  refine abwq vs hv _ _ f v _ 0 0 f v vs [] rfl ?_
  simpa [Tm.rns, Tm.das] using h
 ·refine a2q (decide_eq_false hf) ?_
  have h := a43q vs f v v ks (by omega) ks [] rfl hk
  have e : Tm.rn vs (.mk f v ks) = .mk f v (Tm.rns vs ks) := by rw [Tm.rn, if_neg hf]
  rw [e]
  simpa [Tm.rns, Tm.das] using h
theorem a1Uq (s : List Sy) (hs : s.length ≤ 10000000) (vs : List Int) (hv : vs.length ≤ 10000000000000) (ls : List Li) (hc : cnL Li.cn ls ≤ 1200000000000) : ∀ (q p : List Li), ls = p ++ q → E3q (.dat (Cl.mk (clm s (ls.map (Li.rn vs)))).da) [] (s.map Sy.da) (vs.map In.da) (p.length : Int) (ls.map Li.da) ((p.map (Li.rn vs)).map Li.da)
 | [], p, e => by
  have c := M3q s hs (ls.map (Li.rn vs)) (by rw [a9Iq]; exact hc)
  apply a07q
  have ep : ls = p := by simpa using e
  subst ep
  exact a2q (decide_eq_false (by simp)) ⟨_, c, rfl, rfl⟩
 | x :: q, p, e => by
  have ih := a1Uq s hs vs hv ls hc q (p ++ [x]) (by simp [e])
  have hm := j4q (cn := Li.cn) (l := ls) (x := x) (by simp [e])
  have hl := g2q Li.cn ls
  have hxc : x.cn = x.l.cn + x.r.cn := rfl
  have c1 := a19q vs hv x.l (by omega)
  have c2 := a19q vs hv x.r (by omega)
  have hx : (ls.map Li.da)[p.length]? = some x.da := by rw [e]; exact g3q
  have hlt : p.length < ls.length := by rw [e]; simp
  have hw := wr1 hlt (by omega)
  have e2 : ((p ++ [x]).map (Li.rn vs)).map Li.da = (p.map (Li.rn vs)).map Li.da ++ [(Li.mk x.p (x.l.rn vs) (x.r.rn vs)).da] := by simp [Li.rn]
  rw [h0q, e2] at ih
  generalize x.l.rn vs = a at *
  generalize x.r.rn vs = b at *
  obtain ⟨pp, ⟨f, v, ks⟩, ⟨g, u, ms⟩⟩ := x
  obtain ⟨f', v', ks'⟩ := a
  obtain ⟨g', u', ms'⟩ := b
  apply a07q
  rw [hw]
  exact a6q (decide_eq_true (by simp; omega)) ⟨p.length, rfl, _, _, _, _, _, _, _, hx, _, _, _, c1, _, _, _, c2, ⟨by simp; omega⟩, ih⟩
theorem adtq (ls : List Li) (hc : cnL Li.cn ls ≤ 1200000000000) : (cvs ls []).length ≤ 2400000000000 := by
 have h := abBq ls []
 have e : cnL Li.cn ls = ls.length + (ls.map Li.cn).sum := by simp [cnL]
 simp at h
 omega
theorem a7Wq (s : List Sy) (hs : s.length ≤ 10000000) (c : Cl) (hc : c.cn ≤ 1200000000000) : XC pg 131 [L (s.map Sy.da), .dat c.da] [] (.dat (Cl.mk (tdy s c.ls)).da) [] := by
 have cv := a2bq c hc
 obtain ⟨ls⟩ := c
 have hv := adtq ls hc
 have h := a1Uq s hs (cvs ls []) (by omega) ls hc ls [] rfl
 apply a9zq
 exact ⟨_, cv, h⟩
theorem acNq (vs : List Int) (hv : vs.length ≤ 10000000000000) (v : Int) (h : v ∈ vs) : XC pg 197 [Z v, .one (.op 2000 0)] [(2000, .var [.ol 2001]), (2001, .tr 3 1 (vs.map In.da))] (Z (ixN vs v : Int)) [(2000, .var [.ol 0]), (0, .tr 3 1 (vs.map In.da))] := by
 have c := M4q (s := vs.map In.da) (v := v) (by
  rw [List.length_map]
  exact T4q vs v hv vs [] rfl)
 rw [show (([] : List Int).length) = 0 from rfl, abDq vs v 0 h, Nat.zero_add] at c
 apply a6Tq
 exact ⟨_, c, rfl, rfl⟩
theorem a1Yq (vs : List Int) (hv : vs.length ≤ 10000000000000) (f v : Int) (ks : List Tm) (hc : ks.length ≤ 1200000000000) (hf : f = -1 → v ∈ vs) : ∀ (q p : List Tm), ks = p ++ q → (∀ t ∈ q, XC pg 207 [.dat t.da, .one (.clo 197 [(2000, 0)])] [(2000, .var [.ol 2001]), (2001, .tr 3 1 (vs.map In.da))] (.agg [.d (.int .i64 (t.rn vs).f), .d (.int .i64 (t.rn vs).v), .ol 0]) [(2000, .var [.ol 1]), (0, .tr 30 3 (Tm.das (t.rn vs).ks)), (1, .tr 3 1 (vs.map In.da))]) →
  k0q (.agg [.d (.int .i64 f), .d (.int .i64 (if f = -1 then (ixN vs v : Int) else v)), .ol 0]) [(2000, .var [.ol 1]), (0, .tr 30 3 (Tm.das (Tm.rns vs ks))), (1, .tr 3 1 (vs.map In.da))] (Tm.das ks) (ks.length : Int) (p.length : Int) f v (Tm.das ks) 0 0 (Tm.das (Tm.rns vs p)) (vs.map In.da)
 | [], p, e, _ => by
  subst e
  apply w4q
  rw [List.append_nil]
  refine a2q (decide_eq_false (by omega)) ⟨_, a0Eq (.mk f v p), d2q (fun h => ?_) fun h => ?_⟩
  ·have h : f = -1 := h
   refine ⟨_, _, acNq vs hv v (hf h), ?_⟩
   rw [if_pos h]
   exact ⟨rfl, rfl⟩
  ·have h : ¬ f = -1 := h
   rw [if_neg h]
   exact ⟨rfl, rfl⟩
 | t :: q, p, e, ih0 => by
  have hpl : p.length < ks.length := by rw [e]; simp
  have hx : (Tm.das ks)[p.length]? = some t.da := n3q (by rw [e]; exact f7q)
  have hcall := ih0 t (by simp)
  have ih := a1Yq vs hv f v ks hc hf q (p ++ [t]) (by rw [e]; simp) fun t ht => ih0 t (List.mem_cons_of_mem _ ht)
  have e2 : Tm.das (Tm.rns vs (p ++ [t])) = Tm.das (Tm.rns vs p) ++ [(t.rn vs).da] := by rw [Tm.rns_map, Tm.rns_map, Tm.das_map, Tm.das_map]; simp
  have hw : IntKind.wrap .i64 ((p.length : Int) + 1) = ((p.length + 1 : Nat) : Int) := wr1 hpl (by omega)
  rw [h0q, e2] at ih
  have hl2 : (Tm.das (Tm.rns vs p)).length = p.length := by rw [b3q, Tm.rns_map]; simp
  generalize t.rn vs = z at *
  obtain ⟨g, u, ls⟩ := t
  obtain ⟨g', u', ls'⟩ := z
  apply w4q
  rw [hw]
  exact a6q (decide_eq_true (by omega)) ⟨p.length, rfl, _, _, _, hx, _, _, _, _, hcall, ⟨by rw [hl2]; simp; omega⟩, ih⟩
theorem a20q (vs : List Int) (hv : vs.length ≤ 10000000000000) (t : Tm) : t.cn ≤ 1200000000000 → (∀ y, t.occ y → y ∈ vs) → XC pg 207 [.dat t.da, .one (.clo 197 [(2000, 0)])] [(2000, .var [.ol 2001]), (2001, .tr 3 1 (vs.map In.da))] (.agg [.d (.int .i64 (t.rn vs).f), .d (.int .i64 (t.rn vs).v), .ol 0]) [(2000, .var [.ol 1]), (0, .tr 30 3 (Tm.das (t.rn vs).ks)), (1, .tr 3 1 (vs.map In.da))] := by
 induction t using Tm.ind with
 | h f v ks ih =>
  intro hc ho
  have h1 := Tm.len_cns ks
  have h2 : (Tm.mk f v ks).cn = Tm.cns ks := rfl
  have hoc : ∀ t ∈ ks, ∀ y, t.occ y → Tm.occs ks y := by
   intro t ht y hy
   clear ih h1 h2 ho hc
   induction ks with
   | nil => simp at ht
   | cons a r ih =>
    rcases List.mem_cons.1 ht with rfl | ht
    ·exact .inl hy
    ·exact .inr (ih ht)
  have hk : ∀ t ∈ ks, _ := fun t ht => ih t ht (by
   have := j4q (cn := Tm.cn) ht
   rw [← Tm.cns_cnL] at this
   omega) (fun y hy => ho y (.inr (hoc t ht y hy)))
  have hl := a1Yq vs hv f v ks (by omega) (fun hf => ho v (.inl ⟨hf, rfl⟩)) ks [] rfl hk
  apply Q6q
  rw [b3q]
  exact hl
theorem N0q (vs : List Int) (hv : vs.length ≤ 10000000000000) (ls : List Li) (hc : cnL Li.cn ls ≤ 1200000000000) (ho : ∀ x ∈ ls, ∀ y, x.l.occ y ∨ x.r.occ y → y ∈ vs) : ∀ (q p : List Li), ls = p ++ q → i4q (.agg [.ol 0]) [(2000, .var [.ol 1]), (0, .tr 85 7 ((ls.map (Li.rn vs)).map Li.da)), (1, .tr 3 1 (vs.map In.da))] (ls.map Li.da) (ls.length : Int) (p.length : Int) (vs.map In.da) ((p.map (Li.rn vs)).map Li.da)
 | [], p, e => by
  subst e
  apply r1q
  rw [List.append_nil]
  exact a2q (decide_eq_false (by omega)) ⟨rfl, rfl⟩
 | x :: q, p, e => by
  have ih := N0q vs hv ls hc ho q (p ++ [x]) (by simp [e])
  have hxm : x ∈ ls := by simp [e]
  have hm := j4q (cn := Li.cn) (l := ls) (x := x) hxm
  have hl := g2q Li.cn ls
  have hxc : x.cn = x.l.cn + x.r.cn := rfl
  have c1 := a20q vs hv x.l (by omega) (fun y hy => ho x hxm y (.inl hy))
  have c2 := a20q vs hv x.r (by omega) (fun y hy => ho x hxm y (.inr hy))
  have hx : (ls.map Li.da)[p.length]? = some x.da := by rw [e]; exact g3q
  have hlt : p.length < ls.length := by rw [e]; simp
  have hw := wr1 hlt (by omega)
  have e2 : ((p ++ [x]).map (Li.rn vs)).map Li.da = (p.map (Li.rn vs)).map Li.da ++ [(Li.mk x.p (x.l.rn vs) (x.r.rn vs)).da] := by simp [Li.rn]
  rw [h0q, e2] at ih
  generalize x.l.rn vs = a at *
  generalize x.r.rn vs = b at *
  obtain ⟨pp, ⟨f, v, ks⟩, ⟨g, u, ms⟩⟩ := x
  obtain ⟨f', v', ks'⟩ := a
  obtain ⟨g', u', ms'⟩ := b
  apply r1q
  rw [hw]
  exact a6q (decide_eq_true (by omega)) ⟨p.length, rfl, _, _, _, _, _, _, _, hx, _, _, _, _, c1, _, _, _, _, c2, ⟨by simp; omega⟩, ih⟩
theorem a81q (s : List Sy) (hs : s.length ≤ 10000000) (c : Cl) (hc : c.cn ≤ 1200000000000) : XC pg 137 [L (s.map Sy.da), .dat c.da] [] (.agg [.ol 0]) [(0, .tr 85 7 ((tdy s c.ls).map Li.da))] := by
 have cv := a2jq c hc
 obtain ⟨ls⟩ := c
 have hv := adtq ls hc
 have hr := F7q (c := ls.map Li.da) (by
  rw [List.length_map]
  exact N0q (cvs ls []) (by omega) ls hc (fun x hx y hy => (abkq ls [] y).2 (.inr ⟨x, hx, hy⟩)) ls [] rfl)
 have cm := L5q s hs (ls.map (Li.rn (cvs ls []))) (by rw [a9Iq]; exact hc)
 apply a9Nq
 exact ⟨_, cv, _, _, hr, _, cm, rfl, rfl⟩
def G4q {α : Type} (l : List α) (i : Nat) : List α := l.take i ++ l.drop (i + 1)
theorem a9Pq {α : Type} {l : List α} {i : Nat} {x : α} (h : l[i]? = some x) : l = l.take i ++ x :: l.drop (i + 1) := by
 obtain ⟨hl, e⟩ := List.getElem?_eq_some_iff.1 h
 have h1 := (List.take_append_drop i l).symm
 rw [List.drop_eq_getElem_cons hl, e] at h1
 exact h1
theorem a6Kq {l : List Li} {i : Nat} {x : Li} (h : l[i]? = some x) : cnL Li.cn (G4q l i) ≤ cnL Li.cn l := by
 have e := a9Pq h
 have e1 : cnL Li.cn l = cnL Li.cn (l.take i) + (1 + x.cn) + cnL Li.cn (l.drop (i + 1)) := by
  conv => lhs; rw [e]
  simp [cnL]; omega
 have e2 : cnL Li.cn (G4q l i) = cnL Li.cn (l.take i) + cnL Li.cn (l.drop (i + 1)) := by simp [G4q, cnL]; omega
 omega
def noCl : Cl × Bool := (⟨[]⟩, false)
noncomputable def mdC (s : List Sy) (ls : List Li) (u : List Bd) : Cl × Bool :=
 if dB (C5q s ⟨tdy s (clA s u ls)⟩) then (⟨tdy s (clA s u ls)⟩, true) else noCl
theorem agXq (s : List Sy) (ls : List Li) (u : List Bd) (h : cnL Li.cn ls + cnL Bd.cn u ≤ 1048576) : (mdC s ls u).1.cn ≤ 600000000000 := by
 have h1 := a92q s u ls h
 have h2 := a9Uq s (clA s u ls)
 unfold mdC
 split
 ·show cnL Li.cn (tdy s (clA s u ls)) ≤ _
  omega
 ·show cnL Li.cn ([] : List Li) ≤ _
  simp [cnL]
theorem a9sq (s : List Sy) (hs : s.length ≤ 10000000) (ls : List Li) (u : List Bd) (h : cnL Li.cn ls + cnL Bd.cn u ≤ 1048576) : XC pg 67 [L (s.map Sy.da), L (ls.map Li.da), L (u.map Bd.da)] [] (.tup [.dat (mdC s ls u).1.da, B (mdC s ls u).2]) [] := by
 have h1 := a92q s u ls h
 have h2 := a9Uq s (clA s u ls)
 have c1 := a1Hq s hs u ⟨ls⟩ h
 have c2 := a7Wq s hs ⟨clA s u ls⟩ (by show cnL Li.cn (clA s u ls) ≤ _; omega)
 have c3 := T7q s ⟨tdy s (clA s u ls)⟩ (by show cnL Li.cn (tdy s (clA s u ls)) ≤ _; omega)
 unfold mdC
 dsimp only at c1 c2
 generalize dB (C5q s ⟨tdy s (clA s u ls)⟩) = ok at *
 apply a4Lq
 refine ⟨_, c1, _, c2, _, c3, ?_⟩
 cases ok with
 | false => exact a6q rfl ⟨rfl, rfl⟩
 | true => exact a2q rfl ⟨rfl, rfl⟩
theorem adHq (s : List Sy) (hs : s.length ≤ 10000000) (ls : List Li) (u : List Bd) (h : cnL Li.cn ls + cnL Bd.cn u ≤ 1048576) : XC pg 73 [L (s.map Sy.da), L (ls.map Li.da), L (u.map Bd.da)] [] (.tup [.agg [.ol 0], B (mdC s ls u).2]) [(0, .tr 85 7 ((mdC s ls u).1.ls.map Li.da))] := by
 have h1 := a92q s u ls h
 have h2 := a9Uq s (clA s u ls)
 have c1 := a1Bq s hs u ⟨ls⟩ h
 have c2 := a81q s hs ⟨clA s u ls⟩ (by show cnL Li.cn (clA s u ls) ≤ _; omega)
 have c3 := U3q s ⟨tdy s (clA s u ls)⟩ (by show cnL Li.cn (tdy s (clA s u ls)) ≤ _; omega)
 unfold mdC
 dsimp only at c1 c2
 generalize dB (C5q s ⟨tdy s (clA s u ls)⟩) = ok at *
 apply a9Xq
 refine ⟨_, c1, _, c2, _, c3, ?_⟩
 cases ok with
 | false => exact a6q rfl ⟨rfl, rfl⟩
 | true => exact a2q rfl ⟨rfl, rfl⟩
theorem aauq (ls : List Li) (i : Nat) (hi : i < ls.length) (hl : ls.length ≤ 1200000000000) : XC pg 68 [L (ls.map Li.da), Z (i : Int)] [] (L ((G4q ls i).map Li.da)) [] := by
 have hw : IntKind.wrap .i64 ((i : Int) + 1) = ((i + 1 : Nat) : Int) := wr1 hi (by omega)
 have e : [] ++ List.drop 0 (List.take i (ls.map Li.da)) ++ List.drop (i + 1) (List.take (ls.map Li.da).length (ls.map Li.da)) = (G4q ls i).map Li.da := by
  rw [List.take_length]
  simp [G4q, List.map_take, List.map_drop]
 apply a6Bq
 refine ⟨i, rfl, ⟨by omega, by simp; omega⟩, ⟨lis7 ls⟩, ⟨fun y hy => lis7 ls y (List.mem_of_mem_take (List.mem_of_mem_drop hy))⟩, ⟨by simp; omega⟩, i + 1, hw, ⟨by simp; omega, Nat.le_refl _⟩, ⟨lis7 ls⟩, ⟨fun y hy => lis7 ls y (List.mem_of_mem_take (List.mem_of_mem_drop hy))⟩, ⟨by rw [List.take_length]; simp; omega⟩, ?_, rfl⟩
 rw [e]
theorem a9Jq (l : List Li) (hl : l.length ≤ 1200000000000) : XC pg 140 [L (l.map Li.da)] [] (.one (.ol 0)) [(0, .lst 85 7 (l.map Li.da))] := by
 apply a2fq
 refine ⟨fun h => ⟨rfl, ?_⟩, ⟨lis7 l⟩, ⟨by simp; omega⟩, rfl, by simp⟩
 cases l with
 | nil => rfl
 | cons a r =>
  obtain ⟨p, ⟨f, v, ks⟩, ⟨g, u, ms⟩⟩ := a
  simp [Li.da, Tm.da] at h
theorem a9Kq (P R : List (List Da)) (x : List Da) (hl : P.length + R.length ≤ 1200000000000) : XC pg 139 [.one (.ol 2000), Z (P.length : Int), Z ((P.length + 1 : Nat) : Int)] [(2000, .lst 85 7 (P ++ x :: R))] (.one (.ol 0)) [(0, .lst 85 7 (P ++ R))] := by
 have hlen : (P ++ x :: R).length = P.length + R.length + 1 := by simp; omega
 have hT : List.take ((P ++ x :: R).length - (P.length + 1)) (List.drop (0 + (P.length + 1)) (P ++ x :: R)) = R := by
  have : List.drop (0 + (P.length + 1)) (P ++ x :: R) = R := by simp [List.drop_append]
  rw [this]
  exact List.take_of_length_le (by omega)
 have hP : List.take (0 + 0 + (P.length - 0)) (P ++ x :: R) = P := by simp
 apply a1Jq
 intro c h1 h2
 refine ⟨P.length, rfl, P.length + 1, rfl, _, rfl, ⟨by omega, by omega, Nat.le_refl _⟩, a2q (decide_eq_false (by omega)) ⟨P.length, rfl, ⟨by omega, .inl (by omega)⟩, P.length + 1, rfl, ⟨by omega, .inl (Nat.le_refl _)⟩, ⟨by omega⟩, ⟨by omega, ?_⟩, ?_⟩⟩
 ·rw [hT]; omega
 ·rw [hT, hP]
  refine a6q (decide_eq_true (by omega)) ⟨_, rfl, _, rfl, ⟨by omega, .inr (by omega)⟩, ⟨?_⟩, ⟨?_⟩, rfl, ?_⟩
  ·simp only [List.length_append, List.length_drop, hlen]; omega
  ·simp only [List.length_append, List.length_take, List.length_replicate, List.length_drop, hlen]; omega
  ·have e1 : List.take (0 + 0 + (P.length - 0 + R.length)) (P ++ R ++ List.drop (0 + 0 + (P.length - 0) + R.length) (P ++ x :: R)) = P ++ R := List.take_left' (by simp)
   have e2 : ∀ Q : List (List Da), List.take (P.length - 0 + R.length) (P ++ R ++ Q) = P ++ R := fun Q => List.take_left' (by simp)
   rw [e1, List.append_assoc (P ++ R), e2]
theorem a4Mq (c : Cl) (i : Nat) (hi : i < c.ls.length) (hl : c.ls.length ≤ 1200000000000) : XC pg 74 [.dat c.da, Z (i : Int)] [] (L ((G4q c.ls i).map Li.da)) [] := by
 obtain ⟨ls⟩ := c
 dsimp only at hi hl ⊢
 obtain ⟨x, hx⟩ := d0q hi
 have hw : IntKind.wrap .i64 ((i : Int) + 1) = ((i + 1 : Nat) : Int) := wr1 hi (by omega)
 have c1 := a9Jq ls hl
 have htl : (ls.take i).length = i := by simp; omega
 have c2 := a9Kq ((ls.take i).map Li.da) ((ls.drop (i + 1)).map Li.da) x.da (by simp; omega)
 have e1 : (ls.take i).map Li.da ++ x.da :: (ls.drop (i + 1)).map Li.da = ls.map Li.da := by
  conv => rhs; rw [a9Pq hx]
  simp
 have e2 : (ls.take i).map Li.da ++ (ls.drop (i + 1)).map Li.da = (G4q ls i).map Li.da := by simp [G4q]
 rw [e1, e2, List.length_map, htl] at c2
 apply a2Rq
 rw [hw]
 exact ⟨_, c1, _, c2, rfl, rfl⟩
theorem acLq (c : Cl) (i : Int) (hl : c.ls.length ≤ 1200000000000) : XC pg 70 [.dat c.da, Z i] [] (B (inR i 0 ((c.ls.length : Int) - 1))) [] := by
 obtain ⟨ls⟩ := c
 dsimp only at hl ⊢
 have w : IntKind.wrap .i64 ((ls.length : Int) - 1) = (ls.length : Int) - 1 := wrI (by omega) (by omega)
 apply a8pq
 rw [List.length_map, w]
 exact ⟨_, C7q i 0 _, rfl, rfl⟩
noncomputable def rsv (s : List Sy) (c : Cl) (i : Int) (u : List Bd) : Cl × Bool :=
 if dB (C5q s c) then
  match c.ls[i.toNat]? with
  | some x => if inR i 0 ((c.ls.length : Int) - 1) && (!x.p && decide (Tm.cmp (k8q s u x.l) (k8q s u x.r) = 0)) then mdC s (G4q c.ls i.toNat) u else noCl
  | none => noCl
 else noCl
theorem addq {s : List Sy} {c : Cl} {i : Int} {u : List Bd} (h : inR i 0 ((c.ls.length : Int) - 1) = false) : rsv s c i u = noCl := by
 unfold rsv
 split
 ·split
  ·rw [h]; rfl
  ·rfl
 ·rfl
theorem adbq {s : List Sy} {ls : List Li} {m : Nat} {x : Li} {u : List Bd} (hx : ls[m]? = some x) (h : inR (m : Int) 0 ((ls.length : Int) - 1) = true) : rsv s ⟨ls⟩ (m : Int) u = if dB (C5q s ⟨ls⟩) then (if !x.p && decide (Tm.cmp (k8q s u x.l) (k8q s u x.r) = 0) then mdC s (G4q ls m) u else noCl) else noCl := by
 unfold rsv
 dsimp only
 rw [Int.toNat_natCast, hx]
 dsimp only
 rw [h, Bool.true_and]
theorem a6Fq : noCl.1.cn ≤ 600000000000 := by
 show cnL Li.cn ([] : List Li) ≤ _
 simp [cnL]
theorem agZq (s : List Sy) (c : Cl) (i : Int) (u : List Bd) (hc : c.cn + cnL Bd.cn u ≤ 1048576) : (rsv s c i u).1.cn ≤ 600000000000 := by
 unfold rsv
 split
 ·split
  ·rename_i x hx
   split
   ·have := a6Kq hx
    have e : c.cn = cnL Li.cn c.ls := rfl
    exact agXq s _ u (by omega)
   ·exact a6Fq
  ·exact a6Fq
 ·exact a6Fq
theorem a3zq (s : List Sy) (hs : s.length ≤ 10000000) (c : Cl) (i : Int) (u : List Bd) (hc : c.cn + cnL Bd.cn u ≤ 1048576) : XC pg 31 [L (s.map Sy.da), .dat c.da, Z i, L (u.map Bd.da)] [] (.tup [.dat (rsv s c i u).1.da, B (rsv s c i u).2]) [] := by
 have hll := g2q Li.cn c.ls
 have ec : c.cn = cnL Li.cn c.ls := rfl
 have k := T7q s c (by omega)
 obtain ⟨ls⟩ := c
 dsimp only at hll ec
 have w : IntKind.wrap .i64 ((ls.length : Int) - 1) = (ls.length : Int) - 1 := wrI (by omega) (by omega)
 have cI := C6q i 0 ((ls.length : Int) - 1)
 apply a4jq
 rw [List.length_map, w]
 by_cases hi : inR i 0 ((ls.length : Int) - 1) = true
 ·obtain ⟨h1, h2⟩ := a0Oq.1 hi
  obtain ⟨m, rfl⟩ : ∃ m : Nat, i = (m : Int) := ⟨i.toNat, by omega⟩
  obtain ⟨x, hx⟩ := d0q (l := ls) (i := m) (by omega)
  have hx2 := i7q (g := Li.da) hx
  have hxm := j4q (cn := Li.cn) (List.mem_of_getElem? hx)
  have hxc : x.cn = x.l.cn + x.r.cn := rfl
  have hd := a6Kq hx
  have a1 := E6q s hs u (by omega) x.l (by omega)
  have a2 := E6q s hs u (by omega) x.r (by omega)
  have t := A8q (k8q s u x.l) (k8q s u x.r)
  have b := aauq ls m (by omega) (by omega)
  have md := a9sq s hs (G4q ls m) u (by omega)
  rw [adbq hx hi]
  rw [hi] at cI
  generalize dB (C5q s ⟨ls⟩) = ok at *
  generalize mdC s (G4q ls m) u = z at *
  obtain ⟨⟨zl⟩, zb⟩ := z
  generalize k8q s u x.l = y1 at *
  generalize k8q s u x.r = y2 at *
  generalize Tm.cmp y1 y2 = cc at *
  obtain ⟨p, ⟨f, v, ks⟩, ⟨g, w', ms⟩⟩ := x
  obtain ⟨f1, v1, k1⟩ := y1
  obtain ⟨f2, v2, k2⟩ := y2
  cases ok with
  | false => exact ⟨_, k, a6q rfl ⟨rfl, rfl⟩⟩
  | true =>
   refine ⟨_, k, a2q rfl ⟨_, cI, a2q rfl ⟨m, rfl, _, _, _, _, _, _, _, hx2, ?_⟩⟩⟩
   cases p with
   | true => exact a6q rfl ⟨rfl, rfl⟩
   | false =>
    refine a2q rfl ⟨m, rfl, _, _, _, _, _, _, _, hx2, _, _, _, a1, m, rfl, _, _, _, _, _, _, _, hx2, _, _, _, a2, _, t, ?_⟩
    by_cases h0 : cc = 0
    ·refine a2q (by simp [h0]) ⟨_, b, _, _, md, ?_⟩
     simp [h0, Cl.da]
    ·refine a6q (by simp [h0]) ?_
     simp [h0, noCl, Cl.da]
 ·have hi' : inR i 0 ((ls.length : Int) - 1) = false := by simpa using hi
  rw [addq hi']
  rw [hi'] at cI
  generalize dB (C5q s ⟨ls⟩) = ok at *
  cases ok with
  | false => exact ⟨_, k, a6q rfl ⟨rfl, rfl⟩⟩
  | true => exact ⟨_, k, a2q rfl ⟨_, cI, a6q rfl ⟨rfl, rfl⟩⟩⟩
theorem a3Eq (s : List Sy) (hs : s.length ≤ 10000000) (c : Cl) (i : Int) (u : List Bd) (hc : c.cn + cnL Bd.cn u ≤ 1048576) : XC pg 32 [L (s.map Sy.da), .dat c.da, Z i, L (u.map Bd.da)] [] (.tup [.agg [.ol 0], B (rsv s c i u).2]) [(0, .tr 85 7 ((rsv s c i u).1.ls.map Li.da))] := by
 have hll := g2q Li.cn c.ls
 have ec : c.cn = cnL Li.cn c.ls := rfl
 have k := U3q s c (by omega)
 have cI := acLq c i (by omega)
 obtain ⟨ls⟩ := c
 dsimp only at hll ec cI
 apply a4qq
 by_cases hi : inR i 0 ((ls.length : Int) - 1) = true
 ·obtain ⟨h1, h2⟩ := a0Oq.1 hi
  obtain ⟨m, rfl⟩ : ∃ m : Nat, i = (m : Int) := ⟨i.toNat, by omega⟩
  obtain ⟨x, hx⟩ := d0q (l := ls) (i := m) (by omega)
  have hx2 := i7q (g := Li.da) hx
  have hxm := j4q (cn := Li.cn) (List.mem_of_getElem? hx)
  have hxc : x.cn = x.l.cn + x.r.cn := rfl
  have hd := a6Kq hx
  have a1 := E4q s hs u (by omega) x.l (by omega)
  have a2 := E4q s hs u (by omega) x.r (by omega)
  have t := a3yq (k8q s u x.l) (k8q s u x.r)
  have b := a4Mq ⟨ls⟩ m (by dsimp only; omega) (by dsimp only; omega)
  have md := adHq s hs (G4q ls m) u (by omega)
  rw [adbq hx hi]
  rw [hi] at cI
  dsimp only at b
  generalize dB (C5q s ⟨ls⟩) = ok at *
  generalize mdC s (G4q ls m) u = z at *
  obtain ⟨⟨zl⟩, zb⟩ := z
  generalize k8q s u x.l = y1 at *
  generalize k8q s u x.r = y2 at *
  generalize Tm.cmp y1 y2 = cc at *
  obtain ⟨p, ⟨f, v, ks⟩, ⟨g, w', ms⟩⟩ := x
  obtain ⟨f1, v1, k1⟩ := y1
  obtain ⟨f2, v2, k2⟩ := y2
  cases ok with
  | false => exact ⟨_, k, a6q rfl ⟨rfl, rfl⟩⟩
  | true =>
   refine ⟨_, k, a2q rfl ⟨_, cI, a2q rfl ⟨m, rfl, _, _, _, _, _, _, _, hx2, ?_⟩⟩⟩
   cases p with
   | true => exact a6q rfl ⟨rfl, rfl⟩
   | false =>
    refine a2q rfl ⟨m, rfl, _, _, _, _, _, _, _, hx2, _, _, _, a1, m, rfl, _, _, _, _, _, _, _, hx2, _, _, _, a2, _, t, ?_⟩
    by_cases h0 : cc = 0
    ·refine a2q (by simp [h0]) ⟨_, b, _, _, md, ?_⟩
     simp [h0]
    ·refine a6q (by simp [h0]) ?_
     simp [h0, noCl]
 ·have hi' : inR i 0 ((ls.length : Int) - 1) = false := by simpa using hi
  rw [addq hi']
  rw [hi'] at cI
  generalize dB (C5q s ⟨ls⟩) = ok at *
  cases ok with
  | false => exact ⟨_, k, a6q rfl ⟨rfl, rfl⟩⟩
  | true => exact ⟨_, k, a2q rfl ⟨_, cI, a6q rfl ⟨rfl, rfl⟩⟩⟩
theorem Y1q (ss : List Sy) (kss : ∀ y ∈ ss, Sy.ok y) (c : Cl) (kc : c.ok) (i : Int) (ki : i64 i) (w : List Bd) (kw : ∀ y ∈ w, Bd.ok y) : XC pg 6 [L (ss.map Sy.da), .dat c.da, Z i, L (w.map Bd.da)] [] (B true) [] := by
 have s0 := abbq ss 1048576 (by omega) (by omega)
 rcases Int.lt_or_le (lft (cnL Sy.cn ss) 1048576) 0 with g0 | g0
 ·obtain ⟨ls_1⟩ := c
  apply p5q
  exact ⟨_, s0, a6q (decide_eq_true g0) ⟨rfl, rfl⟩⟩
 have q0 := aaaq g0
 have s1 := a8iq c _ g0 (by omega)
 rcases Int.lt_or_le (lft (c.cn) (lft (cnL Sy.cn ss) 1048576)) 0 with g1 | g1
 ·obtain ⟨ls_1⟩ := c
  apply p5q
  exact ⟨_, s0, a2q (decide_eq_false (Int.not_lt.2 g0)) ⟨_, s1, a6q (decide_eq_true g1) ⟨rfl, rfl⟩⟩⟩
 have q1 := aaaq g1
 have s2 := a8Mq w _ g1 (by omega)
 rcases Int.lt_or_le (lft (cnL Bd.cn w) (lft (c.cn) (lft (cnL Sy.cn ss) 1048576))) 0 with g2 | g2
 ·obtain ⟨ls_1⟩ := c
  apply p5q
  exact ⟨_, s0, a2q (decide_eq_false (Int.not_lt.2 g0)) ⟨_, s1, a2q (decide_eq_false (Int.not_lt.2 g1)) ⟨_, s2, a6q (decide_eq_true g2) ⟨rfl, rfl⟩⟩⟩⟩
 have q2 := aaaq g2
 have hlenss := g2q Sy.cn ss
 have hsyss := a9uq ss
 have hccc : c.cn = cnL Li.cn c.ls := rfl
 have hclc := g2q Li.cn c.ls
 have hcmc := adYq c.ls
 have hblw := g2q Bd.cn w
 have hbmw := a8Yq w
 have hu := agZq ss c i w (by omega)
 have hku := adYq (rsv ss c i w).1.ls
 have hlu := g2q Li.cn (rsv ss c i w).1.ls
 have hcu : (rsv ss c i w).1.cn = cnL Li.cn (rsv ss c i w).1.ls := rfl
 have t0 := aakq ss (by omega)
 have e0 := ab9q ss
 have m0 := a7Lq ss (1) (by omega) (by omega) (by omega)
 have t1 := a6Lq c (by omega)
 have e1 := a1Zq c
 have m1 := a0hq c (1 + E5q ss) (by omega) (by omega)
 have t2 := a8qq w (by omega)
 have e2 := a9Zq w
 have m2 := a6zq w (1 + E5q ss + mkN c.ls) (by omega) (by omega)
 have c1 := a3zq ss (by omega) c i w (by omega)
 have c2 := a3Eq ss (by omega) c i w (by omega)
 have hk : (((1 + E5q ss + mkN c.ls + K8q w : Nat)) : Int) ≥ 0 := by omega
 generalize rsv ss c i w = ub at *
 obtain ⟨u, bb⟩ := ub
 dsimp only at hu hku hlu hcu
 have eu := a1Zq u
 have mu := a0hq u 1 (by omega) (by omega)
 have hd := a4Sq u 1 (by omega) (by omega)
 obtain ⟨ls_1⟩ := c
 obtain ⟨l0⟩ := u
 apply p5q
 exact ⟨_, s0, a2q (decide_eq_false (Int.not_lt.2 g0)) ⟨_, s1, a2q (decide_eq_false (Int.not_lt.2 g1)) ⟨_, s2, a2q (decide_eq_false (Int.not_lt.2 g2)) ⟨_, t0, _, t1, _, t2, _, _, c1, _, t0, _, t1, _, t2, _, _, c2, _, eu, a2q rfl (a2q (by simp) ⟨_, t0, _, e0, a2q rfl ⟨_, t1, _, e1, a2q rfl ⟨_, t2, _, e2, a2q rfl ⟨_, _, m0, _, _, m1, _, _, m2, a2q (decide_eq_false (by omega)) ⟨_, eu, a2q rfl (a2q (by simp) ⟨_, _, mu, _, hd, a2q (decide_eq_false (by omega)) (a2q (by simp) ⟨_, t0, _, t1, _, t2, _, _, c2, _, eu, a2q rfl (a2q (by simp) ⟨_, hd, a2q (decide_eq_false (by omega)) (a2q (by simp) ⟨rfl, rfl⟩)⟩)⟩)⟩)⟩⟩⟩⟩⟩)⟩⟩⟩⟩
end AM
end Go.Proofs.YtajcoogpmockiaaGreat
