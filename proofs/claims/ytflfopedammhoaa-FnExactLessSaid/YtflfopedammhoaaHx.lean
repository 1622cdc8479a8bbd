/- Contracts of functions of the program, out of what their texts ask; no conditions. -/
import Derived.Test.YtflfopedammhoaaHq
import Derived.Test.YtflfopedammhoaaDt
import Derived.Test.YtflfopedammhoaaHr
set_option linter.unusedVariables false
set_option linter.unusedSimpArgs false
set_option maxRecDepth 100000
namespace Go.Proofs.Ytflfopedammhoaa
namespace AM
open Go Go.ChangeShapes Go.WideShapes Go.RowKit

theorem toSymO_call (x : Sy) : XC Try.prog 91 [.dat x.da] [] (.dat x.da) [] := by
  obtain ⟨a, b, c⟩ := x
  exact laws_toSym_of ⟨rfl, rfl⟩
theorem toSymSO_call (l : List Sy) (hc : cnL Sy.cn l ≤ 1048576) : XC Try.prog 27 [L (l.map Sy.da)] [] (.one (.ol 0)) [(0, .tr 119 3 (l.map Sy.da))] := by
  have hl := cnL_len Sy.cn l
  apply laws_toSymS_of
  refine ⟨l.length, l.length, by simp, by simp, ⟨by omega, by omega, by omega⟩, ?_⟩
  have key := loopUp (p := fun i => laws_toSymS_L3 (.one (.ol 0)) [(0, .tr 119 3 (l.map Sy.da))] (l.map Sy.da) (i : Int) ((l.map Sy.da).take i ++ List.replicate ((l.map Sy.da).length - i) [.str ⟨#[]⟩, .int .i64 0, .bool false])) l.length ?_ ?_ 0 (Nat.zero_le _)
  · rw [List.take_zero, List.nil_append, Nat.sub_zero, List.length_map] at key
    exact key
  · apply laws_toSymS_L3_of
    refine ifB_f (lt_decF (by simp)) ⟨rfl, ?_⟩
    rw [fill_all rfl (by simp)]
  · intro i hi ih
    obtain ⟨x, hx⟩ := get_ex hi
    have hx1 := get_map (g := Sy.da) hx
    have hxc := toSymO_call x
    have hd := Sy.da_len x
    obtain ⟨a, b, c⟩ := x
    apply laws_toSymS_L3_of
    refine ifB_t (lt_dec (by simpa using hi)) ⟨i, rfl, _, _, _, hx1, _, _, _, hxc, i, rfl, ⟨by simp; omega⟩, i, by omega, _, _, _, fill_get rfl (by simpa using hi), ?_⟩
    rw [wr1 hi (by omega)]
    have he := fill_setE (z := [.str ⟨#[]⟩, .int .i64 0, .bool false]) (n := (l.map Sy.da).length) rfl hx1 hd rfl
    exact he ▸ ih
theorem toRuleO_call (x : Ru) (hc : x.cn ≤ 1048576) : XC Try.prog 51 [.dat x.da] [] (.agg [.d (.int .i64 x.l.f), .d (.int .i64 x.l.v), .ol 0, .d (.int .i64 x.r.f), .d (.int .i64 x.r.v), .ol 1]) [(0, .tr 30 3 (Tm.das x.l.ks)), (1, .tr 30 3 (Tm.das x.r.ks))] := by
  have h0 : x.cn = x.l.cn + x.r.cn := rfl
  have h1 := toTermO_call x.l (by omega)
  have h2 := toTermO_call x.r (by omega)
  obtain ⟨⟨f, v, ks⟩, ⟨g, u, ms⟩⟩ := x
  apply laws_toRule_of
  exact ⟨_, _, _, h1, _, _, _, h2, rfl, rfl⟩
/-- A row with its tags, and what it stands for. -/
def TgP {α : Type} (da : α → List Da) (z : List Da × α) : Prop := z.1.map Da.u1 = da z.2
theorem zip_tags {α : Type} {da : α → List Da} : ∀ {xs' : List (List Da)} {ls : List α}, xs'.map (List.map Da.u1) = ls.map da → ∃ zs : List (List Da × α), zs.map (·.1) = xs' ∧ zs.map (·.2) = ls ∧ ∀ z ∈ zs, TgP da z
  | [], [], _ => ⟨[], rfl, rfl, by simp⟩
  | [], y :: s, h => by simp at h
  | x :: r, [], h => by simp at h
  | x :: r, y :: s, h => by
    simp only [List.map_cons, List.cons.injEq] at h
    obtain ⟨zs, h1, h2, h3⟩ := zip_tags h.2
    refine ⟨(x, y) :: zs, by simp [h1], by simp [h2], fun z hz => ?_⟩
    rcases List.mem_cons.1 hz with rfl | hz
    · exact h.1
    · exact h3 z hz
theorem tags_map {α : Type} {da : α → List Da} : ∀ {zs : List (List Da × α)}, (∀ z ∈ zs, TgP da z) → (zs.map (·.1)).map (List.map Da.u1) = (zs.map (·.2)).map da
  | [], _ => rfl
  | z :: r, h => by
    simp only [List.map_cons]
    rw [tags_map fun x hx => h x (by simp [hx]), h z (by simp)]
theorem u1_bool {y : Da} {b : Bool} (h : y.u1 = .bool b) : y = .bool b := by cases y <;> simp [Da.u1] at h ⊢; exact h
theorem u1_int {y : Da} {k : IntKind} {n : Int} (h : y.u1 = .int k n) : y = .int k n := by cases y <;> simp [Da.u1] at h ⊢; exact h
theorem u1_str {y : Da} {b : ByteArray} (h : y.u1 = .str b) : y = .str b := by cases y <;> simp [Da.u1] at h ⊢; exact h
theorem u1_ut (y : Da) : y.u1.ut = y.ut := by cases y <;> simp [Da.u1, Da.ut]
theorem utL_u1 (r : List Da) : Da.utL (r.map Da.u1) = Da.utL r := by
  rw [utL_map, utL_map, List.map_map]
  exact List.map_congr_left fun y _ => u1_ut y
mutual
theorem Tm.ut_da : ∀ t : Tm, Da.utL t.da = t.da
  | .mk f v ks => by
    have h := Tm.ut_das ks
    simp [Tm.da, Da.utL, Da.ut, h]
theorem Tm.ut_das : ∀ l : List Tm, Da.utR (Tm.das l) = Tm.das l
  | [] => rfl
  | t :: r => by
    have h1 := Tm.ut_da t
    have h2 := Tm.ut_das r
    simp [Tm.das, Da.utR, h1, h2]
end
theorem utL_app (a b : List Da) : Da.utL (a ++ b) = Da.utL a ++ Da.utL b := by simp [utL_map]
theorem Li.ut_da (x : Li) : Da.utL x.da = x.da := by
  obtain ⟨p, l, r⟩ := x
  show Da.utL (.bool p :: (l.da ++ r.da)) = _
  rw [Da.utL, utL_app, l.ut_da, r.ut_da]; rfl
theorem utR_da {α : Type} {da : α → List Da} (h : ∀ x, Da.utL (da x) = da x) (l : List α) : Da.utR (l.map da) = l.map da := by
  rw [utR_map, List.map_map]
  exact List.map_congr_left fun x _ => by rw [Function.comp_apply, ← utL_map]; exact h x
theorem TgP.ut {α : Type} {da : α → List Da} (hd : ∀ x, Da.utL (da x) = da x) {z : List Da × α} (h : TgP da z) : Da.utL z.1 = da z.2 := by
  rw [← utL_u1, h, hd]
theorem tags_utR {α : Type} {da : α → List Da} (hd : ∀ x, Da.utL (da x) = da x) : ∀ {zs : List (List Da × α)}, (∀ z ∈ zs, TgP da z) → Da.utR (zs.map (·.1)) = (zs.map (·.2)).map da
  | [], _ => rfl
  | z :: r, h => by
    simp only [List.map_cons, Da.utR]
    rw [tags_utR hd fun x hx => h x (by simp [hx]), (h z (by simp)).ut hd]
theorem TgP.lit {z : List Da × Li} (h : TgP Li.da z) : ∃ b n1 n2 d n3 n4 d1, z.1 = [.bool b, .int .i64 n1, .int .i64 n2, d, .int .i64 n3, .int .i64 n4, d1] := by
  obtain ⟨row, ⟨p, ⟨f, v, ks⟩, ⟨g, u, ms⟩⟩⟩ := z
  have h : row.map Da.u1 = [.bool p, .int .i64 f, .int .i64 v, .sl (Tm.das ks), .int .i64 g, .int .i64 u, .sl (Tm.das ms)] := h
  obtain ⟨y1, r1, rfl, h1, h⟩ := List.map_eq_cons_iff.1 h
  obtain ⟨y2, r2, rfl, h2, h⟩ := List.map_eq_cons_iff.1 h
  obtain ⟨y3, r3, rfl, h3, h⟩ := List.map_eq_cons_iff.1 h
  obtain ⟨y4, r4, rfl, h4, h⟩ := List.map_eq_cons_iff.1 h
  obtain ⟨y5, r5, rfl, h5, h⟩ := List.map_eq_cons_iff.1 h
  obtain ⟨y6, r6, rfl, h6, h⟩ := List.map_eq_cons_iff.1 h
  obtain ⟨y7, r7, rfl, h7, h⟩ := List.map_eq_cons_iff.1 h
  rw [List.map_eq_nil_iff.1 h]
  exact ⟨p, f, v, y4, g, u, y7, by rw [u1_bool h1, u1_int h2, u1_int h3, u1_int h5, u1_int h6]⟩
theorem TgP.term {z : List Da × Tm} (h : TgP Tm.da z) : ∃ n1 n2 d, z.1 = [.int .i64 n1, .int .i64 n2, d] := by
  obtain ⟨row, ⟨f, v, ks⟩⟩ := z
  have h : row.map Da.u1 = [.int .i64 f, .int .i64 v, .sl (Tm.das ks)] := h
  obtain ⟨y1, r1, rfl, h1, h⟩ := List.map_eq_cons_iff.1 h
  obtain ⟨y2, r2, rfl, h2, h⟩ := List.map_eq_cons_iff.1 h
  obtain ⟨y3, r3, rfl, h3, h⟩ := List.map_eq_cons_iff.1 h
  rw [List.map_eq_nil_iff.1 h]
  exact ⟨f, v, y3, by rw [u1_int h1, u1_int h2]⟩
/-- The first place where something holds. -/
def idxG {α : Type} (p : α → Bool) : List α → Nat → Int
  | [], _ => -1
  | x :: r, i => if p x then (i : Int) else idxG p r (i + 1)
theorem idxG_spec {α : Type} (p : α → Bool) : ∀ (l : List α) (i : Nat), (idxG p l i = -1 ∧ ∀ x ∈ l, p x = false) ∨ ∃ P x R, l = P ++ x :: R ∧ (∀ y ∈ P, p y = false) ∧ p x = true ∧ idxG p l i = ((i + P.length : Nat) : Int)
  | [], i => .inl ⟨rfl, by simp⟩
  | x :: r, i => by
    unfold idxG
    by_cases h : p x = true
    · rw [if_pos h]
      exact .inr ⟨[], x, r, rfl, by simp, h, by simp⟩
    · rw [if_neg h]
      have h' : p x = false := by simpa using h
      rcases idxG_spec p r (i + 1) with ⟨h1, h2⟩ | ⟨P, y, R, rfl, h2, h3, h4⟩
      · refine .inl ⟨h1, fun y hy => ?_⟩
        rcases List.mem_cons.1 hy with rfl | hy
        · exact h'
        · exact h2 y hy
      · refine .inr ⟨x :: P, y, R, rfl, fun z hz => ?_, h3, by rw [h4]; simp; omega⟩
        rcases List.mem_cons.1 hz with rfl | hz
        · exact h'
        · exact h2 z hz
theorem filter_perm {α : Type} (p : α → Bool) : ∀ l : List α, (l.filter p ++ l.filter (fun x => !p x)).Perm l
  | [] => .refl _
  | x :: r => by
    by_cases h : p x = true
    · simp only [List.filter_cons, h, if_true, Bool.not_true, Bool.false_eq_true, if_false, List.cons_append]
      exact (filter_perm p r).cons x
    · have h' : p x = false := by simpa using h
      simp only [List.filter_cons, h', Bool.false_eq_true, if_false, Bool.not_false, if_true]
      exact List.perm_middle.trans ((filter_perm p r).cons x)
def delL (x : Li) : Bool := !x.p && decide (Tm.cmp x.l x.r = 0)
theorem less1_call (x : Li) : XC Try.prog 94 [.dat x.da] [] (B (delL x)) [] := by
  have h := implTermSame_call x.l x.r
  obtain ⟨p, ⟨f, v, ks⟩, ⟨g, u, ms⟩⟩ := x
  apply impl_Less_1_of
  cases p
  · exact ifB_t rfl ⟨_, h, by simp [delL], rfl⟩
  · exact ifB_f rfl ⟨by simp [delL], rfl⟩
theorem idxLess_loop (l : List Li) (hl : l.length ≤ 100000000) : ∀ (q p : List Li), l = p ++ q → slices_IndexFunc_Lit_impl_Less_1_L2 (Z (idxG delL q p.length)) [] (l.map Li.da) (l.length : Int) (p.length : Int)
  | [], p, e => by
    apply slices_IndexFunc_Lit_impl_Less_1_L2_of
    subst e
    exact ifB_f (lt_decF (by simp)) ⟨rfl, rfl⟩
  | x :: q, p, e => by
    have ih := idxLess_loop l hl q (p ++ [x]) (by simp [e])
    have c := less1_call x
    subst e
    rw [len_app1] at ih
    have hx : ((p ++ x :: q).map Li.da)[p.length]? = some x.da := map_app_get
    have e1 : idxG delL (x :: q) p.length = if delL x then (p.length : Int) else idxG delL q (p.length + 1) := rfl
    rw [e1]
    generalize delL x = b at *
    obtain ⟨pp, ⟨f, v, ks⟩, ⟨g, u, ms⟩⟩ := x
    apply slices_IndexFunc_Lit_impl_Less_1_L2_of
    refine ifB_t (lt_dec (by simp)) ⟨p.length, rfl, _, _, _, _, _, _, _, hx, _, c, ?_⟩
    cases b
    · refine ifB_f rfl ?_
      rw [wr1 (n := p.length + 1) (by omega) (by simp at hl; omega)]
      exact ih
    · exact ifB_t rfl ⟨rfl, rfl⟩
theorem idxLess_call (l : List Li) (hl : l.length ≤ 100000000) : XC Try.prog 154 [L (l.map Li.da), .one (.d (.fn 94))] [] (Z (idxG delL l 0)) [] := by
  apply slices_IndexFunc_Lit_impl_Less_1_of
  rw [List.length_map]
  exact idxLess_loop l hl l [] rfl
theorem delLess_loop : ∀ (R F G : List (List Da × Li)), (∀ z ∈ F ++ G ++ R, TgP Li.da z) → G ≠ [] → (F ++ G ++ R).length ≤ 100000000 → slices_DeleteFunc_Lit_impl_Less_1_L5 (.one (.ol 0)) [(0, .lst 61 7 ((F ++ R.filter (fun z => !delL z.2)).map (·.1)))] (F.length : Int) ((F ++ G).length : Int) ((F ++ G ++ R).map (·.1))
  | [], F, G, ht, hG, hl => by
    apply slices_DeleteFunc_Lit_impl_Less_1_L5_of
    refine ifB_f (decide_eq_false (by simp)) ⟨F.length, rfl, ⟨by simp, Nat.le_refl _⟩, ⟨by simp⟩, F.length, rfl, ⟨by omega, by simp⟩, ⟨by simp⟩, rfl, ?_⟩
    simp [List.take_append, take_map_len]
  | x :: R, F, G, ht, hG, hl => by
    have hlen : (F ++ G ++ x :: R).length = F.length + G.length + R.length + 1 := by simp; omega
    have hx := ht x (by simp)
    obtain ⟨b, n1, n2, d, n3, n4, d1, ex⟩ := hx.lit
    have c : XC Try.prog 94 [.dat x.1] [] (B (delL x.2)) [] := XC.ut (by
      show XC _ _ [.dat (Da.utL x.1)] _ _ _
      rw [hx.ut Li.ut_da]; exact less1_call x.2)
    have hget : ((F ++ G ++ x :: R).map (·.1))[(F ++ G).length]? = some x.1 := by
      have := map_app_get (g := fun z : List Da × Li => z.1) (p := F ++ G) (x := x) (q := R)
      exact this
    have w2 : IntKind.wrap .i64 (((F ++ G).length : Int) + 1) = (((F ++ G).length + 1 : Nat) : Int) := by
      rw [wrI (by omega) (by simp at hl ⊢; omega)]; simp
    rw [ex] at c hget
    apply slices_DeleteFunc_Lit_impl_Less_1_L5_of
    refine ifB_t (lt_dec (by simp)) ⟨(F ++ G).length, rfl, ⟨by simp⟩, (F ++ G).length, rfl, _, _, _, _, _, _, _, hget, _, c, ?_⟩
    rw [w2]
    by_cases hd : delL x.2 = true
    · refine ifB_f (by simp [hd]) ?_
      have ih := delLess_loop R F (G ++ [x]) (by simpa using ht) (by simp) (by simp at hl ⊢; omega)
      have e1 : F ++ (G ++ [x]) ++ R = F ++ G ++ x :: R := by simp
      have e2 : (F ++ (G ++ [x])).length = (F ++ G).length + 1 := by simp; omega
      rw [e1, e2] at ih
      rw [List.filter_cons, if_neg (by simp [hd])]
      exact ih
    · refine ifB_t (by simpa using hd) ?_
      obtain ⟨g, G', rfl⟩ : ∃ g G', G = g :: G' := by
        cases G with
        | nil => exact absurd rfl hG
        | cons g G' => exact ⟨g, G', rfl⟩
      obtain ⟨b2, m1, m2, d2, m3, m4, d3, eg⟩ := (ht g (by simp)).lit
      have hget2 : ((F ++ g :: G' ++ x :: R).map (·.1))[F.length]? = some g.1 := by
        rw [List.append_assoc, List.cons_append]
        exact map_app_get
      rw [eg] at hget2
      have w1 : IntKind.wrap .i64 ((F.length : Int) + 1) = ((F.length + 1 : Nat) : Int) := by
        rw [wrI (by omega) (by simp at hl; omega)]; simp
      refine ⟨F.length, rfl, ⟨by simp⟩, F.length, rfl, _, _, _, _, _, _, _, hget2, ?_⟩
      rw [w1]
      have ih := delLess_loop R (F ++ [x]) (G' ++ [x]) (fun z hz => ht z (by simp at hz ⊢; rcases hz with h | h | h | h | h <;> simp [h])) (by simp) (by simp at hl ⊢; omega)
      have e1 : ((F ++ g :: G' ++ x :: R).map (·.1)).set F.length x.1 = (F ++ [x] ++ (G' ++ [x]) ++ R).map (·.1) := by simp [List.set_append]
      have e2 : (F ++ [x] ++ (G' ++ [x])).length = (F ++ g :: G').length + 1 := by simp; omega
      have e3 : (F ++ [x]).length = F.length + 1 := by simp
      have e4 : F ++ (x :: R).filter (fun z => !delL z.2) = F ++ [x] ++ R.filter (fun z => !delL z.2) := by rw [List.filter_cons, if_pos (by simpa using hd)]; simp
      rw [e2, e3, ← e1, ex] at ih
      rw [e4]
      exact ih
theorem delLess_tags (zs : List (List Da × Li)) (ht : ∀ z ∈ zs, TgP Li.da z) (hl : zs.length ≤ 100000000) : XC Try.prog 93 [.one (.ol 2000), .one (.d (.fn 94))] [(2000, .lst 61 7 (zs.map (·.1)))] (.one (.ol 0)) [(0, .lst 61 7 ((zs.filter (fun z => !delL z.2)).map (·.1)))] := by
  have hi : XC Try.prog 154 [L (zs.map (·.1)), .one (.d (.fn 94))] [] (Z (idxG delL (zs.map (·.2)) 0)) [] := XC.ut (by
    show XC _ _ [L (Da.utR (zs.map (·.1))), .one (.d (.fn _))] _ _ _
    rw [tags_utR Li.ut_da ht]
    exact idxLess_call _ (by simpa using hl))
  apply slices_DeleteFunc_Lit_impl_Less_1_of
  refine ⟨_, hi, ?_⟩
  rcases idxG_spec delL (zs.map (·.2)) 0 with ⟨h1, h2⟩ | ⟨P, x, R, h1, h2, h3, h4⟩
  · refine ifB_t (by simp [h1]) ⟨rfl, ?_⟩
    have : zs.filter (fun z => !delL z.2) = zs := List.filter_eq_self.2 fun z hz => by simp [h2 z.2 (List.mem_map.2 ⟨z, hz, rfl⟩)]
    rw [this]
  · rw [h4]
    refine ifB_f (decide_eq_false (by omega)) ?_
    obtain ⟨zP, zR', rfl, e1, e2⟩ := List.map_eq_append_iff.1 h1
    obtain ⟨z, zR, rfl, e3, e4⟩ := List.map_eq_cons_iff.1 e2
    have hP : P.length = zP.length := by rw [← e1]; simp
    have hfP : zP.filter (fun z => !delL z.2) = zP := List.filter_eq_self.2 fun y hy => by simp [h2 y.2 (by rw [← e1]; exact List.mem_map.2 ⟨y, hy, rfl⟩)]
    have ef : (zP ++ z :: zR).filter (fun z => !delL z.2) = zP ++ zR.filter (fun z => !delL z.2) := by
      rw [List.filter_append, hfP, List.filter_cons, if_neg (by rw [e3]; simp [h3])]
    rw [ef]
    have := delLess_loop zR zP [z] (by simpa using ht) (by simp) (by simpa using hl)
    have w1 : IntKind.wrap .i64 (((0 + P.length : Nat) : Int) + 1) = (((zP ++ [z]).length : Nat) : Int) := by
      rw [wrI (by omega) (by simp at hl; omega)]; simp [hP]
    rw [w1]
    rw [Nat.zero_add, hP]
    have e5 : zP ++ [z] ++ zR = zP ++ z :: zR := by simp
    rw [e5] at this
    exact this
theorem delLess_call (ls : List Li) (hl : ls.length ≤ 100000000) : XC Try.prog 93 [.one (.ol 2000), .one (.d (.fn 94))] [(2000, .tr 61 7 (ls.map Li.da))] (.one (.ol 0)) [(0, .tr 61 7 ((ls.filter (fun x => !delL x)).map Li.da))] := by
  refine xc_taken fun xs' hx => ?_
  obtain ⟨zs, rfl, rfl, ht⟩ := zip_tags hx
  refine ⟨(zs.filter (fun z => !delL z.2)).map (·.1), ⟨(zs.filter (fun z => !!delL z.2)).map (·.1), ?_⟩, ?_, delLess_tags zs ht (by simpa using hl)⟩
  · rw [← List.map_append]
    exact (filter_perm _ zs).map _
  · rw [tags_map fun z hz => ht z ((List.mem_filter.1 hz).1), List.filter_map]
    rfl
theorem copyLit_call (x : Li) (hc : x.cn ≤ 1048576) : XC Try.prog 153 [.dat x.da] [] (.agg [.d (.bool x.p), .d (.int .i64 x.l.f), .d (.int .i64 x.l.v), .ol 0, .d (.int .i64 x.r.f), .d (.int .i64 x.r.v), .ol 1]) [(0, .tr 30 3 (Tm.das x.l.ks)), (1, .tr 30 3 (Tm.das x.r.ks))] := by
  have h0 : x.cn = x.l.cn + x.r.cn := rfl
  have h1 := copyTerm_call x.l (by omega)
  have h2 := copyTerm_call x.r (by omega)
  obtain ⟨p, ⟨f, v, ks⟩, ⟨g, u, ms⟩⟩ := x
  apply impl_copyLit_of
  exact ⟨_, _, _, h1, _, _, _, h2, rfl, rfl⟩
theorem copyClause_loop (ls : List Li) (hc : cnL Li.cn ls ≤ 1048576) : ∀ (q p : List Li), ls = p ++ q → impl_copyClause_L3 (.agg [.ol 0]) [(0, .tr 61 7 (ls.map Li.da))] (ls.map Li.da) (ls.length : Int) (p.length : Int) (p.map Li.da)
  | [], p, e => by
    apply impl_copyClause_L3_of
    subst e
    exact ifB_f (lt_decF (by simp)) ⟨rfl, by simp⟩
  | x :: q, p, e => by
    have ih := copyClause_loop ls hc q (p ++ [x]) (by simp [e])
    have hm := cnL_mem (cn := Li.cn) (l := ls) (x := x) (by simp [e])
    have hl := cnL_len Li.cn ls
    have c := copyLit_call x (by omega)
    have hx : (ls.map Li.da)[p.length]? = some x.da := by rw [e]; exact map_app_get
    have hlt : p.length < ls.length := by rw [e]; simp
    rw [len_app1, List.map_append (l₁ := p)] at ih
    have hw : IntKind.wrap .i64 ((p.length : Int) + 1) = ((p.length + 1 : Nat) : Int) := wr1 hlt (by omega)
    have hb : ((p.map Li.da).length + 1) * 88 ≤ 140737488355328 := by rw [List.length_map]; omega
    obtain ⟨pp, ⟨f, v, ks⟩, ⟨g, u, ms⟩⟩ := x
    apply impl_copyClause_L3_of
    rw [hw]
    exact ifB_t (decide_eq_true (by omega)) ⟨p.length, rfl, _, _, _, _, _, _, _, hx, _, _, _, _, _, _, _, c, ⟨hb⟩, ih⟩
theorem copyClause_call (c : Cl) (hc : c.cn ≤ 1048576) : XC Try.prog 92 [.dat c.da] [] (.agg [.ol 0]) [(0, .tr 61 7 (c.ls.map Li.da))] := by
  obtain ⟨ls⟩ := c
  apply impl_copyClause_of
  rw [List.length_map]
  exact copyClause_loop ls hc ls [] rfl
theorem l10Copy_call (x : Li) (hc : x.cn ≤ 1048576) : XC Try.prog 90 [.dat x.da] [] (.dat x.da) [] := by
  have h0 : x.cn = x.l.cn + x.r.cn := rfl
  have h1 := l3Copy_call x.l (by omega)
  have h2 := l3Copy_call x.r (by omega)
  obtain ⟨p, ⟨f, v, ks⟩, ⟨g, u, ms⟩⟩ := x
  apply spec_l10Copy_of
  exact ⟨_, _, _, h1, _, _, _, h2, rfl, rfl⟩
theorem specLess_loop (ls : List Li) (hc : cnL Li.cn ls ≤ 1048576) : ∀ (q p out : List Li), ls = p ++ q → out.length ≤ p.length → spec_Less_L3 (.dat [.sl ((out ++ q.filter (fun x => !delL x)).map Li.da)]) [] (p.length : Int) (ls.map Li.da) (out.map Li.da)
  | [], p, out, e, _ => by
    apply spec_Less_L3_of
    subst e
    exact ifB_f (lt_decF (by simp)) ⟨by simp, rfl⟩
  | x :: q, p, out, e, ho => by
    have hm := cnL_mem (cn := Li.cn) (l := ls) (x := x) (by simp [e])
    have hl := cnL_len Li.cn ls
    have hp : p.length ≤ ls.length := by rw [e]; simp
    have ih1 := specLess_loop ls hc q (p ++ [x]) (out ++ [x]) (by simp [e]) (by simp; omega)
    have ih2 := specLess_loop ls hc q (p ++ [x]) out (by simp [e]) (by simp; omega)
    have c := l10Copy_call x (by omega)
    have t := termSame_call x.l x.r
    have hx : (ls.map Li.da)[p.length]? = some x.da := by rw [e]; exact map_app_get
    have hlt : p.length < ls.length := by rw [e]; simp
    rw [len_app1, List.map_append (l₁ := out)] at ih1
    rw [len_app1] at ih2
    have hw : IntKind.wrap .i64 ((p.length : Int) + 1) = ((p.length + 1 : Nat) : Int) := wr1 hlt (by omega)
    have ek : x.p = true ∨ Tm.cmp x.l x.r ≠ 0 → out ++ (x :: q).filter (fun x => !delL x) = out ++ [x] ++ q.filter (fun x => !delL x) := fun h => by
      rw [List.filter_cons, if_pos (by unfold delL; rcases h with h | h <;> simp [h])]; simp
    have ed : x.p = false → Tm.cmp x.l x.r = 0 → out ++ (x :: q).filter (fun x => !delL x) = out ++ q.filter (fun x => !delL x) := fun h h2 => by
      rw [List.filter_cons, if_neg (by unfold delL; simp [h, h2])]
    obtain ⟨pp, ⟨f, v, ks⟩, ⟨g, u, ms⟩⟩ := x
    apply spec_Less_L3_of
    rw [hw]
    refine ifB_t (decide_eq_true (by simp; omega)) ⟨p.length, rfl, _, _, _, _, _, _, _, hx, ?_⟩
    cases pp with
    | true =>
      rw [ek (.inl rfl)]
      exact ifB_t rfl ⟨_, _, _, _, _, _, _, c, ⟨by simp; omega⟩, ih1⟩
    | false =>
      refine ifB_f rfl ⟨_, t, ?_⟩
      by_cases h : Tm.cmp (.mk f v ks) (.mk g u ms) = 0
      · rw [ed rfl h]
        exact ifB_f (by simp [h]) ih2
      · rw [ek (.inr h)]
        exact ifB_t (by simp [h]) ⟨_, _, _, _, _, _, _, c, ⟨by simp; omega⟩, ih1⟩
theorem specLess_call (ss : List Sy) (c : Cl) (hc : c.cn ≤ 1048576) : XC Try.prog 26 [L (ss.map Sy.da), .dat c.da] [] (.dat (Cl.mk (c.ls.filter (fun x => !delL x))).da) [] := by
  obtain ⟨ls⟩ := c
  apply spec_Less_of
  exact specLess_loop ls hc ls [] [] rfl (Nat.zero_le _)
theorem implLess_call (ss : List Sy) (c : Cl) (hc : c.cn ≤ 1048576) : XC Try.prog 29 [L (ss.map Sy.da), .dat c.da] [] (.agg [.ol 0]) [(0, .tr 61 7 ((c.ls.filter (fun x => !delL x)).map Li.da))] := by
  have h1 := copyClause_call c hc
  have h2 := delLess_call c.ls (by have := cnL_len Li.cn c.ls; have h2 : c.cn = cnL Li.cn c.ls := rfl; omega)
  obtain ⟨ls⟩ := c
  apply impl_Less_of
  exact ⟨_, h1, _, h2, rfl, rfl⟩
theorem filter_cnL (p : Li → Bool) : ∀ l : List Li, cnL Li.cn (l.filter p) ≤ cnL Li.cn l
  | [] => by simp
  | x :: r => by
    have h := filter_cnL p r
    have e : cnL Li.cn (x :: r) = 1 + x.cn + cnL Li.cn r := by simp [cnL]; omega
    rw [List.filter_cons]
    split
    · have e2 : cnL Li.cn (x :: r.filter p) = 1 + x.cn + cnL Li.cn (r.filter p) := by simp [cnL]; omega
      omega
    · omega
theorem mkNSy_eq : ∀ l : List Sy, mkNSy l = 3 * l.length
  | [] => by simp [mkNSy]
  | ⟨a, b, c⟩ :: r => by
    have h := mkNSy_eq r
    rw [mkNSy_cons, h, List.length_cons]
    simp only [mknSy]
    omega
theorem laws_FnExactLess_law (ss : List Sy) (kss : ∀ y ∈ ss, Sy.ok y) (c : Cl) (kc : c.ok) : XC Try.prog 4 [L (ss.map Sy.da), .dat c.da] [] (B true) [] := by
  have s0 := szSymS_call ss 1048576 (by omega) (by omega)
  rcases Int.lt_or_le (lft (cnL Sy.cn ss) 1048576) 0 with g0 | g0
  · obtain ⟨ls⟩ := c
    apply laws_FnExactLess_of
    exact ⟨_, s0, ifB_t (decide_eq_true g0) ⟨rfl, rfl⟩⟩
  have q0 := lft_ok g0
  have s1 := szClause_call c _ g0 (by omega)
  rcases Int.lt_or_le (lft c.cn (lft (cnL Sy.cn ss) 1048576)) 0 with g1 | g1
  · obtain ⟨ls⟩ := c
    apply laws_FnExactLess_of
    exact ⟨_, s0, ifB_f (decide_eq_false (Int.not_lt.2 g0)) ⟨_, s1, ifB_t (decide_eq_true g1) ⟨rfl, rfl⟩⟩⟩
  have q1 := lft_ok g1
  have hc : c.cn ≤ 1048576 := by omega
  have hcl : c.cn = cnL Li.cn c.ls := rfl
  have hlen := cnL_len Li.cn c.ls
  have hsl := cnL_len Sy.cn ss
  have hmk := mkN_le c.ls
  have hmr := mkN_le (c.ls.filter (fun x => !delL x))
  have hfl := filter_cnL (fun x => !delL x) c.ls
  have hrl := cnL_len Li.cn (c.ls.filter (fun x => !delL x))
  have hsy := mkNSy_eq ss
  have t0 := toSymSO_call ss (by omega)
  have t1 := toClauseO_call c hc
  have c1 := specLess_call ss c hc
  have c2 := implLess_call ss c hc
  have e0 := eqSymS_call ss
  have e1 := eqClause_call c
  have m0 := markSymS_call ss 1 (by omega) (by omega) (by omega)
  have m1 := markClause_call c (1 + mkNSy ss) (by omega) (by omega)
  generalize c.ls.filter (fun x => !delL x) = ds at *
  have eu := eqClause_call ⟨ds⟩
  have mu := markClause_call ⟨ds⟩ 1 (by dsimp only; omega) (by dsimp only; omega)
  have hd := heldClause_call ⟨ds⟩ 1 (by dsimp only; omega) (by dsimp only; omega)
  dsimp only at mu hd
  obtain ⟨ls⟩ := c
  apply laws_FnExactLess_of
  exact ⟨_, s0, ifB_f (decide_eq_false (Int.not_lt.2 g0)) ⟨_, s1, ifB_f (decide_eq_false (Int.not_lt.2 g1)) ⟨_, t0, _, t1, _, c1, _, t0, _, t1, _, c2, _, eu, ifB_f rfl ⟨_, t0, _, e0, ifB_f rfl ⟨_, t1, _, e1, ifB_f rfl ⟨_, _, m0, _, _, m1, ifB_f (decide_eq_false (by omega)) ⟨_, eu, ifB_f rfl ⟨_, _, mu, _, hd, ifB_f (decide_eq_false (by omega)) (ifB_f (by simp) ⟨_, t0, _, t1, _, c2, _, eu, ifB_f rfl ⟨_, hd, ifB_f (decide_eq_false (by omega)) (ifB_f (by simp) ⟨rfl, rfl⟩)⟩⟩)⟩⟩⟩⟩⟩⟩⟩⟩

end AM
end Go.Proofs.Ytflfopedammhoaa
