/- Contracts of functions of the program, out of what their texts ask; no conditions. -/
import Derived.Test.YtbgpofimflnabaaHu3
import Derived.Test.YtbgpofimflnabaaDt
set_option linter.unusedVariables false
set_option linter.unusedSimpArgs false
set_option maxRecDepth 100000
namespace Go.Proofs.Ytbgpofimflnabaa
namespace AM
open Go

/-- A term as it must be, of any size. -/
inductive TOk (ss : List Sy) : Tm → Prop
  | var {v : Int} : 0 ≤ v → v ≤ 99 → TOk ss (.mk (-1) v [])
  | app {f : Nat} {x : Sy} {ks : List Tm} : ss[f]? = some x → (x.ac = false → (ks.length : Int) = x.ar) → (x.ac = true → 2 ≤ ks.length) → (∀ (i : Nat) k, ks[i]? = some k → TOk ss k) →
      (x.ac = true → ∀ (i : Nat) k, ks[i]? = some k → k.f ≠ (f : Int) ∧ ∀ k', 0 < i → ks[i - 1]? = some k' → ¬ Tm.cmp k k' < 0) → TOk ss (.mk f 0 ks)
theorem TOk.var_iff {ss : List Sy} {v : Int} {ks : List Tm} : TOk ss (.mk (-1) v ks) ↔ (0 ≤ v ∧ v ≤ 99) ∧ ks = [] := by
  constructor
  · intro h
    generalize hf : (-1 : Int) = f at h
    cases h with
    | var h1 h2 => exact ⟨⟨h1, h2⟩, rfl⟩
    | app => omega
  · rintro ⟨⟨h1, h2⟩, rfl⟩; exact .var h1 h2
/-- A kid that is right. -/
def KOk (ss : List Sy) (f : Int) (x : Sy) (ks : List Tm) (i : Nat) (k : Tm) : Prop := TOk ss k ∧ (x.ac = true → k.f ≠ f ∧ ∀ k', 0 < i → ks[i - 1]? = some k' → ¬ Tm.cmp k k' < 0)
theorem TOk.app_iff {ss : List Sy} {f v : Int} {ks : List Tm} (hf : f ≠ -1) : TOk ss (.mk f v ks) ↔ ∃ (n : Nat) (x : Sy), f = (n : Int) ∧ ss[n]? = some x ∧ v = 0 ∧ (x.ac = false → (ks.length : Int) = x.ar) ∧ (x.ac = true → 2 ≤ ks.length) ∧ ∀ (i : Nat) k, ks[i]? = some k → KOk ss f x ks i k := by
  constructor
  · intro h
    cases h with
    | var => exact absurd rfl hf
    | app h1 h2 h3 h4 h5 => exact ⟨_, _, rfl, h1, rfl, h2, h3, fun i k hk => ⟨h4 i k hk, fun hac => h5 hac i k hk⟩⟩
  · rintro ⟨n, x, rfl, h1, rfl, h2, h3, h4⟩
    exact .app h1 h2 h3 (fun i k hk => (h4 i k hk).1) fun hac i k hk => (h4 i k hk).2 hac
theorem l4Right_call (ss : List Sy) (t : Tm) : XC Try.prog 120 [L (ss.map Sy.da), .dat t.da] [] (B (dB (TOk ss t))) [] := by
  induction t using Tm.ind with
  | h f v ks ih =>
  refine xc_fit fun hfit => ?_
  have hls : ss.length ≤ 281474976710656 := by have := hfit.one.len; simpa using this
  have hlen : ks.length ≤ 281474976710656 := by have := hfit.tail.dat.tail.tail.len; rwa [das_len] at this
  apply spec_l4Right_of
  rw [das_len, List.length_map, wrI (by omega) (by omega)]
  refine ifB_d (fun h => ?_) fun hf => ?_
  · subst h
    refine ⟨_, l1In_call _ _ _, ifB_of (fun h => dB_e ?_) fun h => dB_f ?_⟩
    · rw [inR_t] at h
      rw [TOk.var_iff, decide_eq_true_eq]
      exact ⟨fun hk => ⟨h, List.length_eq_zero_iff.1 (by omega)⟩, fun hk => by rw [hk.2]; rfl⟩
    · rw [Bool.eq_false_iff, Ne, inR_t] at h
      rw [TOk.var_iff]
      exact fun hk => h hk.1
  · refine ⟨_, l1In_call _ _ _, ifB_of (fun h => dB_f ?_) fun h => ?_⟩
    · have h := not_t h
      rw [Bool.eq_false_iff, Ne, inR_t] at h
      rw [TOk.app_iff hf]
      rintro ⟨n, x, rfl, hx, _⟩
      have := (List.getElem?_eq_some_iff.1 hx).1
      omega
    · have h := not_f h
      rw [inR_t] at h
      obtain ⟨n, rfl⟩ := Int.eq_ofNat_of_zero_le h.1
      obtain ⟨x, hx⟩ := get_ex (l := ss) (i := n) (by omega)
      have hx1 := get_map (g := Sy.da) hx
      have inv : TOk ss (.mk n v ks) ↔ v = 0 ∧ (x.ac = false → (ks.length : Int) = x.ar) ∧ (x.ac = true → 2 ≤ ks.length) ∧ ∀ (i : Nat) k, ks[i]? = some k → KOk ss n x ks i k := by
        rw [TOk.app_iff hf]
        constructor
        · rintro ⟨m, y, e, hy, h1⟩
          have e : n = m := by omega
          subst e
          rw [hx] at hy; cases hy; exact h1
        · intro h1; exact ⟨n, x, rfl, hx, h1⟩
      have loop : v = 0 → (x.ac = false → (ks.length : Int) = x.ar) → (x.ac = true → 2 ≤ ks.length) → spec_l4Right_L6 (B (dB (TOk ss (.mk n v ks)))) [] (ss.map Sy.da) 0 (n : Int) v (Tm.das ks) := by
        intro g1 g2 g3
        have key := loopUp (p := fun i => (∀ (j : Nat) k, j < i → ks[j]? = some k → KOk ss n x ks j k) → spec_l4Right_L6 (B (dB (TOk ss (.mk n v ks)))) [] (ss.map Sy.da) (i : Int) (n : Int) v (Tm.das ks)) ks.length ?_ (fun i hi ihl => ?_) 0 (Nat.zero_le _)
        · exact key fun j k hj => by omega
        · intro hall
          apply spec_l4Right_L6_of
          exact ifB_f (lt_decF (by rw [das_len]; exact Nat.le_refl _)) (dB_t (inv.2 ⟨g1, g2, g3, fun i k hk => hall i k (List.getElem?_eq_some_iff.1 hk).1 hk⟩))
        · intro hall
          obtain ⟨y, hy⟩ := get_ex hi
          have hy1 := get_das hy
          have hyc := ih y (List.mem_of_getElem? hy)
          have hpr : 0 < i → ∃ z, ks[i - 1]? = some z := fun h => get_ex (by omega)
          have bad : ¬ KOk ss n x ks i y → B false = B (dB (TOk ss (.mk n v ks))) ∧ ([] : List (Nat × Ob)) = [] := fun h => dB_f fun hn => h ((inv.1 hn).2.2.2 i y hy)
          have good : KOk ss n x ks i y → spec_l4Right_L6 (B (dB (TOk ss (.mk n v ks)))) [] (ss.map Sy.da) (IntKind.wrap .i64 ((i : Int) + 1)) (n : Int) v (Tm.das ks) := fun h => by
            rw [wr1 hi hlen]
            exact ihl fun j k hj hk => by
              rcases Nat.lt_succ_iff_lt_or_eq.1 hj with hj | rfl
              · exact hall j k hj hk
              · rw [hy] at hk; cases hk; exact h
          have hcm := fun z => before_call y z
          obtain ⟨f', v', ks'⟩ := y
          have last : (x.ac = true → f' ≠ (n : Int) ∧ ∀ k', 0 < i → ks[i - 1]? = some k' → ¬ Tm.cmp (.mk f' v' ks') k' < 0) → ∃ b, XC Try.prog 120 [L (ss.map Sy.da), .dat (Tm.mk f' v' ks').da] [] (B b) [] ∧ ifB (!b) (B false = B (dB (TOk ss (.mk n v ks))) ∧ ([] : List (Nat × Ob)) = []) (spec_l4Right_L6 (B (dB (TOk ss (.mk n v ks)))) [] (ss.map Sy.da) (IntKind.wrap .i64 ((i : Int) + 1)) (n : Int) v (Tm.das ks)) := by
            intro hk
            refine ⟨_, hyc, ifB_of (fun h => bad fun hh => ?_) fun h => good ?_⟩
            · exact dB_false.1 (not_t h) hh.1
            · exact ⟨dB_true.1 (not_f h), hk⟩
          apply spec_l4Right_L6_of
          refine ifB_t (lt_dec (by rwa [das_len])) ⟨n, rfl, _, _, _, hx1, ifB_of (fun hac => ⟨i, rfl, _, _, _, hy1, ifB_d (fun h1 => bad fun hh => (hh.2 hac).1 h1) fun h1 => ifB_d (fun h2 => ?_) fun h2 => ?_⟩) fun hac => ?_⟩
          · have h2 : 0 < i := by omega
            obtain ⟨z, hz⟩ := hpr h2
            have hz1 := get_das hz
            have hc := hcm z
            refine ⟨i, rfl, _, _, _, hy1, i - 1, wrM h2 (by omega), ?_⟩
            obtain ⟨f2, v2, ks2⟩ := z
            refine ⟨_, _, _, hz1, _, hc, ifB_d (fun h3 => bad fun hh => (hh.2 hac).2 _ h2 hz h3) fun h3 => ⟨i, rfl, _, _, _, hy1, last fun _ => ⟨h1, fun k' _ hk' => ?_⟩⟩⟩
            rw [hz] at hk'; cases hk'; exact h3
          · exact ⟨i, rfl, _, _, _, hy1, last fun _ => ⟨h1, fun k' h _ => by omega⟩⟩
          · exact ⟨i, rfl, _, _, _, hy1, last fun h => by rw [hac] at h; cases h⟩
      refine ifB_d (fun h1 => dB_f fun hn => h1 (inv.1 hn).1) fun h1 => ⟨n, rfl, _, _, _, hx1, ifB_of (fun h2 => ⟨n, rfl, _, _, _, hx1, ifB_d (fun h3 => dB_f fun hn => h3 ((inv.1 hn).2.1 (not_t h2))) fun h3 => ⟨n, rfl, _, _, _, hx1, ifB_f (not_t h2) ?_⟩⟩) fun h2 => ⟨n, rfl, _, _, _, hx1, ifB_t (not_f h2) (ifB_d (fun h3 => dB_f fun hn => ?_) fun h3 => ?_)⟩⟩
      · exact loop (ne_i h1) (fun _ => ne_i h3) fun h => by rw [not_t h2] at h; cases h
      · have := (inv.1 hn).2.2.1 (not_f h2); omega
      · exact loop (ne_i h1) (fun h => by rw [not_f h2] at h; cases h) fun _ => by omega
theorem isSym_call (ss : List Sy) (f : Int) : XC Try.prog 116 [L (ss.map Sy.da), Z f] [] (B (inR f 0 ((ss.length : Int) - 1))) [] := by
  refine xc_fit fun hfit => ?_
  have hls : ss.length ≤ 281474976710656 := by have := hfit.one.len; simpa using this
  apply impl_isSym_of
  rw [List.length_map, wrI (by omega) (by omega)]
  exact ⟨_, from_call _ _ _, rfl, rfl⟩
theorem formOk_call (ss : List Sy) (t : Tm) : XC Try.prog 124 [L (ss.map Sy.da), .dat t.da] [] (B (dB (TOk ss t))) [] := by
  induction t using Tm.ind with
  | h f v ks ih =>
  refine xc_fit fun hfit => ?_
  have hls : ss.length ≤ 281474976710656 := by have := hfit.one.len; simpa using this
  have hlen : ks.length ≤ 281474976710656 := by have := hfit.tail.dat.tail.tail.len; rwa [das_len] at this
  apply impl_formOk_of
  rw [das_len]
  refine ⟨_, isVar_call (.mk f v ks), ifB_d (fun h => ?_) fun hf => ?_⟩
  · have h : f = -1 := h
    subst h
    refine ⟨_, from_call _ _ _, ifB_of (fun h => dB_e ?_) fun h => dB_f ?_⟩
    · rw [inR_t] at h
      rw [TOk.var_iff, decide_eq_true_eq]
      exact ⟨fun hk => ⟨h, List.length_eq_zero_iff.1 (by omega)⟩, fun hk => by rw [hk.2]; rfl⟩
    · rw [Bool.eq_false_iff, Ne, inR_t] at h
      rw [TOk.var_iff]
      exact fun hk => h hk.1
  · have hf : f ≠ -1 := hf
    refine ⟨_, isSym_call ss f, ifB_of (fun h => dB_f ?_) fun h => ?_⟩
    · have h := not_t h
      rw [Bool.eq_false_iff, Ne, inR_t] at h
      rw [TOk.app_iff hf]
      rintro ⟨n, x, rfl, hx, _⟩
      have := (List.getElem?_eq_some_iff.1 hx).1
      omega
    · have h := not_f h
      rw [inR_t] at h
      obtain ⟨n, rfl⟩ := Int.eq_ofNat_of_zero_le h.1
      obtain ⟨x, hx⟩ := get_ex (l := ss) (i := n) (by omega)
      have hx1 := get_map (g := Sy.da) hx
      have inv : TOk ss (.mk n v ks) ↔ v = 0 ∧ (x.ac = false → (ks.length : Int) = x.ar) ∧ (x.ac = true → 2 ≤ ks.length) ∧ ∀ (i : Nat) k, ks[i]? = some k → KOk ss n x ks i k := by
        rw [TOk.app_iff hf]
        constructor
        · rintro ⟨m, y, e, hy, h1⟩
          have e : n = m := by omega
          subst e
          rw [hx] at hy; cases hy; exact h1
        · intro h1; exact ⟨n, x, rfl, hx, h1⟩
      have loop : v = 0 → (x.ac = false → (ks.length : Int) = x.ar) → (x.ac = true → 2 ≤ ks.length) → impl_formOk_L6 (B (dB (TOk ss (.mk n v ks)))) [] (ss.map Sy.da) (Tm.das ks) (ks.length : Int) 0 (n : Int) v (Tm.das ks) := by
        intro g1 g2 g3
        have key := loopUp (p := fun i => (∀ (j : Nat) k, j < i → ks[j]? = some k → KOk ss n x ks j k) → impl_formOk_L6 (B (dB (TOk ss (.mk n v ks)))) [] (ss.map Sy.da) (Tm.das ks) (ks.length : Int) (i : Int) (n : Int) v (Tm.das ks)) ks.length ?_ (fun i hi ihl => ?_) 0 (Nat.zero_le _)
        · exact key fun j k hj => by omega
        · intro hall
          apply impl_formOk_L6_of
          exact ifB_f (lt_decF (Nat.le_refl _)) (dB_t (inv.2 ⟨g1, g2, g3, fun i k hk => hall i k (List.getElem?_eq_some_iff.1 hk).1 hk⟩))
        · intro hall
          obtain ⟨y, hy⟩ := get_ex hi
          have hy1 := get_das hy
          have hyc := ih y (List.mem_of_getElem? hy)
          have hpr : 0 < i → ∃ z, ks[i - 1]? = some z := fun h => get_ex (by omega)
          have bad : ¬ KOk ss n x ks i y → B false = B (dB (TOk ss (.mk n v ks))) ∧ ([] : List (Nat × Ob)) = [] := fun h => dB_f fun hn => h ((inv.1 hn).2.2.2 i y hy)
          have good : KOk ss n x ks i y → impl_formOk_L6 (B (dB (TOk ss (.mk n v ks)))) [] (ss.map Sy.da) (Tm.das ks) (ks.length : Int) (IntKind.wrap .i64 ((i : Int) + 1)) (n : Int) v (Tm.das ks) := fun h => by
            rw [wr1 hi hlen]
            exact ihl fun j k hj hk => by
              rcases Nat.lt_succ_iff_lt_or_eq.1 hj with hj | rfl
              · exact hall j k hj hk
              · rw [hy] at hk; cases hk; exact h
          have hcm := fun z => implBefore_call y z
          obtain ⟨f', v', ks'⟩ := y
          apply impl_formOk_L6_of
          refine ifB_t (lt_dec hi) ⟨i, rfl, _, _, _, hy1, _, hyc, ifB_of (fun h => bad fun hh => dB_false.1 (not_t h) hh.1) fun h0 => ⟨n, rfl, _, _, _, hx1, ifB_of (fun hac => ifB_d (fun h1 => bad fun hh => (hh.2 hac).1 h1) fun h1 => ifB_d (fun h2 => ?_) fun h2 => good ⟨dB_true.1 (not_f h0), fun _ => ⟨h1, fun k' h _ => by omega⟩⟩) fun hac => good ⟨dB_true.1 (not_f h0), fun h => by rw [hac] at h; cases h⟩⟩⟩
          have h2 : 0 < i := by omega
          obtain ⟨z, hz⟩ := hpr h2
          have hz1 := get_das hz
          have hc := hcm z
          refine ⟨i - 1, wrM h2 (by omega), ?_⟩
          obtain ⟨f2, v2, ks2⟩ := z
          refine ⟨_, _, _, hz1, _, hc, ifB_d (fun h3 => bad fun hh => (hh.2 hac).2 _ h2 hz h3) fun h3 => good ⟨dB_true.1 (not_f h0), fun _ => ⟨h1, fun k' _ hk' => ?_⟩⟩⟩
          rw [hz] at hk'; cases hk'; exact h3
      refine ifB_d (fun h1 => dB_f fun hn => h1 (inv.1 hn).1) fun h1 => ⟨n, rfl, _, _, _, hx1, ifB_of (fun h2 => ⟨n, rfl, _, _, _, hx1, ifB_d (fun h3 => dB_f fun hn => h3 ((inv.1 hn).2.1 (not_t h2))) fun h3 => ⟨n, rfl, _, _, _, hx1, ifB_f (not_t h2) ?_⟩⟩) fun h2 => ⟨n, rfl, _, _, _, hx1, ifB_t (not_f h2) (ifB_d (fun h3 => dB_f fun hn => ?_) fun h3 => ?_)⟩⟩
      · exact loop (ne_i h1) (fun _ => ne_i h3) fun h => by rw [not_t h2] at h; cases h
      · have := (inv.1 hn).2.2.1 (not_f h2); omega
      · exact loop (ne_i h1) (fun h => by rw [not_f h2] at h; cases h) fun _ => by omega
def TmOk (ss : List Sy) (t : Tm) : Prop := sgOk ss ∧ t.cn + 1 ≤ 60 ∧ TOk ss t
def LiOk (ss : List Sy) (x : Li) : Prop := TmOk ss x.l ∧ TmOk ss x.r ∧ ¬ Tm.cmp x.l x.r < 0
def ClOk (ss : List Sy) (c : Cl) : Prop := (∀ (i : Nat) x, c.ls[i]? = some x → LiOk ss x ∧ ∀ y, 0 < i → c.ls[i - 1]? = some y → Li.cmp y x < 0) ∧ c.ls.length ≤ 8
theorem specTermOk_call (ss : List Sy) (t : Tm) (hc : t.cn ≤ 1048576) : XC Try.prog 76 [L (ss.map Sy.da), .dat t.da] [] (B (dB (TmOk ss t))) [] := by
  have h1 := specSigOk_call ss
  have h2 := specParts_call t hc
  have h3 := l4Right_call ss t
  have e : TmOk ss t = (sgOk ss ∧ t.cn + 1 ≤ 60 ∧ TOk ss t) := rfl
  rw [e]
  generalize t.cn = c at *
  obtain ⟨f, v, ks⟩ := t
  apply spec_TermOk_of
  refine ⟨_, h1, ifB_of (fun g1 => ⟨_, h2, ifB_d (fun g2 => ⟨_, h3, dB_e ?_⟩) fun g2 => dB_f fun hn => g2 (by have := hn.2.1; omega)⟩) fun g1 => dB_f fun hn => dB_false.1 g1 hn.1⟩
  rw [dB_true]
  exact ⟨fun h => ⟨dB_true.1 g1, by omega, h⟩, fun h => h.2.2⟩
theorem implTermOk_call (ss : List Sy) (t : Tm) (hc : t.cn ≤ 1048576) : XC Try.prog 78 [L (ss.map Sy.da), .dat t.da] [] (B (dB (TmOk ss t))) [] := by
  have h1 := implSigOk_call ss
  have h2 := implParts_call t hc
  have h3 := formOk_call ss t
  have e : TmOk ss t = (sgOk ss ∧ t.cn + 1 ≤ 60 ∧ TOk ss t) := rfl
  rw [e]
  generalize t.cn = c at *
  obtain ⟨f, v, ks⟩ := t
  apply impl_TermOk_of
  refine ⟨_, h1, ifB_of (fun g1 => ⟨_, h2, ifB_d (fun g2 => ⟨_, h3, dB_e ?_⟩) fun g2 => dB_f fun hn => g2 (by have := hn.2.1; omega)⟩) fun g1 => dB_f fun hn => dB_false.1 g1 hn.1⟩
  rw [dB_true]
  exact ⟨fun h => ⟨dB_true.1 g1, by omega, h⟩, fun h => h.2.2⟩
theorem specLitOk_call (ss : List Sy) (x : Li) (hc : x.cn ≤ 1048576) : XC Try.prog 23 [L (ss.map Sy.da), .dat x.da] [] (B (dB (LiOk ss x))) [] := by
  have hc : x.l.cn + x.r.cn ≤ 1048576 := hc
  have h1 := specTermOk_call ss x.l (by omega)
  have h2 := specTermOk_call ss x.r (by omega)
  have h3 := before_call x.l x.r
  obtain ⟨p, ⟨f, v, ks⟩, ⟨g, u, ls⟩⟩ := x
  apply spec_LitOk_of
  refine ⟨_, h1, ifB_of (fun g1 => ⟨_, h2, ifB_of (fun g2 => ⟨_, h3, dB_e ?_⟩) fun g2 => dB_f fun hn => dB_false.1 g2 hn.2.1⟩) fun g1 => dB_f fun hn => dB_false.1 g1 hn.1⟩
  simp only [Bool.not_eq_true', decide_eq_false_iff_not]
  exact ⟨fun h => ⟨dB_true.1 g1, dB_true.1 g2, h⟩, fun h => h.2.2⟩
theorem implLitOk_call (ss : List Sy) (x : Li) (hc : x.cn ≤ 1048576) : XC Try.prog 24 [L (ss.map Sy.da), .dat x.da] [] (B (dB (LiOk ss x))) [] := by
  have hc : x.l.cn + x.r.cn ≤ 1048576 := hc
  have h1 := implTermOk_call ss x.l (by omega)
  have h2 := implTermOk_call ss x.r (by omega)
  have h3 := implBefore_call x.l x.r
  obtain ⟨p, ⟨f, v, ks⟩, ⟨g, u, ls⟩⟩ := x
  apply impl_LitOk_of
  refine ⟨_, h1, ifB_of (fun g1 => ⟨_, h2, ifB_of (fun g2 => ⟨_, h3, dB_e ?_⟩) fun g2 => dB_f fun hn => dB_false.1 g2 hn.2.1⟩) fun g1 => dB_f fun hn => dB_false.1 g1 hn.1⟩
  simp only [Bool.not_eq_true', decide_eq_false_iff_not]
  exact ⟨fun h => ⟨dB_true.1 g1, dB_true.1 g2, h⟩, fun h => h.2.2⟩
theorem specClauseOk_call (ss : List Sy) (c : Cl) (hc : c.cn ≤ 1048576) : XC Try.prog 40 [L (ss.map Sy.da), .dat c.da] [] (B (dB (ClOk ss c))) [] := by
  have hc : cnL Li.cn c.ls ≤ 1048576 := hc
  have hlen : c.ls.length ≤ 281474976710656 := by have := cnL_len Li.cn c.ls; omega
  apply spec_ClauseOk_of
  have key := loopUp (p := fun i => (∀ (j : Nat) x, j < i → c.ls[j]? = some x → LiOk ss x ∧ ∀ y, 0 < j → c.ls[j - 1]? = some y → Li.cmp y x < 0) → spec_ClauseOk_L2 (B (dB (ClOk ss c))) [] (ss.map Sy.da) (i : Int) (c.ls.map Li.da)) c.ls.length ?_ (fun i hi ihl => ?_) 0 (Nat.zero_le _)
  · exact key fun j x hj => by omega
  · intro hall
    apply spec_ClauseOk_L2_of
    rw [List.length_map]
    refine ifB_f (lt_decF (Nat.le_refl _)) (dB_e ?_)
    rw [decide_eq_true_eq]
    exact ⟨fun h => ⟨fun i x hx => hall i x (List.getElem?_eq_some_iff.1 hx).1 hx, by omega⟩, fun h => by have := h.2; omega⟩
  · intro hall
    obtain ⟨x, hx⟩ := get_ex hi
    have hx1 := get_map (g := Li.da) hx
    have hm := cnL_mem (cn := Li.cn) (List.mem_of_getElem? hx)
    have hxc := specLitOk_call ss x (by omega)
    have bad : ¬ (LiOk ss x ∧ ∀ y, 0 < i → c.ls[i - 1]? = some y → Li.cmp y x < 0) → B false = B (dB (ClOk ss c)) ∧ ([] : List (Nat × Ob)) = [] := fun h => dB_f fun hn => h (hn.1 i x hx)
    have good : (LiOk ss x ∧ ∀ y, 0 < i → c.ls[i - 1]? = some y → Li.cmp y x < 0) → spec_ClauseOk_L2 (B (dB (ClOk ss c))) [] (ss.map Sy.da) (IntKind.wrap .i64 ((i : Int) + 1)) (c.ls.map Li.da) := fun h => by
      rw [wr1 hi hlen]
      exact ihl fun j y hj hy => by
        rcases Nat.lt_succ_iff_lt_or_eq.1 hj with hj | rfl
        · exact hall j y hj hy
        · rw [hx] at hy; cases hy; exact h
    have hcm := fun z => litBefore_call z x
    obtain ⟨p, ⟨f, v, ks⟩, ⟨g, u, ms⟩⟩ := x
    apply spec_ClauseOk_L2_of
    refine ifB_t (lt_dec (by simpa using hi)) ⟨i, rfl, _, _, _, _, _, _, _, hx1, _, hxc, ifB_of (fun h => bad fun hh => dB_false.1 (not_t h) hh.1) fun h0 => ifB_d (fun h2 => ?_) fun h2 => good ⟨dB_true.1 (not_f h0), fun y h => by omega⟩⟩
    have h2 : 0 < i := by omega
    obtain ⟨z, hz⟩ := get_ex (l := c.ls) (i := i - 1) (by omega)
    have hz1 := get_map (g := Li.da) hz
    have hcz := hcm z
    refine ⟨i - 1, wrM h2 (by omega), ?_⟩
    obtain ⟨p', ⟨f', v', ks'⟩, ⟨g', u', ms'⟩⟩ := z
    refine ⟨_, _, _, _, _, _, _, hz1, i, rfl, _, _, _, _, _, _, _, hx1, _, hcz, ifB_of (fun h => bad fun hh => ?_) fun h => good ⟨dB_true.1 (not_f h0), fun y _ hy => ?_⟩⟩
    · have h := not_t h; simp at h; have := hh.2 _ h2 hz; omega
    · rw [hz] at hy; cases hy; simpa using not_f h
theorem implClauseOk_call (ss : List Sy) (c : Cl) (hc : c.cn ≤ 1048576) : XC Try.prog 41 [L (ss.map Sy.da), .dat c.da] [] (B (dB (ClOk ss c))) [] := by
  have hc : cnL Li.cn c.ls ≤ 1048576 := hc
  have hlen : c.ls.length ≤ 281474976710656 := by have := cnL_len Li.cn c.ls; omega
  apply impl_ClauseOk_of
  rw [List.length_map]
  have key := loopUp (p := fun i => (∀ (j : Nat) x, j < i → c.ls[j]? = some x → LiOk ss x ∧ ∀ y, 0 < j → c.ls[j - 1]? = some y → Li.cmp y x < 0) → impl_ClauseOk_L2 (B (dB (ClOk ss c))) [] (ss.map Sy.da) (c.ls.map Li.da) (c.ls.length : Int) (i : Int) (c.ls.map Li.da)) c.ls.length ?_ (fun i hi ihl => ?_) 0 (Nat.zero_le _)
  · exact key fun j x hj => by omega
  · intro hall
    apply impl_ClauseOk_L2_of
    rw [List.length_map]
    refine ifB_f (lt_decF (Nat.le_refl _)) (dB_e ?_)
    rw [decide_eq_true_eq]
    exact ⟨fun h => ⟨fun i x hx => hall i x (List.getElem?_eq_some_iff.1 hx).1 hx, by omega⟩, fun h => by have := h.2; omega⟩
  · intro hall
    obtain ⟨x, hx⟩ := get_ex hi
    have hx1 := get_map (g := Li.da) hx
    have hm := cnL_mem (cn := Li.cn) (List.mem_of_getElem? hx)
    have hxc := implLitOk_call ss x (by omega)
    have bad : ¬ (LiOk ss x ∧ ∀ y, 0 < i → c.ls[i - 1]? = some y → Li.cmp y x < 0) → B false = B (dB (ClOk ss c)) ∧ ([] : List (Nat × Ob)) = [] := fun h => dB_f fun hn => h (hn.1 i x hx)
    have good : (LiOk ss x ∧ ∀ y, 0 < i → c.ls[i - 1]? = some y → Li.cmp y x < 0) → impl_ClauseOk_L2 (B (dB (ClOk ss c))) [] (ss.map Sy.da) (c.ls.map Li.da) (c.ls.length : Int) (IntKind.wrap .i64 ((i : Int) + 1)) (c.ls.map Li.da) := fun h => by
      rw [wr1 hi hlen]
      exact ihl fun j y hj hy => by
        rcases Nat.lt_succ_iff_lt_or_eq.1 hj with hj | rfl
        · exact hall j y hj hy
        · rw [hx] at hy; cases hy; exact h
    have hcm := fun z => implLitBefore_call z x
    obtain ⟨p, ⟨f, v, ks⟩, ⟨g, u, ms⟩⟩ := x
    apply impl_ClauseOk_L2_of
    refine ifB_t (lt_dec hi) ⟨i, rfl, _, _, _, _, _, _, _, hx1, _, hxc, ifB_of (fun h => bad fun hh => dB_false.1 (not_t h) hh.1) fun h0 => ifB_d (fun h2 => ?_) fun h2 => good ⟨dB_true.1 (not_f h0), fun y h => by omega⟩⟩
    have h2 : 0 < i := by omega
    obtain ⟨z, hz⟩ := get_ex (l := c.ls) (i := i - 1) (by omega)
    have hz1 := get_map (g := Li.da) hz
    have hcz := hcm z
    refine ⟨i - 1, wrM h2 (by omega), ?_⟩
    obtain ⟨p', ⟨f', v', ks'⟩, ⟨g', u', ms'⟩⟩ := z
    refine ⟨_, _, _, _, _, _, _, hz1, _, hcz, ifB_of (fun h => bad fun hh => ?_) fun h => good ⟨dB_true.1 (not_f h0), fun y _ hy => ?_⟩⟩
    · have h := not_t h; simp at h; have := hh.2 _ h2 hz; omega
    · rw [hz] at hy; cases hy; simpa using not_f h

end AM
end Go.Proofs.Ytbgpofimflnabaa
