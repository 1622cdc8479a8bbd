/- Contracts of functions of the program, out of what their texts ask; no conditions. -/
import Derived.Test.YtbgpofimflnabaaHu7
import Derived.Test.YtbgpofimflnabaaDt
import Derived.Test.YtbgpofimflnabaaSh
set_option linter.unusedVariables false
set_option linter.unusedSimpArgs false
set_option maxRecDepth 100000
namespace Go.Proofs.Ytbgpofimflnabaa
namespace AM
open Go Go.ChangeShapes Go.WideShapes Go.RowKit

theorem cnL_cons {α : Type} (cn : α → Nat) (x : α) (l : List α) : cnL cn (x :: l) = 1 + cn x + cnL cn l := by simp [cnL]; omega
theorem jnT_le {α : Type} {cn : α → Nat} {tx : α → ByteArray} {sep : ByteArray} {M : Nat} (l : List α) (h : ∀ x ∈ l, (tx x).size + sep.size ≤ M * (cn x + 1)) : (jnT sep (l.map tx)).size ≤ M * cnL cn l := by
  induction l with
  | nil => exact Nat.zero_le _
  | cons x r ih =>
    have h1 := h x (by simp)
    have h2 := ih fun y hy => h y (by simp [hy])
    rw [List.map_cons, jnT, ByteArray.size_append, ByteArray.size_append, cnL_cons]
    have e : M * (1 + cn x + cnL cn r) = M * (cn x + 1) + M * cnL cn r := by rw [← Nat.mul_add]; congr 1; omega
    omega
theorem jn_jnT (sep : ByteArray) (l : List ByteArray) : (jn sep l).size ≤ (jnT sep l).size := by
  cases l with
  | nil => exact Nat.le_refl _
  | cons x r => rw [jn, jnT, ByteArray.size_append, ByteArray.size_append, ByteArray.size_append]; omega
theorem jnT_drop {sep : ByteArray} {l : List ByteArray} {i : Nat} {q : ByteArray} (h : l[i]? = some q) : jnT sep (l.drop i) = sep ++ q ++ jnT sep (l.drop (i + 1)) := by rw [drop_cons h]; rfl
theorem jn_first {sep : ByteArray} {l : List ByteArray} {q : ByteArray} (h : l[0]? = some q) : jn sep l = q ++ jnT sep (l.drop 1) := by
  cases l with
  | nil => cases h
  | cons x r => simp at h; subst h; rfl
theorem take_str {l : List ByteArray} {i : Nat} {q : ByteArray} (h : l[i]? = some q) : (l.take i).map (fun x => [Da.str x]) ++ [[Da.str q]] = (l.take (i + 1)).map fun x => [Da.str x] := by
  rw [List.take_add_one, h]; simp
/-- A symbol's text. -/
def hdTx (ss : List Sy) (f : Int) : ByteArray := if 0 ≤ f then match ss[f.toNat]? with | some x => x.nm | none => ⟨#[63]⟩ else ⟨#[63]⟩
theorem hdTx_some {ss : List Sy} {m : Nat} {x : Sy} (h : ss[m]? = some x) : hdTx ss (m : Int) = x.nm := by
  rw [hdTx, if_pos (by omega), Int.toNat_natCast, h]
theorem hdTx_none {ss : List Sy} {f : Int} (h : f < 0 ∨ (ss.length : Int) ≤ f) : hdTx ss f = ⟨#[63]⟩ := by
  unfold hdTx
  split
  · rw [List.getElem?_eq_none (by omega)]
  · rfl
def parTx (l : List ByteArray) : ByteArray := if l.length = 0 then ⟨#[]⟩ else ⟨#[40]⟩ ++ jn ⟨#[44]⟩ l ++ ⟨#[41]⟩
mutual
def Tm.tx (ss : List Sy) : Tm → ByteArray
  | .mk f v ks => if f = -1 then ⟨#[88]⟩ ++ dg v else hdTx ss f ++ parTx (Tm.txs ss ks)
def Tm.txs (ss : List Sy) : List Tm → List ByteArray
  | [] => []
  | t :: r => t.tx ss :: Tm.txs ss r
end
theorem Tm.txs_map (ss : List Sy) (l : List Tm) : Tm.txs ss l = l.map (Tm.tx ss) := by
  induction l with
  | nil => rfl
  | cons t r ih => rw [Tm.txs, ih]; rfl
theorem hdTx_size (ss : List Sy) (f : Int) : (hdTx ss f).size ≤ cnL Sy.cn ss + 1 := by
  unfold hdTx
  split
  · split
    · next x hx => have := cnL_mem (cn := Sy.cn) (List.mem_of_getElem? hx); unfold Sy.cn at *; omega
    · exact Nat.le_add_left _ _
  · exact Nat.le_add_left _ _
theorem parTx_size (l : List ByteArray) : (parTx l).size ≤ (jnT ⟨#[44]⟩ l).size + 2 := by
  unfold parTx
  split
  · exact Nat.zero_le _
  · have := jn_jnT ⟨#[44]⟩ l
    have e1 : (⟨#[40]⟩ : ByteArray).size = 1 := rfl
    have e2 : (⟨#[41]⟩ : ByteArray).size = 1 := rfl
    rw [ByteArray.size_append, ByteArray.size_append]; omega
theorem tx_size (ss : List Sy) (t : Tm) (ht : t.ok) : (t.tx ss).size + 3 ≤ (cnL Sy.cn ss + 40) * (t.cn + 1) := by
  induction t using Tm.ind with
  | h f v ks ih =>
    simp only [Tm.ok] at ht
    obtain ⟨hf, hv, hk⟩ := ht
    rw [Tm.oks_iff] at hk
    rw [Tm.tx]
    have e : (cnL Sy.cn ss + 40) * ((Tm.mk f v ks).cn + 1) = (cnL Sy.cn ss + 40) * cnL Tm.cn ks + (cnL Sy.cn ss + 40) := by
      rw [Tm.cn, Tm.cns_cnL, Nat.mul_add, Nat.mul_one]
    rw [e]
    split
    · have := dg_size hv
      have e1 : (⟨#[88]⟩ : ByteArray).size = 1 := rfl
      rw [ByteArray.size_append]; omega
    · have h1 := hdTx_size ss f
      have h2 := parTx_size (Tm.txs ss ks)
      have h3 : (jnT ⟨#[44]⟩ (ks.map (Tm.tx ss))).size ≤ (cnL Sy.cn ss + 40) * cnL Tm.cn ks := jnT_le ks fun k hk' => by
        have := ih k hk' (hk k hk')
        have e1 : (⟨#[44]⟩ : ByteArray).size = 1 := rfl
        omega
      rw [← Tm.txs_map] at h3
      rw [ByteArray.size_append]; omega
theorem big1 {a b : Nat} (ha : a ≤ 1048576) (hb : b ≤ 1048576) : (a + 40) * (b + 1) ≤ 2199025352704 := Nat.le_trans (Nat.mul_le_mul (by omega : a + 40 ≤ 2097152) (by omega : b + 1 ≤ 1048577)) (by omega)
def rsT (l : List ByteArray) (i : Nat) : ByteArray := if i = 0 then parTx l else jnT ⟨#[44]⟩ (l.drop i) ++ ⟨#[41]⟩
theorem rsT_0 {l : List ByteArray} {q : ByteArray} (h : l[0]? = some q) : rsT l 0 = ⟨#[40]⟩ ++ q ++ rsT l (0 + 1) := by
  have : l.length ≠ 0 := by intro hl; rw [List.getElem?_eq_none (by omega)] at h; cases h
  rw [rsT, if_pos rfl, parTx, if_neg this, jn_first h, rsT, if_neg (by omega)]
  simp only [ByteArray.append_assoc]
theorem rsT_s {l : List ByteArray} {i : Nat} {q : ByteArray} (hi : i ≠ 0) (h : l[i]? = some q) : rsT l i = ⟨#[44]⟩ ++ q ++ rsT l (i + 1) := by
  rw [rsT, if_neg hi, jnT_drop h, rsT, if_neg (by omega)]
  simp only [ByteArray.append_assoc]
theorem rsT_end {l : List ByteArray} (h : l.length ≠ 0) : rsT l l.length = ⟨#[41]⟩ := by
  rw [rsT, if_neg h, drop_end, jnT, eapp]
theorem specTermL (ss : List Sy) (f v : Int) (ks : List Tm) (hlen : ks.length ≤ 281474976710656) (IH : ∀ t ∈ ks, XC Try.prog 70 [L (ss.map Sy.da), .dat t.da] [] (T (t.tx ss)) []) (i : Nat) (hi : i ≤ ks.length) :
    ∀ out : ByteArray, (out ++ rsT (Tm.txs ss ks) i).size ≤ 281474976710656 → spec_TermText_L7 (T (out ++ rsT (Tm.txs ss ks) i)) [] (ss.map Sy.da) out (i : Int) f v (Tm.das ks) := by
  have hl : (Tm.txs ss ks).length = ks.length := by rw [Tm.txs_map, List.length_map]
  refine loopUp (p := fun i => ∀ out : ByteArray, (out ++ rsT (Tm.txs ss ks) i).size ≤ 281474976710656 → spec_TermText_L7 (T (out ++ rsT (Tm.txs ss ks) i)) [] (ss.map Sy.da) out (i : Int) f v (Tm.das ks)) ks.length ?_ ?_ i hi
  · intro out hs
    apply spec_TermText_L7_of
    rw [das_len]
    refine ifB_f (lt_decF (Nat.le_refl _)) ?_
    by_cases h0 : ks.length = 0
    · have e : rsT (Tm.txs ss ks) ks.length = ⟨#[]⟩ := by rw [rsT, if_pos h0, parTx, if_pos (by omega)]
      rw [e, appe]
      exact ifB_f (decide_eq_false (by omega)) ⟨rfl, rfl⟩
    · have e : rsT (Tm.txs ss ks) ks.length = ⟨#[41]⟩ := by rw [← hl]; exact rsT_end (by omega)
      rw [e] at hs ⊢
      exact ifB_t (decide_eq_true (by omega)) ⟨⟨hs⟩, rfl, rfl⟩
  · intro i hi ihl out hs
    obtain ⟨t, ht⟩ := get_ex hi
    have hq : (Tm.txs ss ks)[i]? = some (t.tx ss) := by rw [Tm.txs_map, List.getElem?_map, ht]; rfl
    have hx := get_das ht
    have hc := IH t (List.mem_of_getElem? ht)
    rw [← wr1 hi hlen] at ihl
    by_cases h0 : i = 0
    · subst h0
      rw [rsT_0 hq] at hs ⊢
      rw [show out ++ (⟨#[40]⟩ ++ t.tx ss ++ rsT (Tm.txs ss ks) (0 + 1)) = (out ++ ⟨#[40]⟩ ++ t.tx ss) ++ rsT (Tm.txs ss ks) (0 + 1) by simp only [ByteArray.append_assoc]] at hs ⊢
      have hn := ihl _ hs
      have hs1 := hs
      rw [ByteArray.size_append] at hs1
      have hs2 := hs1
      rw [ByteArray.size_append] at hs2
      apply spec_TermText_L7_of
      rw [das_len]
      obtain ⟨f', v', ks'⟩ := t
      exact ifB_t (lt_dec hi) (ifB_t (decide_eq_true rfl) ⟨⟨by omega⟩, 0, rfl, _, _, _, hx, _, hc, ⟨by omega⟩, hn⟩)
    · rw [rsT_s h0 hq] at hs ⊢
      rw [show out ++ (⟨#[44]⟩ ++ t.tx ss ++ rsT (Tm.txs ss ks) (i + 1)) = (out ++ ⟨#[44]⟩ ++ t.tx ss) ++ rsT (Tm.txs ss ks) (i + 1) by simp only [ByteArray.append_assoc]] at hs ⊢
      have hn := ihl _ hs
      have hs1 := hs
      rw [ByteArray.size_append] at hs1
      have hs2 := hs1
      rw [ByteArray.size_append] at hs2
      apply spec_TermText_L7_of
      rw [das_len]
      obtain ⟨f', v', ks'⟩ := t
      exact ifB_t (lt_dec hi) (ifB_f (decide_eq_false (by omega)) ⟨⟨by omega⟩, i, rfl, _, _, _, hx, _, hc, ⟨by omega⟩, hn⟩)
theorem specTermText_call (ss : List Sy) (t : Tm) (ht : t.ok) (ha : cnL Sy.cn ss ≤ 1048576) (hc : t.cn ≤ 1048576) : XC Try.prog 70 [L (ss.map Sy.da), .dat t.da] [] (T (t.tx ss)) [] := by
  induction t using Tm.ind with
  | h f v ks ih =>
    have hsz := tx_size ss _ ht
    have hb := big1 ha hc
    have hls := cnL_len Sy.cn ss
    simp only [Tm.ok] at ht
    obtain ⟨hf, hv, hk⟩ := ht
    rw [Tm.oks_iff] at hk
    have hck : cnL Tm.cn ks ≤ 1048576 := by rw [← Tm.cns_cnL]; exact hc
    have hkl := cnL_len Tm.cn ks
    have IH : ∀ t ∈ ks, XC Try.prog 70 [L (ss.map Sy.da), .dat t.da] [] (T (t.tx ss)) [] := fun t hm => ih t hm (hk t hm) (by have := cnL_mem (cn := Tm.cn) hm; omega)
    apply spec_TermText_of
    rw [List.length_map, wrI (x := (ss.length : Int) - 1) (by omega) (by omega)]
    rw [Tm.tx] at hsz ⊢
    refine ifB_d (fun h => ?_) fun h => ?_
    · rw [if_pos h] at hsz ⊢
      exact ⟨_, specDigits_call hv, ⟨by omega⟩, rfl, rfl⟩
    · rw [if_neg h] at hsz ⊢
      have key := fun out (ho : (out ++ parTx (Tm.txs ss ks)).size ≤ 281474976710656) => specTermL ss f v ks (by omega) IH 0 (Nat.zero_le _) out (by rw [rsT, if_pos rfl]; exact ho)
      simp only [rsT, if_true] at key
      refine ⟨_, l1In_call _ _ _, ifB_of (fun h => ?_) fun h => ?_⟩
      · have h := inR_t.1 h
        obtain ⟨m, rfl⟩ : ∃ m : Nat, f = (m : Int) := ⟨f.toNat, by omega⟩
        obtain ⟨x, hx⟩ := get_ex (l := ss) (i := m) (by omega)
        have hx1 := get_map (g := Sy.da) hx
        rw [hdTx_some hx] at hsz ⊢
        exact ⟨m, rfl, _, _, _, hx1, key _ (by omega)⟩
      · have h : f < 0 ∨ (ss.length : Int) ≤ f := by
          have : ¬ (0 ≤ f ∧ f ≤ (ss.length : Int) - 1) := fun hh => by rw [inR_t.2 hh] at h; cases h
          omega
        rw [hdTx_none h] at hsz ⊢
        exact key _ (by omega)
theorem implTermL (ss : List Sy) (nm : ByteArray) (ks : List Tm) (h0 : ks.length ≠ 0) (hlen : ks.length ≤ 1048576) (hs : (nm ++ parTx (Tm.txs ss ks)).size ≤ 140737488355328) (IH : ∀ t ∈ ks, XC Try.prog 73 [L (ss.map Sy.da), .dat t.da] [] (T (t.tx ss)) []) :
    impl_TermText_L10 (T (nm ++ parTx (Tm.txs ss ks))) [] (ss.map Sy.da) nm (Tm.das ks) (ks.length : Int) 0 [] := by
  have hl : (Tm.txs ss ks).length = ks.length := by rw [Tm.txs_map, List.length_map]
  have hp : parTx (Tm.txs ss ks) = ⟨#[40]⟩ ++ jn ⟨#[44]⟩ (Tm.txs ss ks) ++ ⟨#[41]⟩ := by rw [parTx, if_neg (by omega)]
  refine loopUp (p := fun i => impl_TermText_L10 (T (nm ++ parTx (Tm.txs ss ks))) [] (ss.map Sy.da) nm (Tm.das ks) (ks.length : Int) (i : Int) (((Tm.txs ss ks).take i).map fun x => [Da.str x])) ks.length ?_ ?_ 0 (Nat.zero_le _)
  · apply impl_TermText_L10_of
    rw [← hl, List.take_length]
    rw [hp] at hs ⊢
    rw [show nm ++ (⟨#[40]⟩ ++ jn ⟨#[44]⟩ (Tm.txs ss ks) ++ ⟨#[41]⟩) = nm ++ ⟨#[40]⟩ ++ jn ⟨#[44]⟩ (Tm.txs ss ks) ++ ⟨#[41]⟩ by simp only [ByteArray.append_assoc]] at hs ⊢
    have hs1 := hs
    rw [ByteArray.size_append] at hs1
    have hs2 := hs1
    rw [ByteArray.size_append] at hs2
    exact ifB_f (lt_decF (Nat.le_refl _)) ⟨⟨by omega⟩, _, join_call _ _ (by omega) (by omega), ⟨by omega⟩, ⟨by omega⟩, rfl, rfl⟩
  · intro i hi ihl
    obtain ⟨t, ht⟩ := get_ex hi
    have hq : (Tm.txs ss ks)[i]? = some (t.tx ss) := by rw [Tm.txs_map, List.getElem?_map, ht]; rfl
    have hx := get_das ht
    have hc := IH t (List.mem_of_getElem? ht)
    rw [← wr1 hi (by omega), ← take_str hq] at ihl
    apply impl_TermText_L10_of
    obtain ⟨f', v', ks'⟩ := t
    refine ifB_t (lt_dec hi) ⟨i, rfl, _, _, _, hx, _, hc, ⟨?_⟩, ihl⟩
    simp only [List.length_map, List.length_take, List.length_cons, List.length_nil]; omega
theorem implTermText_call (ss : List Sy) (t : Tm) (ht : t.ok) (ha : cnL Sy.cn ss ≤ 1048576) (hc : t.cn ≤ 1048576) : XC Try.prog 73 [L (ss.map Sy.da), .dat t.da] [] (T (t.tx ss)) [] := by
  induction t using Tm.ind with
  | h f v ks ih =>
    have hsz := tx_size ss _ ht
    have hb := big1 ha hc
    have hls := cnL_len Sy.cn ss
    simp only [Tm.ok] at ht
    obtain ⟨hf, hv, hk⟩ := ht
    rw [Tm.oks_iff] at hk
    have hck : cnL Tm.cn ks ≤ 1048576 := by rw [← Tm.cns_cnL]; exact hc
    have hkl := cnL_len Tm.cn ks
    have IH : ∀ t ∈ ks, XC Try.prog 73 [L (ss.map Sy.da), .dat t.da] [] (T (t.tx ss)) [] := fun t hm => ih t hm (hk t hm) (by have := cnL_mem (cn := Tm.cn) hm; omega)
    apply impl_TermText_of
    rw [das_len]
    rw [Tm.tx] at hsz ⊢
    refine ⟨_, isVar_call (.mk f v ks), ifB_d (fun h => ?_) fun h => ⟨_, isSym_call ss f, ifB_of (fun h2 => ?_) fun h2 => ?_⟩⟩
    · have h : f = -1 := h
      rw [if_pos h] at hsz ⊢
      exact ⟨_, implDigits_call hv, ⟨by omega⟩, rfl, rfl⟩
    · have h : ¬ f = -1 := h
      rw [if_neg h] at hsz ⊢
      have h2 := inR_t.1 h2
      obtain ⟨m, rfl⟩ : ∃ m : Nat, f = (m : Int) := ⟨f.toNat, by omega⟩
      obtain ⟨x, hx⟩ := get_ex (l := ss) (i := m) (by omega)
      have hx1 := get_map (g := Sy.da) hx
      rw [hdTx_some hx] at hsz ⊢
      refine ⟨m, rfl, _, _, _, hx1, ifB_d (fun h0 => ⟨?_, rfl⟩) fun h0 => implTermL ss _ ks (by omega) (by omega) (by omega) IH⟩
      rw [parTx, if_pos (by rw [Tm.txs_map, List.length_map]; omega), appe]
    · have h : ¬ f = -1 := h
      rw [if_neg h] at hsz ⊢
      have h2 : f < 0 ∨ (ss.length : Int) ≤ f := by
        have : ¬ (0 ≤ f ∧ f ≤ (ss.length : Int) - 1) := fun hh => by rw [inR_t.2 hh] at h2; cases h2
        omega
      rw [hdTx_none h2] at hsz ⊢
      refine ifB_d (fun h0 => ⟨?_, rfl⟩) fun h0 => implTermL ss _ ks (by omega) (by omega) (by omega) IH
      rw [parTx, if_pos (by rw [Tm.txs_map, List.length_map]; omega), appe]

end AM
end Go.Proofs.Ytbgpofimflnabaa
