/- Contracts of functions of the program, out of what their texts ask; no conditions. -/
import Derived.Test.YtbgpofimflnabaaHu8
import Derived.Test.YtbgpofimflnabaaDt
set_option linter.unusedVariables false
set_option linter.unusedSimpArgs false
set_option maxRecDepth 100000
namespace Go.Proofs.Ytbgpofimflnabaa
namespace AM
open Go

def eqTx (p : Bool) : ByteArray := if p then ⟨#[32, 61, 32]⟩ else ⟨#[32, 33, 61, 32]⟩
def ltTx (ss : List Sy) (x : Li) : ByteArray := x.l.tx ss ++ eqTx x.p ++ x.r.tx ss
theorem ltTx_size (ss : List Sy) (x : Li) (hx : x.ok) : (ltTx ss x).size + 3 ≤ 3 * (cnL Sy.cn ss + 40) * (x.cn + 1) := by
  have h1 := tx_size ss x.l hx.1
  have h2 := tx_size ss x.r hx.2
  have h3 : (eqTx x.p).size ≤ 4 := by unfold eqTx; cases x.p <;> decide
  have e : 3 * (cnL Sy.cn ss + 40) * (x.cn + 1) = (cnL Sy.cn ss + 40) * (x.l.cn + 1) + (cnL Sy.cn ss + 40) * (x.r.cn + 1) + (cnL Sy.cn ss + 40) * (2 * x.cn + 1) - 0 := by
    rw [← Nat.mul_add, ← Nat.mul_add, Nat.mul_comm 3, Nat.mul_assoc]; congr 1; unfold Li.cn; omega
  have h4 : (cnL Sy.cn ss + 40) * 1 ≤ (cnL Sy.cn ss + 40) * (2 * x.cn + 1) := Nat.mul_le_mul_left _ (by omega)
  unfold ltTx
  rw [ByteArray.size_append, ByteArray.size_append]; omega
def ctTx (ss : List Sy) (c : Cl) : ByteArray := if c.ls.length = 0 then ⟨#[102, 97, 108, 115, 101]⟩ else jn ⟨#[32, 124, 32]⟩ (c.ls.map (ltTx ss))
theorem ctJ_size (ss : List Sy) (c : Cl) (hc : c.ok) : (jnT ⟨#[32, 124, 32]⟩ (c.ls.map (ltTx ss))).size ≤ 3 * (cnL Sy.cn ss + 40) * c.cn :=
  jnT_le c.ls fun x hx => by
    have := ltTx_size ss x (hc x hx)
    have e1 : (⟨#[32, 124, 32]⟩ : ByteArray).size = 3 := rfl
    omega
theorem ctTx_size (ss : List Sy) (c : Cl) (hc : c.ok) : (ctTx ss c).size + 2 ≤ 3 * (cnL Sy.cn ss + 40) * (c.cn + 1) := by
  have h1 := ctJ_size ss c hc
  have h2 := jn_jnT ⟨#[32, 124, 32]⟩ (c.ls.map (ltTx ss))
  have e : 3 * (cnL Sy.cn ss + 40) * (c.cn + 1) = 3 * (cnL Sy.cn ss + 40) * c.cn + 3 * (cnL Sy.cn ss + 40) := by rw [Nat.mul_add, Nat.mul_one]
  unfold ctTx
  split
  · have e1 : (⟨#[102, 97, 108, 115, 101]⟩ : ByteArray).size = 5 := rfl
    omega
  · omega
theorem big3 {a b : Nat} (ha : a ≤ 1048576) (hb : b ≤ 1048576) : 3 * (a + 40) * (b + 1) ≤ 6597076058112 := by
  rw [Nat.mul_assoc]; have := big1 ha hb; omega
theorem specLitText_call (ss : List Sy) (x : Li) (hx : x.ok) (ha : cnL Sy.cn ss ≤ 1048576) (hc : x.cn ≤ 1048576) : XC Try.prog 17 [L (ss.map Sy.da), .dat x.da] [] (T (ltTx ss x)) [] := by
  unfold Li.cn at hc
  have h1 := specTermText_call ss x.l hx.1 ha (by omega)
  have h2 := specTermText_call ss x.r hx.2 ha (by omega)
  have hz := ltTx_size ss x hx
  have hb := big3 ha (b := x.cn) (by unfold Li.cn; omega)
  have hz : (ltTx ss x).size ≤ 281474976710656 := by omega
  unfold ltTx at hz ⊢
  have hz1 := hz
  rw [ByteArray.size_append] at hz1
  obtain ⟨p, ⟨f, v, ks⟩, ⟨g, u, ms⟩⟩ := x
  apply spec_LitText_of
  cases p
  · exact ifB_f rfl ⟨_, h1, ⟨Nat.le_trans (Nat.le_add_right _ _) hz1⟩, _, h2, ⟨hz⟩, rfl, rfl⟩
  · exact ifB_t rfl ⟨_, h1, ⟨Nat.le_trans (Nat.le_add_right _ _) hz1⟩, _, h2, ⟨hz⟩, rfl, rfl⟩
theorem implLitText_call (ss : List Sy) (x : Li) (hx : x.ok) (ha : cnL Sy.cn ss ≤ 1048576) (hc : x.cn ≤ 1048576) : XC Try.prog 20 [L (ss.map Sy.da), .dat x.da] [] (T (ltTx ss x)) [] := by
  unfold Li.cn at hc
  have h1 := implTermText_call ss x.l hx.1 ha (by omega)
  have h2 := implTermText_call ss x.r hx.2 ha (by omega)
  have hz := ltTx_size ss x hx
  have hb := big3 ha (b := x.cn) (by unfold Li.cn; omega)
  have hz : (ltTx ss x).size ≤ 281474976710656 := by omega
  unfold ltTx at hz ⊢
  have hz1 := hz
  rw [ByteArray.size_append] at hz1
  obtain ⟨p, ⟨f, v, ks⟩, ⟨g, u, ms⟩⟩ := x
  apply impl_LitText_of
  cases p
  · exact ifB_f rfl ⟨_, h1, ⟨Nat.le_trans (Nat.le_add_right _ _) hz1⟩, _, h2, ⟨hz⟩, rfl, rfl⟩
  · exact ifB_t rfl ⟨_, h1, ⟨Nat.le_trans (Nat.le_add_right _ _) hz1⟩, _, h2, ⟨hz⟩, rfl, rfl⟩
def rsC (l : List ByteArray) (i : Nat) : ByteArray := if i = 0 then jn ⟨#[32, 124, 32]⟩ l else jnT ⟨#[32, 124, 32]⟩ (l.drop i)
theorem rsC_0 {l : List ByteArray} {q : ByteArray} (h : l[0]? = some q) : rsC l 0 = q ++ rsC l (0 + 1) := by
  rw [rsC, if_pos rfl, jn_first h, rsC, if_neg (by omega)]
theorem rsC_s {l : List ByteArray} {i : Nat} {q : ByteArray} (hi : i ≠ 0) (h : l[i]? = some q) : rsC l i = ⟨#[32, 124, 32]⟩ ++ q ++ rsC l (i + 1) := by
  rw [rsC, if_neg hi, jnT_drop h, rsC, if_neg (by omega)]
theorem rsC_end {l : List ByteArray} : rsC l l.length = ⟨#[]⟩ := by
  unfold rsC
  split
  · next h => rw [List.length_eq_zero_iff.1 h]; rfl
  · rw [drop_end]; rfl
theorem specClauseText_call (ss : List Sy) (c : Cl) (hx : c.ok) (ha : cnL Sy.cn ss ≤ 1048576) (hc : c.cn ≤ 1048576) : XC Try.prog 36 [L (ss.map Sy.da), .dat c.da] [] (T (ctTx ss c)) [] := by
  have hz := ctTx_size ss c hx
  have hb := big3 ha hc
  have hc : cnL Li.cn c.ls ≤ 1048576 := hc
  have hlen := cnL_len Li.cn c.ls
  apply spec_ClauseText_of
  rw [List.length_map]
  unfold ctTx at hz ⊢
  refine ifB_d (fun h => ⟨by rw [if_pos (by omega)], rfl⟩) fun h => ?_
  rw [if_neg (by omega)] at hz ⊢
  have key := loopUp (p := fun i => ∀ out : ByteArray, (out ++ rsC (c.ls.map (ltTx ss)) i).size ≤ 281474976710656 → spec_ClauseText_L5 (T (out ++ rsC (c.ls.map (ltTx ss)) i)) [] (ss.map Sy.da) out (i : Int) (c.ls.map Li.da)) c.ls.length ?_ ?_ 0 (Nat.zero_le _) ⟨#[]⟩
  · rw [rsC, if_pos rfl, eapp] at key
    exact key (by omega)
  · intro out hs
    apply spec_ClauseText_L5_of
    rw [List.length_map]
    have e : rsC (c.ls.map (ltTx ss)) c.ls.length = ⟨#[]⟩ := by have := rsC_end (l := c.ls.map (ltTx ss)); rwa [List.length_map] at this
    rw [e, appe]
    exact ifB_f (lt_decF (Nat.le_refl _)) ⟨rfl, rfl⟩
  · intro i hi ihl out hs
    obtain ⟨x, hxi⟩ := get_ex hi
    have hq := get_map (g := ltTx ss) hxi
    have hx1 := get_map (g := Li.da) hxi
    have hm := List.mem_of_getElem? hxi
    have hl := specLitText_call ss x (hx x hm) ha (by have := cnL_mem (cn := Li.cn) hm; omega)
    rw [← wr1 hi (by omega)] at ihl
    by_cases h0 : i = 0
    · subst h0
      rw [rsC_0 hq, ← ByteArray.append_assoc] at hs ⊢
      have hn := ihl _ hs
      have hs1 := hs
      rw [ByteArray.size_append] at hs1
      apply spec_ClauseText_L5_of
      rw [List.length_map]
      obtain ⟨p, ⟨f, v, ks⟩, ⟨g, u, ms⟩⟩ := x
      exact ifB_t (lt_dec hi) (ifB_f (by decide) ⟨0, rfl, _, _, _, _, _, _, _, hx1, _, hl, ⟨by omega⟩, hn⟩)
    · rw [rsC_s h0 hq] at hs ⊢
      rw [show out ++ (⟨#[32, 124, 32]⟩ ++ ltTx ss x ++ rsC (c.ls.map (ltTx ss)) (i + 1)) = (out ++ ⟨#[32, 124, 32]⟩ ++ ltTx ss x) ++ rsC (c.ls.map (ltTx ss)) (i + 1) by simp only [ByteArray.append_assoc]] at hs ⊢
      have hn := ihl _ hs
      have hs1 := hs
      rw [ByteArray.size_append] at hs1
      have hs2 := hs1
      rw [ByteArray.size_append] at hs2
      apply spec_ClauseText_L5_of
      rw [List.length_map]
      obtain ⟨p, ⟨f, v, ks⟩, ⟨g, u, ms⟩⟩ := x
      exact ifB_t (lt_dec hi) (ifB_t (decide_eq_true (by omega)) ⟨⟨by omega⟩, i, rfl, _, _, _, _, _, _, _, hx1, _, hl, ⟨by omega⟩, hn⟩)
theorem implClauseText_call (ss : List Sy) (c : Cl) (hx : c.ok) (ha : cnL Sy.cn ss ≤ 1048576) (hc : c.cn ≤ 1048576) : XC Try.prog 38 [L (ss.map Sy.da), .dat c.da] [] (T (ctTx ss c)) [] := by
  have hz := ctTx_size ss c hx
  have hb := big3 ha hc
  have hc : cnL Li.cn c.ls ≤ 1048576 := hc
  have hlen := cnL_len Li.cn c.ls
  apply impl_ClauseText_of
  rw [List.length_map]
  unfold ctTx at hz ⊢
  refine ifB_d (fun h => ⟨by rw [if_pos (by omega)], rfl⟩) fun h => ?_
  rw [if_neg (by omega)] at hz ⊢
  refine loopUp (p := fun i => impl_ClauseText_L5 (T (jn ⟨#[32, 124, 32]⟩ (c.ls.map (ltTx ss)))) [] (ss.map Sy.da) (c.ls.map Li.da) (c.ls.length : Int) (i : Int) (((c.ls.map (ltTx ss)).take i).map fun x => [Da.str x])) c.ls.length ?_ ?_ 0 (Nat.zero_le _)
  · apply impl_ClauseText_L5_of
    rw [List.take_of_length_le (by rw [List.length_map]; omega)]
    exact ifB_f (lt_decF (Nat.le_refl _)) ⟨_, join_call _ _ (by rw [List.length_map]; omega) (by omega), rfl, rfl⟩
  · intro i hi ihl
    obtain ⟨x, hxi⟩ := get_ex hi
    have hq := get_map (g := ltTx ss) hxi
    have hx1 := get_map (g := Li.da) hxi
    have hm := List.mem_of_getElem? hxi
    have hl := implLitText_call ss x (hx x hm) ha (by have := cnL_mem (cn := Li.cn) hm; omega)
    rw [← wr1 hi (by omega), ← take_str hq] at ihl
    apply impl_ClauseText_L5_of
    obtain ⟨p, ⟨f, v, ks⟩, ⟨g, u, ms⟩⟩ := x
    refine ifB_t (lt_dec hi) ⟨i, rfl, _, _, _, _, _, _, _, hx1, _, hl, ⟨?_⟩, ihl⟩
    simp only [List.length_map, List.length_take, List.length_cons, List.length_nil]; omega
def acTx : List Sy → ByteArray
  | [] => ⟨#[]⟩
  | x :: r => if x.ac = true then ⟨#[32]⟩ ++ x.nm ++ acTx r else acTx r
def clsTx (ss : List Sy) : List Cl → ByteArray
  | [] => ⟨#[]⟩
  | c :: r => ctTx ss c ++ ⟨#[46, 10]⟩ ++ clsTx ss r
def ptTx (ss : List Sy) (l : List Cl) : ByteArray := (if acTx ss ≠ ⟨#[]⟩ then ⟨#[97, 99]⟩ ++ acTx ss ++ ⟨#[46, 10]⟩ else acTx ss) ++ clsTx ss l
theorem acTx_size (ss : List Sy) : (acTx ss).size ≤ cnL Sy.cn ss := by
  induction ss with
  | nil => exact Nat.zero_le _
  | cons x r ih =>
    rw [acTx, cnL_cons]
    split
    · rw [ByteArray.size_append, ByteArray.size_append]
      have e1 : (⟨#[32]⟩ : ByteArray).size = 1 := rfl
      unfold Sy.cn at *; omega
    · omega
theorem clsTx_size (ss : List Sy) (l : List Cl) (hl : ∀ c ∈ l, c.ok) : (clsTx ss l).size ≤ 3 * (cnL Sy.cn ss + 40) * cnL Cl.cn l := by
  induction l with
  | nil => exact Nat.zero_le _
  | cons c r ih =>
    have h1 := ctTx_size ss c (hl c (by simp))
    have h2 := ih fun d hd => hl d (by simp [hd])
    rw [clsTx, cnL_cons, ByteArray.size_append, ByteArray.size_append]
    have e : 3 * (cnL Sy.cn ss + 40) * (1 + c.cn + cnL Cl.cn r) = 3 * (cnL Sy.cn ss + 40) * (c.cn + 1) + 3 * (cnL Sy.cn ss + 40) * cnL Cl.cn r := by rw [← Nat.mul_add]; congr 1; omega
    have e1 : (⟨#[46, 10]⟩ : ByteArray).size = 2 := rfl
    omega
theorem bigC {a b : Nat} (ha : a ≤ 1048576) (hb : b ≤ 1048576) : 3 * (a + 40) * b ≤ 6597076058112 := Nat.le_trans (Nat.mul_le_mul_left _ (Nat.le_succ b)) (big3 ha hb)
theorem specProblemText_call (ss : List Sy) (l : List Cl) (hx : ∀ c ∈ l, c.ok) (ha : cnL Sy.cn ss ≤ 1048576) (hc : cnL Cl.cn l ≤ 1048576) : XC Try.prog 43 [L (ss.map Sy.da), L (l.map Cl.da)] [] (T (ptTx ss l)) [] := by
  have hz1 := acTx_size ss
  have hz2 := clsTx_size ss l hx
  have hb := bigC ha hc
  have hlen := cnL_len Cl.cn l
  have hls := cnL_len Sy.cn ss
  have main := loopUp (p := fun i => ∀ out : ByteArray, (out ++ clsTx ss (l.drop i)).size ≤ 281474976710656 → spec_ProblemText_L10 (T (out ++ clsTx ss (l.drop i))) [] (ss.map Sy.da) (l.map Cl.da) out (i : Int)) l.length ?_ ?_ 0 (Nat.zero_le _)
  · have first := loopUp (p := fun i => ∀ out : ByteArray, out ++ acTx (ss.drop i) = acTx ss → spec_ProblemText_L3 (T (ptTx ss l)) [] (ss.map Sy.da) (l.map Cl.da) out (i : Int)) ss.length ?_ ?_ 0 (Nat.zero_le _) ⟨#[]⟩
    · apply spec_ProblemText_of
      exact first (eapp _)
    · intro out ho
      rw [drop_end, acTx, appe] at ho
      subst ho
      apply spec_ProblemText_L3_of
      rw [List.length_map]
      refine ifB_f (lt_decF (Nat.le_refl _)) (ifB_d (fun h => ?_) fun h => ?_)
      · have e1 : (⟨#[46, 10]⟩ : ByteArray).size = 2 := rfl
        have e2 : (⟨#[97, 99]⟩ : ByteArray).size = 2 := rfl
        rw [ptTx, if_pos h]
        exact ⟨⟨by rw [ByteArray.size_append]; omega⟩, ⟨by rw [ByteArray.size_append, ByteArray.size_append]; omega⟩, main _ (by rw [ByteArray.size_append, ByteArray.size_append, ByteArray.size_append, List.drop_zero]; omega)⟩
      · rw [ptTx, if_neg h]
        exact main _ (by rw [ByteArray.size_append, List.drop_zero]; omega)
    · intro i hi ihl out ho
      obtain ⟨x, hxi⟩ := get_ex hi
      have hx1 := get_map (g := Sy.da) hxi
      rw [drop_cons hxi, acTx] at ho
      rw [← wr1 hi (by omega)] at ihl
      apply spec_ProblemText_L3_of
      rw [List.length_map]
      refine ifB_t (lt_dec hi) ⟨i, rfl, _, _, _, hx1, ifB_of (fun h => ?_) fun h => ?_⟩
      · rw [if_pos h] at ho
        rw [show out ++ (⟨#[32]⟩ ++ x.nm ++ acTx (ss.drop (i + 1))) = (out ++ ⟨#[32]⟩ ++ x.nm) ++ acTx (ss.drop (i + 1)) by simp only [ByteArray.append_assoc]] at ho
        have hs := congrArg ByteArray.size ho
        rw [ByteArray.size_append] at hs
        have hs2 := hs
        rw [ByteArray.size_append] at hs2
        exact ⟨⟨by omega⟩, i, rfl, _, _, _, hx1, ⟨by omega⟩, ihl _ ho⟩
      · rw [if_neg (by simp [h])] at ho
        exact ihl _ ho
  · intro out hs
    apply spec_ProblemText_L10_of
    rw [List.length_map, drop_end, clsTx, appe]
    exact ifB_f (lt_decF (Nat.le_refl _)) ⟨rfl, rfl⟩
  · intro i hi ihl out hs
    obtain ⟨x, hxi⟩ := get_ex hi
    have hx1 := get_map (g := Cl.da) hxi
    have hm := List.mem_of_getElem? hxi
    have hl := specClauseText_call ss x (hx x hm) ha (by have := cnL_mem (cn := Cl.cn) hm; omega)
    rw [← wr1 hi (by omega)] at ihl
    rw [drop_cons hxi, clsTx] at hs ⊢
    rw [show out ++ (ctTx ss x ++ ⟨#[46, 10]⟩ ++ clsTx ss (l.drop (i + 1))) = (out ++ ctTx ss x ++ ⟨#[46, 10]⟩) ++ clsTx ss (l.drop (i + 1)) by simp only [ByteArray.append_assoc]] at hs ⊢
    have hn := ihl _ hs
    have hs1 := hs
    rw [ByteArray.size_append] at hs1
    have hs2 := hs1
    rw [ByteArray.size_append] at hs2
    apply spec_ProblemText_L10_of
    rw [List.length_map]
    exact ifB_t (lt_dec hi) ⟨i, rfl, _, hx1, _, hl, ⟨by omega⟩, ⟨by omega⟩, hn⟩
theorem implProblemText_call (ss : List Sy) (l : List Cl) (hx : ∀ c ∈ l, c.ok) (ha : cnL Sy.cn ss ≤ 1048576) (hc : cnL Cl.cn l ≤ 1048576) : XC Try.prog 45 [L (ss.map Sy.da), L (l.map Cl.da)] [] (T (ptTx ss l)) [] := by
  have hz1 := acTx_size ss
  have hz2 := clsTx_size ss l hx
  have hb := bigC ha hc
  have hlen := cnL_len Cl.cn l
  have hls := cnL_len Sy.cn ss
  have main := loopUp (p := fun i => ∀ out : ByteArray, (out ++ clsTx ss (l.drop i)).size ≤ 281474976710656 → impl_ProblemText_L11 (T (out ++ clsTx ss (l.drop i))) [] (ss.map Sy.da) out (l.map Cl.da) (l.length : Int) (i : Int)) l.length ?_ ?_ 0 (Nat.zero_le _)
  · have first := loopUp (p := fun i => ∀ out : ByteArray, out ++ acTx (ss.drop i) = acTx ss → impl_ProblemText_L3 (T (ptTx ss l)) [] (ss.map Sy.da) (l.map Cl.da) out (ss.map Sy.da) (ss.length : Int) (i : Int)) ss.length ?_ ?_ 0 (Nat.zero_le _) ⟨#[]⟩
    · apply impl_ProblemText_of
      rw [List.length_map]
      exact first (eapp _)
    · intro out ho
      rw [drop_end, acTx, appe] at ho
      subst ho
      apply impl_ProblemText_L3_of
      rw [List.length_map]
      refine ifB_f (lt_decF (Nat.le_refl _)) (ifB_d (fun h => ?_) fun h => ?_)
      · have e1 : (⟨#[46, 10]⟩ : ByteArray).size = 2 := rfl
        have e2 : (⟨#[97, 99]⟩ : ByteArray).size = 2 := rfl
        rw [ptTx, if_pos h]
        exact ⟨⟨by rw [ByteArray.size_append]; omega⟩, ⟨by rw [ByteArray.size_append, ByteArray.size_append]; omega⟩, main _ (by rw [ByteArray.size_append, ByteArray.size_append, ByteArray.size_append, List.drop_zero]; omega)⟩
      · rw [ptTx, if_neg h]
        exact main _ (by rw [ByteArray.size_append, List.drop_zero]; omega)
    · intro i hi ihl out ho
      obtain ⟨x, hxi⟩ := get_ex hi
      have hx1 := get_map (g := Sy.da) hxi
      rw [drop_cons hxi, acTx] at ho
      rw [← wr1 hi (by omega)] at ihl
      apply impl_ProblemText_L3_of
      refine ifB_t (lt_dec hi) ⟨i, rfl, _, _, _, hx1, ifB_of (fun h => ?_) fun h => ?_⟩
      · rw [if_pos h, ← ByteArray.append_assoc] at ho
        have hs := congrArg ByteArray.size ho
        rw [ByteArray.size_append] at hs
        have hs2 := hs
        rw [ByteArray.size_append] at hs2
        exact ⟨⟨by omega⟩, ⟨by omega⟩, ihl _ ho⟩
      · rw [if_neg (by simp [h])] at ho
        exact ihl _ ho
  · intro out hs
    apply impl_ProblemText_L11_of
    rw [drop_end, clsTx, appe]
    exact ifB_f (lt_decF (Nat.le_refl _)) ⟨rfl, rfl⟩
  · intro i hi ihl out hs
    obtain ⟨x, hxi⟩ := get_ex hi
    have hx1 := get_map (g := Cl.da) hxi
    have hm := List.mem_of_getElem? hxi
    have hl := implClauseText_call ss x (hx x hm) ha (by have := cnL_mem (cn := Cl.cn) hm; omega)
    rw [← wr1 hi (by omega)] at ihl
    rw [drop_cons hxi, clsTx, ← ByteArray.append_assoc] at hs ⊢
    have hn := ihl _ hs
    have hs1 := hs
    rw [ByteArray.size_append] at hs1
    have hs2 := hs1
    rw [ByteArray.size_append] at hs2
    apply impl_ProblemText_L11_of
    exact ifB_t (lt_dec hi) ⟨i, rfl, _, hx1, _, hl, ⟨by omega⟩, ⟨by omega⟩, hn⟩

end AM
end Go.Proofs.Ytbgpofimflnabaa
