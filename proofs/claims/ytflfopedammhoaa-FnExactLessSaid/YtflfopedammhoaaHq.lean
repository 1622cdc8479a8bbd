/- Contracts of functions of the program, out of what their texts ask; no conditions. -/
import Derived.Test.YtflfopedammhoaaHm
import Derived.Test.YtflfopedammhoaaDt
import Derived.Test.YtflfopedammhoaaHr
set_option linter.unusedVariables false
set_option linter.unusedSimpArgs false
set_option maxRecDepth 100000
namespace Go.Proofs.Ytflfopedammhoaa
namespace AM
open Go Go.ChangeShapes Go.WideShapes Go.RowKit

def mkD : Nat → Int → ByteArray → ByteArray
  | 0, _, out => ⟨#[109]⟩ ++ out
  | f + 1, k, out => if 0 < k then mkD f (IntKind.wrap .i64 (Int.tdiv k 10)) (strOfNums [IntKind.wrap IntKind.u8 (IntKind.wrap .i64 (48 + Int.tmod k 10))] ++ out) else ⟨#[109]⟩ ++ out
theorem markText_loop : ∀ f (k : Nat) out, k < 10 ^ f → k ≤ 1000000000 → out.size + f ≤ 1000 → laws_markText_L4 (T (mkD f k out)) [] k out := by
  intro f
  induction f with
  | zero =>
    intro k out hk _ hs
    apply laws_markText_L4_of
    refine ifB_f (decide_eq_false (by simp at hk; omega)) ⟨⟨?_⟩, rfl, rfl⟩
    rw [ByteArray.size_append]
    have : (⟨#[109]⟩ : ByteArray).size = 1 := rfl
    omega
  | succ f ih =>
    intro k out hk hk2 hs
    apply laws_markText_L4_of
    refine ifB_d (fun h => ?_) fun h => ?_
    · have e1 : mkD (f + 1) k out = mkD f (IntKind.wrap .i64 (Int.tdiv k 10)) (strOfNums [IntKind.wrap IntKind.u8 (IntKind.wrap .i64 (48 + Int.tmod k 10))] ++ out) := by
        rw [mkD, if_pos h]
      have e2 : IntKind.wrap .i64 (Int.tdiv (k : Int) 10) = ((k / 10 : Nat) : Int) := by
        have : Int.tdiv (k : Int) 10 = ((k / 10 : Nat) : Int) := rfl
        rw [this, wrI (by omega) (by omega)]
      have hsz : ∀ x : Int, (strOfNums [x] ++ out).size = 1 + out.size := fun x => by rw [ByteArray.size_append, strOfNums_len]; rfl
      refine ⟨⟨by decide⟩, [IntKind.wrap IntKind.u8 (IntKind.wrap .i64 (48 + Int.tmod k 10))], rfl, ⟨by rw [hsz]; omega⟩, ⟨by decide⟩, ?_⟩
      rw [e1, e2]
      exact ih (k / 10) _ (by rw [Nat.pow_succ] at hk; omega) (by omega) (by rw [hsz]; omega)
    · have e1 : mkD (f + 1) k out = ⟨#[109]⟩ ++ out := by rw [mkD, if_neg h]
      rw [e1]
      refine ⟨⟨?_⟩, rfl, rfl⟩
      rw [ByteArray.size_append]
      have : (⟨#[109]⟩ : ByteArray).size = 1 := rfl
      omega
/-- The mark of a number. -/
def mkT (k : Nat) : ByteArray := mkD 10 k ⟨#[]⟩
theorem markText_call (k : Nat) (h1 : 1 ≤ k) (h2 : k ≤ 1000000000) : XC Try.prog 97 [Z (k : Int)] [] (T (mkT k)) [] := by
  apply laws_markText_of
  exact ifB_f (decide_eq_false (by omega)) (markText_loop 10 k _ (by omega) h2 (by decide))
theorem wrS {k : Nat} (hk : k ≤ 281474976710656) : IntKind.wrap .i64 ((k : Int) + 1) = ((k + 1 : Nat) : Int) := wrN hk 1 (by omega)
theorem mkN_ge : ∀ l : List Li, l.length ≤ mkN l
  | [] => by simp [mkN]
  | ⟨b, .mk f v ks, .mk g u ms⟩ :: r => by
    have h := mkN_ge r
    have hN : mkN (⟨b, .mk f v ks, .mk g u ms⟩ :: r) = 5 + 2 * (Tm.cns ks + Tm.cns ms) + mkN r := rfl
    rw [hN, List.length_cons]; omega
theorem markLitS_call (l : List Li) (k : Nat) (hl : l.length ≤ 100000000) (hk : k + mkN l ≤ 100000000) : XC Try.prog 71 [.one (.ol 2000), Z (k : Int)] [(2000, .mt 61 7 (l.map Li.da))] (Z ((k + mkN l : Nat) : Int)) [(2000, .mt 61 7 ((mkLis k l).map Li.da))] := by
  apply laws_markLitS_of
  simpa using markLitS_loop l [] k (by simpa using hl) hk
def mkBd1 (k : Nat) : Bd → Bd
  | ⟨v, .mk f u ks⟩ => ⟨(((k : Nat) : Int)), .mk (((k + 1 : Nat) : Int)) (((k + 2 : Nat) : Int)) (Tm.mkL (k + 3) ks)⟩
def mknBd : Bd → Nat
  | ⟨v, .mk f u ks⟩ => 1 + 1 + 1 + 2 * Tm.cns ks
def mkBds : Nat → List Bd → List Bd
  | _, [] => []
  | k, x :: r => mkBd1 k x :: mkBds (k + mknBd x) r
def mkNBd (l : List Bd) : Nat := (l.map mknBd).sum
theorem mkNBd_cons (x : Bd) (r : List Bd) : mkNBd (x :: r) = mknBd x + mkNBd r := by simp [mkNBd]
theorem mkNBd_ge : ∀ l : List Bd, l.length ≤ mkNBd l
  | [] => by simp [mkNBd]
  | ⟨v, .mk f u ks⟩ :: r => by
    have h := mkNBd_ge r
    rw [mkNBd_cons, List.length_cons]
    simp only [mknBd]
    omega
theorem markBindS_loop : ∀ (l : List Bd) (P : List (List Da)) (k : Nat), P.length + l.length ≤ 100000000 → k + mkNBd l ≤ 100000000 → laws_markBindS_L2 (Z ((k + mkNBd l : Nat) : Int)) [(2000, .mt 149 4 (P ++ (mkBds k l).map Bd.da))] (k : Int) (P.length : Int) (P ++ l.map Bd.da)
  | [], P, k, _, _ => by
    apply laws_markBindS_L2_of
    exact ifB_f (decide_eq_false (by simp)) ⟨by simp [mkNBd], by simp [mkBds]⟩
  | ⟨v, .mk f u ks⟩ :: r, P, k, hl, hk => by
    rw [mkNBd_cons] at hk ⊢
    simp only [List.length_cons, mknBd] at hl hk
    have hlen : ∀ y : List Da, P.length < (P ++ y :: r.map Bd.da).length := fun y => by simp
    have hm0 : XC Try.prog 87 [.one (.ol 2000), Z ((k + 3 : Nat) : Int)] [(2000, .mt 30 3 (Tm.das ks))] (Z ((k + 3 + 2 * Tm.cns ks : Nat) : Int)) [(2000, .mt 30 3 (Tm.das (Tm.mkL (k + 3) ks)))] := markTermS_call (.mk 0 0 ks) (k + 3) (by simp only [Tm.cn]; omega)
    have ih := markBindS_loop r (P ++ [Bd.da (mkBd1 k ⟨v, .mk f u ks⟩)]) (k + 3 + 2 * Tm.cns ks) (by simp; omega) (by omega)
    have e4 : (P ++ [Bd.da (mkBd1 k ⟨v, .mk f u ks⟩)]).length = P.length + 1 := by simp
    rw [e4, List.append_assoc, List.append_assoc] at ih
    have eN : k + mknBd ⟨v, .mk f u ks⟩ = k + 3 + 2 * Tm.cns ks := by simp only [mknBd] <;> omega
    have eM : mkBds k (⟨v, .mk f u ks⟩ :: r) = mkBd1 k ⟨v, .mk f u ks⟩ :: mkBds (k + 3 + 2 * Tm.cns ks) r := by rw [← eN]; rfl
    rw [eM, ← Nat.add_assoc, eN]
    apply laws_markBindS_L2_of
    rw [List.map_cons, List.map_cons]
    have w0 : IntKind.wrap .i64 (((k : Nat) : Int) + 1) = ((k + 1 : Nat) : Int) := wrS (by omega)
    have w1 : IntKind.wrap .i64 (((k + 1 : Nat) : Int) + 1) = ((k + 2 : Nat) : Int) := wrS (by omega)
    have w2 : IntKind.wrap .i64 (((k + 2 : Nat) : Int) + 1) = ((k + 3 : Nat) : Int) := wrS (by omega)
    have wp : IntKind.wrap .i64 ((P.length : Int) + 1) = ((P.length + 1 : Nat) : Int) := wrS (by omega)
    rw [w0, w1, w2, wp]
    refine ifB_t (decide_eq_true (by simp; omega)) ?_
    refine ⟨P.length, rfl, ⟨hlen _⟩, P.length, rfl, _, _, _, _, get_mid, ?_⟩
    rw [set_mid]
    refine ⟨P.length, rfl, ⟨hlen _⟩, P.length, rfl, _, _, _, _, get_mid, ?_⟩
    rw [set_mid]
    refine ⟨P.length, rfl, ⟨hlen _⟩, P.length, rfl, _, _, _, _, get_mid, ?_⟩
    rw [set_mid]
    refine ⟨P.length, rfl, ⟨hlen _⟩, P.length, rfl, _, _, _, _, get_mid, fun _ _ _ => ⟨by simp, _, _, _, _, get_mid, ⟨fun y hy => das3 _ y hy⟩, _, _, hm0, ?_⟩⟩
    rw [set_mid]
    exact ih
theorem markBindS_call (l : List Bd) (k : Nat) (hl : l.length ≤ 100000000) (hk : k + mkNBd l ≤ 100000000) : XC Try.prog 65 [.one (.ol 2000), Z (k : Int)] [(2000, .mt 149 4 (l.map Bd.da))] (Z ((k + mkNBd l : Nat) : Int)) [(2000, .mt 149 4 ((mkBds k l).map Bd.da))] := by
  apply laws_markBindS_of
  simpa using markBindS_loop l [] k (by simpa using hl) hk
def mkSp1 (k : Nat) : Sp → Sp
  | ⟨c1, c2, c3, c4, c5, b1, b2, way, b3, sub, ⟨ls⟩⟩ => ⟨(((k : Nat) : Int)), (((k + 1 : Nat) : Int)), (((k + 2 : Nat) : Int)), (((k + 3 : Nat) : Int)), (((k + 4 : Nat) : Int)), (decide (Int.tmod ((k + 5 : Nat) : Int) 3 = 0)), (decide (Int.tmod ((k + 6 : Nat) : Int) 3 = 0)), (mkI (k + 7) way), (decide (Int.tmod ((k + 7 + way.length : Nat) : Int) 3 = 0)), (mkBds (k + 7 + way.length + 1) sub), ⟨(mkLis (k + 7 + way.length + 1 + mkNBd sub) ls)⟩⟩
def mknSp : Sp → Nat
  | ⟨c1, c2, c3, c4, c5, b1, b2, way, b3, sub, ⟨ls⟩⟩ => 1 + 1 + 1 + 1 + 1 + 1 + 1 + way.length + 1 + mkNBd sub + mkN ls
def mkSps : Nat → List Sp → List Sp
  | _, [] => []
  | k, x :: r => mkSp1 k x :: mkSps (k + mknSp x) r
def mkNSp (l : List Sp) : Nat := (l.map mknSp).sum
theorem mkNSp_cons (x : Sp) (r : List Sp) : mkNSp (x :: r) = mknSp x + mkNSp r := by simp [mkNSp]
theorem mkNSp_ge : ∀ l : List Sp, l.length ≤ mkNSp l
  | [] => by simp [mkNSp]
  | ⟨c1, c2, c3, c4, c5, b1, b2, way, b3, sub, ⟨ls⟩⟩ :: r => by
    have h := mkNSp_ge r
    rw [mkNSp_cons, List.length_cons]
    simp only [mknSp]
    omega
theorem markStepS_loop : ∀ (l : List Sp) (P : List (List Da)) (k : Nat), P.length + l.length ≤ 100000000 → k + mkNSp l ≤ 100000000 → laws_markStepS_L2 (Z ((k + mkNSp l : Nat) : Int)) [(2000, .mt 160 11 (P ++ (mkSps k l).map Sp.da))] (k : Int) (P.length : Int) (P ++ l.map Sp.da)
  | [], P, k, _, _ => by
    apply laws_markStepS_L2_of
    exact ifB_f (decide_eq_false (by simp)) ⟨by simp [mkNSp], by simp [mkSps]⟩
  | ⟨c1, c2, c3, c4, c5, b1, b2, way, b3, sub, ⟨ls⟩⟩ :: r, P, k, hl, hk => by
    rw [mkNSp_cons] at hk ⊢
    simp only [List.length_cons, mknSp] at hl hk
    have hlen : ∀ y : List Da, P.length < (P ++ y :: r.map Sp.da).length := fun y => by simp
    have hm0 : XC Try.prog 38 [.one (.ol 2000), Z ((k + 7 : Nat) : Int)] [(2000, .mt 3 1 (way.map In.da))] (Z ((k + 7 + way.length : Nat) : Int)) [(2000, .mt 3 1 ((mkI (k + 7) way).map In.da))] := markIntS_call way (k + 7) (by omega) (by omega)
    have hm1 : XC Try.prog 65 [.one (.ol 2000), Z ((k + 7 + way.length + 1 : Nat) : Int)] [(2000, .mt 149 4 (sub.map Bd.da))] (Z ((k + 7 + way.length + 1 + mkNBd sub : Nat) : Int)) [(2000, .mt 149 4 ((mkBds (k + 7 + way.length + 1) sub).map Bd.da))] := markBindS_call sub (k + 7 + way.length + 1) (by have := mkNBd_ge sub; omega) (by omega)
    have hm2 : XC Try.prog 71 [.one (.ol 2000), Z ((k + 7 + way.length + 1 + mkNBd sub : Nat) : Int)] [(2000, .mt 61 7 (ls.map Li.da))] (Z ((k + 7 + way.length + 1 + mkNBd sub + mkN ls : Nat) : Int)) [(2000, .mt 61 7 ((mkLis (k + 7 + way.length + 1 + mkNBd sub) ls).map Li.da))] := markLitS_call ls (k + 7 + way.length + 1 + mkNBd sub) (by have := mkN_ge ls; omega) (by omega)
    have ih := markStepS_loop r (P ++ [Sp.da (mkSp1 k ⟨c1, c2, c3, c4, c5, b1, b2, way, b3, sub, ⟨ls⟩⟩)]) (k + 7 + way.length + 1 + mkNBd sub + mkN ls) (by simp; omega) (by omega)
    have e4 : (P ++ [Sp.da (mkSp1 k ⟨c1, c2, c3, c4, c5, b1, b2, way, b3, sub, ⟨ls⟩⟩)]).length = P.length + 1 := by simp
    rw [e4, List.append_assoc, List.append_assoc] at ih
    have eN : k + mknSp ⟨c1, c2, c3, c4, c5, b1, b2, way, b3, sub, ⟨ls⟩⟩ = k + 7 + way.length + 1 + mkNBd sub + mkN ls := by simp only [mknSp] <;> omega
    have eM : mkSps k (⟨c1, c2, c3, c4, c5, b1, b2, way, b3, sub, ⟨ls⟩⟩ :: r) = mkSp1 k ⟨c1, c2, c3, c4, c5, b1, b2, way, b3, sub, ⟨ls⟩⟩ :: mkSps (k + 7 + way.length + 1 + mkNBd sub + mkN ls) r := by rw [← eN]; rfl
    rw [eM, ← Nat.add_assoc, eN]
    apply laws_markStepS_L2_of
    rw [List.map_cons, List.map_cons]
    have w0 : IntKind.wrap .i64 (((k : Nat) : Int) + 1) = ((k + 1 : Nat) : Int) := wrS (by omega)
    have w1 : IntKind.wrap .i64 (((k + 1 : Nat) : Int) + 1) = ((k + 2 : Nat) : Int) := wrS (by omega)
    have w2 : IntKind.wrap .i64 (((k + 2 : Nat) : Int) + 1) = ((k + 3 : Nat) : Int) := wrS (by omega)
    have w3 : IntKind.wrap .i64 (((k + 3 : Nat) : Int) + 1) = ((k + 4 : Nat) : Int) := wrS (by omega)
    have w4 : IntKind.wrap .i64 (((k + 4 : Nat) : Int) + 1) = ((k + 5 : Nat) : Int) := wrS (by omega)
    have w5 : IntKind.wrap .i64 (((k + 5 : Nat) : Int) + 1) = ((k + 6 : Nat) : Int) := wrS (by omega)
    have w6 : IntKind.wrap .i64 (((k + 6 : Nat) : Int) + 1) = ((k + 7 : Nat) : Int) := wrS (by omega)
    have w7 : IntKind.wrap .i64 (((k + 7 + way.length : Nat) : Int) + 1) = ((k + 7 + way.length + 1 : Nat) : Int) := wrS (by omega)
    have wp : IntKind.wrap .i64 ((P.length : Int) + 1) = ((P.length + 1 : Nat) : Int) := wrS (by omega)
    rw [w0, w1, w2, w3, w4, w5, w6, wp]
    refine ifB_t (decide_eq_true (by simp; omega)) ?_
    refine ⟨P.length, rfl, ⟨hlen _⟩, P.length, rfl, _, _, _, _, _, _, _, _, _, _, _, get_mid, ?_⟩
    rw [set_mid]
    refine ⟨P.length, rfl, ⟨hlen _⟩, P.length, rfl, _, _, _, _, _, _, _, _, _, _, _, get_mid, ?_⟩
    rw [set_mid]
    refine ⟨P.length, rfl, ⟨hlen _⟩, P.length, rfl, _, _, _, _, _, _, _, _, _, _, _, get_mid, ?_⟩
    rw [set_mid]
    refine ⟨P.length, rfl, ⟨hlen _⟩, P.length, rfl, _, _, _, _, _, _, _, _, _, _, _, get_mid, ?_⟩
    rw [set_mid]
    refine ⟨P.length, rfl, ⟨hlen _⟩, P.length, rfl, _, _, _, _, _, _, _, _, _, _, _, get_mid, ?_⟩
    rw [set_mid]
    refine ⟨⟨by decide⟩, P.length, rfl, ⟨hlen _⟩, P.length, rfl, _, _, _, _, _, _, _, _, _, _, _, get_mid, ?_⟩
    rw [set_mid]
    refine ⟨⟨by decide⟩, P.length, rfl, ⟨hlen _⟩, P.length, rfl, _, _, _, _, _, _, _, _, _, _, _, get_mid, ?_⟩
    rw [set_mid]
    refine ⟨P.length, rfl, ⟨hlen _⟩, P.length, rfl, _, _, _, _, _, _, _, _, _, _, _, get_mid, fun _ _ _ => ⟨by simp, _, _, _, _, _, _, _, _, _, _, _, get_mid, ⟨ints_len _⟩, _, _, hm0, ?_⟩⟩
    rw [set_mid]
    rw [w7]
    refine ⟨⟨by decide⟩, P.length, rfl, ⟨hlen _⟩, P.length, rfl, _, _, _, _, _, _, _, _, _, _, _, get_mid, ?_⟩
    rw [set_mid]
    refine ⟨P.length, rfl, ⟨hlen _⟩, P.length, rfl, _, _, _, _, _, _, _, _, _, _, _, get_mid, fun _ _ _ => ⟨by simp, _, _, _, _, _, _, _, _, _, _, _, get_mid, ⟨map_das Bd.da_len _⟩, _, _, hm1, ?_⟩⟩
    rw [set_mid]
    refine ⟨P.length, rfl, ⟨hlen _⟩, P.length, rfl, _, _, _, _, _, _, _, _, _, _, _, get_mid, fun _ _ _ => ⟨by simp, _, _, _, _, _, _, _, _, _, _, _, get_mid, ⟨map_das Li.da_len _⟩, _, _, hm2, ?_⟩⟩
    rw [set_mid]
    exact ih
theorem markStepS_call (l : List Sp) (k : Nat) (hl : l.length ≤ 100000000) (hk : k + mkNSp l ≤ 100000000) : XC Try.prog 77 [.one (.ol 2000), Z (k : Int)] [(2000, .mt 160 11 (l.map Sp.da))] (Z ((k + mkNSp l : Nat) : Int)) [(2000, .mt 160 11 ((mkSps k l).map Sp.da))] := by
  apply laws_markStepS_of
  simpa using markStepS_loop l [] k (by simpa using hl) hk
def mkSy1 (k : Nat) : Sy → Sy
  | ⟨nm, ar, ac⟩ => ⟨(mkT (k)), (((k + 1 : Nat) : Int)), (decide (Int.tmod ((k + 2 : Nat) : Int) 3 = 0))⟩
def mknSy : Sy → Nat
  | ⟨nm, ar, ac⟩ => 1 + 1 + 1
def mkSys : Nat → List Sy → List Sy
  | _, [] => []
  | k, x :: r => mkSy1 k x :: mkSys (k + mknSy x) r
def mkNSy (l : List Sy) : Nat := (l.map mknSy).sum
theorem mkNSy_cons (x : Sy) (r : List Sy) : mkNSy (x :: r) = mknSy x + mkNSy r := by simp [mkNSy]
theorem mkNSy_ge : ∀ l : List Sy, l.length ≤ mkNSy l
  | [] => by simp [mkNSy]
  | ⟨nm, ar, ac⟩ :: r => by
    have h := mkNSy_ge r
    rw [mkNSy_cons, List.length_cons]
    simp only [mknSy]
    omega
theorem markSymS_loop : ∀ (l : List Sy) (P : List (List Da)) (k : Nat), 1 ≤ k → P.length + l.length ≤ 100000000 → k + mkNSy l ≤ 100000000 → laws_markSymS_L2 (Z ((k + mkNSy l : Nat) : Int)) [(2000, .mt 119 3 (P ++ (mkSys k l).map Sy.da))] (k : Int) (P.length : Int) (P ++ l.map Sy.da)
  | [], P, k, _, _, _ => by
    apply laws_markSymS_L2_of
    exact ifB_f (decide_eq_false (by simp)) ⟨by simp [mkNSy], by simp [mkSys]⟩
  | ⟨nm, ar, ac⟩ :: r, P, k, h1, hl, hk => by
    rw [mkNSy_cons] at hk ⊢
    simp only [List.length_cons, mknSy] at hl hk
    have hlen : ∀ y : List Da, P.length < (P ++ y :: r.map Sy.da).length := fun y => by simp
    have ih := markSymS_loop r (P ++ [Sy.da (mkSy1 k ⟨nm, ar, ac⟩)]) (k + 3) (by omega) (by simp; omega) (by omega)
    have e4 : (P ++ [Sy.da (mkSy1 k ⟨nm, ar, ac⟩)]).length = P.length + 1 := by simp
    rw [e4, List.append_assoc, List.append_assoc] at ih
    have eN : k + mknSy ⟨nm, ar, ac⟩ = k + 3 := by simp only [mknSy] <;> omega
    have eM : mkSys k (⟨nm, ar, ac⟩ :: r) = mkSy1 k ⟨nm, ar, ac⟩ :: mkSys (k + 3) r := by rw [← eN]; rfl
    rw [eM, ← Nat.add_assoc, eN]
    apply laws_markSymS_L2_of
    rw [List.map_cons, List.map_cons]
    have w0 : IntKind.wrap .i64 (((k : Nat) : Int) + 1) = ((k + 1 : Nat) : Int) := wrS (by omega)
    have w1 : IntKind.wrap .i64 (((k + 1 : Nat) : Int) + 1) = ((k + 2 : Nat) : Int) := wrS (by omega)
    have w2 : IntKind.wrap .i64 (((k + 2 : Nat) : Int) + 1) = ((k + 3 : Nat) : Int) := wrS (by omega)
    have wp : IntKind.wrap .i64 ((P.length : Int) + 1) = ((P.length + 1 : Nat) : Int) := wrS (by omega)
    rw [w0, w1, w2, wp]
    refine ifB_t (decide_eq_true (by simp; omega)) ?_
    refine ⟨_, markText_call (k) (by omega) (by omega), P.length, rfl, ⟨hlen _⟩, P.length, rfl, _, _, _, get_mid, ?_⟩
    rw [set_mid]
    refine ⟨P.length, rfl, ⟨hlen _⟩, P.length, rfl, _, _, _, get_mid, ?_⟩
    rw [set_mid]
    refine ⟨⟨by decide⟩, P.length, rfl, ⟨hlen _⟩, P.length, rfl, _, _, _, get_mid, ?_⟩
    rw [set_mid]
    exact ih
theorem markSymS_call (l : List Sy) (k : Nat) (h1 : 1 ≤ k) (hl : l.length ≤ 100000000) (hk : k + mkNSy l ≤ 100000000) : XC Try.prog 32 [.one (.ol 2000), Z (k : Int)] [(2000, .mt 119 3 (l.map Sy.da))] (Z ((k + mkNSy l : Nat) : Int)) [(2000, .mt 119 3 ((mkSys k l).map Sy.da))] := by
  apply laws_markSymS_of
  simpa using markSymS_loop l [] k h1 (by simpa using hl) hk

end AM
end Go.Proofs.Ytflfopedammhoaa
