/- The program's data as Lean's own, and small facts for walks by computation; no conditions. -/
import Derived.Test.YtfcmmpmdofejeaaEv7
set_option linter.unusedSimpArgs false
set_option linter.unusedVariables false
namespace Go.Proofs.Ytfcmmpmdofejeaa
namespace AM
open Go

inductive Tm where
  | mk (f v : Int) (ks : List Tm)
mutual
def Tm.da : Tm → List Da
  | .mk f v ks => [.int .i64 f, .int .i64 v, .sl (Tm.das ks)]
def Tm.das : List Tm → List (List Da)
  | [] => []
  | t :: r => t.da :: Tm.das r
end
def Tm.f : Tm → Int | .mk f _ _ => f
def Tm.v : Tm → Int | .mk _ v _ => v
def Tm.ks : Tm → List Tm | .mk _ _ ks => ks
theorem Tm.das_map (l : List Tm) : Tm.das l = l.map Tm.da := by induction l <;> simp_all [Tm.das]
theorem Tm.da_len (t : Tm) : t.da.length = 3 := by cases t; rfl
theorem Tm.ind {p : Tm → Prop} (h : ∀ f v ks, (∀ t ∈ ks, p t) → p (.mk f v ks)) (t : Tm) : p t := by
  refine Tm.rec (motive_1 := p) (motive_2 := fun l => ∀ t ∈ l, p t) (fun f v ks ih => h f v ks ih) (by simp) (fun t l h1 h2 => ?_) t
  intro u hu
  rcases List.mem_cons.1 hu with rfl | hu
  · exact h1
  · exact h2 u hu
mutual
/-- How many elements a term's lists hold, all in all. -/
def Tm.cn : Tm → Nat
  | .mk _ _ ks => Tm.cns ks
def Tm.cns : List Tm → Nat
  | [] => 0
  | t :: r => 1 + t.cn + Tm.cns r
end

structure Li where
  p : Bool
  l : Tm
  r : Tm
def Li.da (x : Li) : List Da := .bool x.p :: (x.l.da ++ x.r.da)
structure Cl where
  ls : List Li
def Cl.da (x : Cl) : List Da := [.sl (x.ls.map Li.da)]
structure Sy where
  nm : ByteArray
  ar : Int
  ac : Bool
def Sy.da (x : Sy) : List Da := [.str x.nm, .int .i64 x.ar, .bool x.ac]
structure Bd where
  v : Int
  t : Tm
def Bd.da (x : Bd) : List Da := .int .i64 x.v :: x.t.da
structure Ru where
  l : Tm
  r : Tm
def Ru.da (x : Ru) : List Da := x.l.da ++ x.r.da
def In.da (n : Int) : List Da := [.int .i64 n]
structure Sp where
  kind : Int
  a : Int
  b : Int
  i : Int
  k : Int
  left : Bool
  side : Bool
  way : List Int
  ext : Bool
  sub : List Bd
  cl : Cl
def Sp.da (x : Sp) : List Da := [.int .i64 x.kind, .int .i64 x.a, .int .i64 x.b, .int .i64 x.i, .int .i64 x.k, .bool x.left, .bool x.side, .sl (x.way.map In.da), .bool x.ext, .sl (x.sub.map Bd.da), .sl (x.cl.ls.map Li.da)]
structure Wk where
  sig : List Sy
  input : List Cl
  log : List Sp
  active : List Int
  passive : List Int
  lost : Bool
def Wk.da (x : Wk) : List Da := [.sl (x.sig.map Sy.da), .sl (x.input.map Cl.da), .sl (x.log.map Sp.da), .sl (x.active.map In.da), .sl (x.passive.map In.da), .bool x.lost]

theorem Li.da_len (x : Li) : x.da.length = 7 := by obtain ⟨p, ⟨f, v, ks⟩, ⟨g, u, ls⟩⟩ := x; rfl
theorem Cl.da_len (x : Cl) : x.da.length = 1 := rfl
theorem Sy.da_len (x : Sy) : x.da.length = 3 := rfl
theorem Bd.da_len (x : Bd) : x.da.length = 4 := by obtain ⟨v, ⟨f, u, ks⟩⟩ := x; rfl
theorem Sp.da_len (x : Sp) : x.da.length = 11 := rfl
theorem map_das {α : Type} {da : α → List Da} {n : Nat} (h : ∀ x, (da x).length = n) (l : List α) : ∀ c ∈ l.map da, c.length = n := by
  intro c hc
  obtain ⟨x, _, rfl⟩ := List.mem_map.1 hc
  exact h x

/-- The size of a list, by its length and its elements. -/
def cnL {α : Type} (cn : α → Nat) (l : List α) : Nat := l.length + (l.map cn).sum
def Li.cn (x : Li) : Nat := x.l.cn + x.r.cn
def Cl.cn (x : Cl) : Nat := cnL Li.cn x.ls
def Sy.cn (x : Sy) : Nat := x.nm.size
def Bd.cn (x : Bd) : Nat := x.t.cn
def Ru.cn (x : Ru) : Nat := x.l.cn + x.r.cn
def In.cn (n : Int) : Nat := 0
def Sp.cn (x : Sp) : Nat := x.way.length + cnL Bd.cn x.sub + x.cl.cn
def Wk.cn (x : Wk) : Nat := cnL Sy.cn x.sig + cnL Cl.cn x.input + cnL Sp.cn x.log + x.active.length + x.passive.length
theorem Tm.cns_cnL (l : List Tm) : Tm.cns l = cnL Tm.cn l := by
  induction l with
  | nil => rfl
  | cons t r ih => simp [Tm.cns, cnL, ih]; omega
theorem cnL_mem {α : Type} {cn : α → Nat} {l : List α} {x : α} (h : x ∈ l) : cn x + l.length ≤ cnL cn l := by
  induction l with
  | nil => simp at h
  | cons y r ih =>
    rcases List.mem_cons.1 h with rfl | h
    · simp [cnL]; omega
    · have := ih h; simp [cnL] at this ⊢; omega
theorem cnL_len {α : Type} (cn : α → Nat) (l : List α) : l.length ≤ cnL cn l := by simp [cnL]

theorem get_ex {α : Type} {l : List α} {i : Nat} (h : i < l.length) : ∃ x, l[i]? = some x := ⟨l[i], List.getElem?_eq_getElem h⟩
theorem get_map {α β : Type} {g : α → β} {l : List α} {i : Nat} {x : α} (h : l[i]? = some x) : (l.map g)[i]? = some (g x) := by simp [h]
theorem get_das {l : List Tm} {i : Nat} {x : Tm} (h : l[i]? = some x) : (Tm.das l)[i]? = some x.da := by rw [Tm.das_map]; simp [h]
theorem das_len (l : List Tm) : (Tm.das l).length = l.length := by rw [Tm.das_map]; simp

theorem wrI {x : Int} (h1 : -9223372036854775808 ≤ x) (h2 : x ≤ 9223372036854775807) : IntKind.wrap .i64 x = x := by
  rw [IntKind.wrap_i64]; omega
theorem wr1 {k n : Nat} (h : k < n) (hn : n ≤ 281474976710656) : IntKind.wrap .i64 ((k : Int) + 1) = ((k + 1 : Nat) : Int) := by
  rw [wrI (by omega) (by omega)]; omega
/-- Downward from a loop's end. -/
theorem loopUp {p : Nat → Prop} (n : Nat) (h1 : p n) (h2 : ∀ i, i < n → p (i + 1) → p i) : ∀ i, i ≤ n → p i := by
  intro i hi
  induction hd : n - i generalizing i with
  | zero => have : i = n := by omega
            subst this; exact h1
  | succ d ih => exact h2 i (by omega) (ih (i + 1) (by omega) (by omega))
theorem lt_dec {i n : Nat} (h : i < n) : decide ((i : Int) < (n : Int)) = true := by simp; exact h
theorem lt_decF {i n : Nat} (h : n ≤ i) : decide ((i : Int) < (n : Int)) = false := by simp; exact h
theorem ne_decF {i : Int} : decide (i ≠ i) = false := by simp
theorem ne_decB {i : Bool} : decide (i ≠ i) = false := by simp
theorem ne_decS {i : ByteArray} : decide (i ≠ i) = false := by simp

section
variable {P : Program} {f : FuncId} {xs : List AV} {I : List (Nat × Ob)} {r : AV} {O : List (Nat × Ob)}
theorem xc_fit (h : Fits xs → XC P f xs I r O) : XC P f xs I r O := ⟨fun w S β vs hlt hr hin => (h ⟨w, S, β, vs, hr⟩).h w S β vs hlt hr hin⟩
theorem XC.acall (h : XC P f xs [] r []) : ACall P f xs r [] := XCall.plain h.h
theorem XC.ofA (h : ACall P f xs r []) : XC P f xs [] r [] := ⟨XCall.of h⟩
end

/-- What is left of a size. -/
def lft (n : Nat) (l : Int) : Int := if l < n then -1 else l - n
theorem lft_le {n : Nat} {l : Int} (h : -1 ≤ l) : -1 ≤ lft n l ∧ lft n l ≤ l := by unfold lft; split <;> omega
theorem lft_neg {n : Nat} {l : Int} (h : lft n l < 0) (hl : 0 ≤ l) : lft n l = -1 := by unfold lft at h ⊢; split at h <;> split <;> omega
theorem lft_lft {m n : Nat} {l : Int} (h : 0 ≤ lft m l) : lft n (lft m l) = lft (m + n) l := by
  unfold lft at h ⊢
  split at h
  · omega
  · rename_i h1
    rw [if_neg h1]
    split <;> split <;> omega
theorem lft_ok {n : Nat} {l : Int} (h : 0 ≤ lft n l) : (n : Int) ≤ l ∧ lft n l = l - n := by unfold lft at h ⊢; split at h <;> split <;> omega

end AM
end Go.Proofs.Ytfcmmpmdofejeaa
