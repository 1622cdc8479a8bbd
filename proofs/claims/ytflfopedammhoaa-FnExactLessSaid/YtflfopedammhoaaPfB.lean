/- What functions of the program ask, printed by a program of this session's and held against the loaded text by the kernel; no conditions. -/
import Derived.Test.YtflfopedammhoaaPfA
set_option linter.unusedVariables false
set_option maxRecDepth 100000
namespace Go.Proofs.Ytflfopedammhoaa
namespace AM
open Go
attribute [local irreducible] vC

/-- loop.example/g00461/laws.eqTermS -/
def laws_eqTermS_h : Hints := ⟨[(4, ⟨[0, 1, 5], [], [], [], [], [], []⟩)], []⟩
def laws_eqTermS_L4 (r : AV) (O : List (Nat × Ob)) (a : List (List Da)) (b : List (List Da)) (i : Int) : Prop := CL 27 Try.prog (subC (bodyOf Try.f86) [1, 1, 0, 1, 0, 0]) (kont Try.prog env laws_eqTermS_h 27 (bodyOf Try.f86) [1, 1, 0, 1, 0, 0] (vRet env [.tmp 4] (.c .b) [] [] r O) (retKE (vRet env [.tmp 4] (.c .b) [] [] r O))).1 (kont Try.prog env laws_eqTermS_h 27 (bodyOf Try.f86) [1, 1, 0, 1, 0, 0] (vRet env [.tmp 4] (.c .b) [] [] r O) (retKE (vRet env [.tmp 4] (.c .b) [] [] r O))).2 ⟨[(0, (L a)), (1, (L b)), (5, (Z i))], []⟩
theorem laws_eqTermS_L4_of {r : AV} {O : List (Nat × Ob)} {a : List (List Da)} {b : List (List Da)} {i : Int} (h : ifB (decide (i < (↑(List.length a) : Int)))
  ((∃ (m : Nat), (i = ((↑m : Int)) ∧ (∃ (n : Int), (∃ (n1 : Int), (∃ (xs : List (List Da)), ((a[m]?) = some [(.int .i64 n), (.int .i64 n1), (.sl xs)] ∧ (∃ (m1 : Nat), (i = ((↑m1 : Int)) ∧ (∃ (n2 : Int), (∃ (n3 : Int), (∃ (xs1 : List (List Da)), ((b[m1]?) = some [(.int .i64 n2), (.int .i64 n3), (.sl xs1)] ∧ (∃ (b2 : Bool), (XC Try.prog 20 [(.dat [(.int .i64 n), (.int .i64 n1), (.sl xs)]), (.dat [(.int .i64 n2), (.int .i64 n3), (.sl xs1)])] [] (B b2) [] ∧ ifB (!b2)
  (((B (false)) = r ∧ [] = O))
  (laws_eqTermS_L4 r O a b (IntKind.wrap IntKind.i64 (i + (1 : Int)))))))))))))))))))
  (((B (true)) = r ∧ [] = O))) : laws_eqTermS_L4 r O a b i := by
  unfold laws_eqTermS_L4
  refine cl_of (E := env) (hs := laws_eqTermS_h) envOk mixed ?_
  exact to_vc (by kernel_rfl) h
theorem laws_eqTermS_of {a : List (List Da)} {b : List (List Da)} {r : AV} {O : List (Nat × Ob)} (h : ifB (decide ((↑(List.length a) : Int) ≠ (↑(List.length b) : Int)))
  (((B (false)) = r ∧ [] = O))
  (laws_eqTermS_L4 r O a b ((0 : Int)))) : XC Try.prog 86 [(L a), (L b)] [] r O :=
  xc_of (E := env) (hs := laws_eqTermS_h) (c := (bodyOf Try.f86)) (n := 27) (res := [.tmp 4]) (rs := .c .b) (ks := []) (dir := []) envOk mixed rfl Try.func86 (by kernel_rfl) (by kernel_rfl) (by kernel_rfl) (by kernel_rfl) (to_vc (by kernel_rfl) h)

/-- loop.example/g00461/laws.markTermS -/
def laws_markTermS_h : Hints := ⟨[(2, ⟨[0, 1, 5], [], [], [], [], [], []⟩)], []⟩
def laws_markTermS_L2 (r : AV) (O : List (Nat × Ob)) (k : Int) (i : Int) (a : List (List Da)) : Prop := CL 34 Try.prog (subC (bodyOf Try.f87) [1, 0, 1, 0, 0]) (kont Try.prog env laws_markTermS_h 34 (bodyOf Try.f87) [1, 0, 1, 0, 0] (vRet env [.tmp 4] (.c (.i .i64)) [(2000, (false))] [2000] r O) (retKE (vRet env [.tmp 4] (.c (.i .i64)) [(2000, (false))] [2000] r O))).1 (kont Try.prog env laws_markTermS_h 34 (bodyOf Try.f87) [1, 0, 1, 0, 0] (vRet env [.tmp 4] (.c (.i .i64)) [(2000, (false))] [2000] r O) (retKE (vRet env [.tmp 4] (.c (.i .i64)) [(2000, (false))] [2000] r O))).2 ⟨[(0, (.one (.ol 2000))), (1, (Z k)), (5, (Z i))], [(2000, (.mt 30 3 a))]⟩
theorem laws_markTermS_L2_of {r : AV} {O : List (Nat × Ob)} {k : Int} {i : Int} {a : List (List Da)} (h : ifB (decide (i < (↑(List.length a) : Int)))
  ((∃ (m : Nat), (i = ((↑m : Int)) ∧ (Do (m < List.length a) ∧ (∃ (m1 : Nat), ((m * (3 : Nat) + (0 : Nat)) = (m1 * (3 : Nat) + (0 : Nat)) ∧ (∃ (n : Int), (∃ (n1 : Int), (∃ (xs : List (List Da)), ((a[m1]?) = some [(.int .i64 n), (.int .i64 n1), (.sl xs)] ∧ (∃ (m2 : Nat), (i = ((↑m2 : Int)) ∧ (Do (m2 < List.length (List.set a m1 ([] ++ [Da.int IntKind.i64 k] ++ [Da.int IntKind.i64 n1, Da.sl xs]))) ∧ (∃ (m3 : Nat), ((m2 * (3 : Nat) + (1 : Nat)) = (m3 * (3 : Nat) + Nat.succ (nat_lit 0)) ∧ (∃ (n2 : Int), (∃ (n3 : Int), (∃ (xs1 : List (List Da)), (((List.set a m1 ([] ++ [Da.int IntKind.i64 k] ++ [Da.int IntKind.i64 n1, Da.sl xs]))[m3]?) = some [(.int .i64 n2), (.int .i64 n3), (.sl xs1)] ∧ (∃ (m4 : Nat), (i = ((↑m4 : Int)) ∧ (Do (m4 < List.length (List.set (List.set a m1 ([] ++ [Da.int IntKind.i64 k] ++ [Da.int IntKind.i64 n1, Da.sl xs])) m3 ([Da.int IntKind.i64 n2] ++ [Da.int IntKind.i64 (IntKind.wrap IntKind.i64 (k + (1 : Int)))] ++ [Da.sl xs1]))) ∧ (∃ (m5 : Nat), ((m4 * (3 : Nat) + (2 : Nat)) = (m5 * (3 : Nat) + Nat.succ (nat_lit 1)) ∧ (∃ (n4 : Int), (∃ (n5 : Int), (∃ (xs2 : List (List Da)), (((List.set (List.set a m1 ([] ++ [Da.int IntKind.i64 k] ++ [Da.int IntKind.i64 n1, Da.sl xs])) m3 ([Da.int IntKind.i64 n2] ++ [Da.int IntKind.i64 (IntKind.wrap IntKind.i64 (k + (1 : Int)))] ++ [Da.sl xs1]))[m5]?) = some [(.int .i64 n4), (.int .i64 n5), (.sl xs2)] ∧ (∀ (a1 : Option Addr), (∀ (l : Nat), (∀ (r1 : Nat), ((a1 = a1 ∧ ((l) = (l) ∧ (r1) = (r1))) ∧ (∃ (n6 : Int), (∃ (n7 : Int), (∃ (xs3 : List (List Da)), (((List.set (List.set a m1 ([] ++ [Da.int IntKind.i64 k] ++ [Da.int IntKind.i64 n1, Da.sl xs])) m3 ([Da.int IntKind.i64 n2] ++ [Da.int IntKind.i64 (IntKind.wrap IntKind.i64 (k + (1 : Int)))] ++ [Da.sl xs1]))[m5]?) = some [(.int .i64 n6), (.int .i64 n7), (.sl xs3)] ∧ (Do (∀ (y : List Da), y ∈ xs3 → List.length y = Prod.fst ((3 : Nat), (40 : Nat), [At.d (Da.int IntKind.i64 (0 : Int)), At.d (Da.int IntKind.i64 (0 : Int)), At.e0])) ∧ (∃ (ys1 : List (List Da)), (∃ (n8 : Int), (XC Try.prog 87 [(.one (.ol 2000)), (Z (IntKind.wrap IntKind.i64 (IntKind.wrap IntKind.i64 (k + (1 : Int)) + (1 : Int))))] [(2000, (.mt 30 3 xs3))] (Z n8) [(2000, (.mt 30 3 ys1))] ∧ laws_markTermS_L2 r O n8 (IntKind.wrap IntKind.i64 (i + (1 : Int))) (List.set (List.set (List.set a m1 ([] ++ [Da.int IntKind.i64 k] ++ [Da.int IntKind.i64 n1, Da.sl xs])) m3 ([Da.int IntKind.i64 n2] ++ [Da.int IntKind.i64 (IntKind.wrap IntKind.i64 (k + (1 : Int)))] ++ [Da.sl xs1])) m5 ([Da.int IntKind.i64 n6, Da.int IntKind.i64 n7] ++ [Da.sl ys1] ++ []))))))))))))))))))))))))))))))))))))))))))
  (((Z k) = r ∧ [(2000, (.mt 30 3 a))] = O))) : laws_markTermS_L2 r O k i a := by
  unfold laws_markTermS_L2
  refine cl_of (E := env) (hs := laws_markTermS_h) envOk mixed ?_
  exact to_vc (by kernel_rfl) h
theorem laws_markTermS_of {k : Int} {o2000 : List (List Da)} {r : AV} {O : List (Nat × Ob)} (h : laws_markTermS_L2 r O k ((0 : Int)) o2000) : XC Try.prog 87 [(.one (.ol 2000)), (Z k)] [(2000, (.mt 30 3 o2000))] r O :=
  xc_of (E := env) (hs := laws_markTermS_h) (c := (bodyOf Try.f87)) (n := 34) (res := [.tmp 4]) (rs := .c (.i .i64)) (ks := [(2000, (false))]) (dir := [2000]) envOk mixed rfl Try.func87 (by kernel_rfl) (by kernel_rfl) (by kernel_rfl) (by kernel_rfl) (to_vc (by kernel_rfl) h)

/-- loop.example/g00461/laws.szLit -/
def laws_szLit_h : Hints := ⟨[], []⟩
theorem laws_szLit_of {a : Bool} {a1 : Int} {a2 : Int} {a3 : List (List Da)} {a4 : Int} {a5 : Int} {a6 : List (List Da)} {left : Int} {r : AV} {O : List (Nat × Ob)} (h : (∃ (n : Int), (XC Try.prog 15 [(.dat [(.int .i64 a1), (.int .i64 a2), (.sl a3)]), (Z left)] [] (Z n) [] ∧ ifB (decide (n < (0 : Int)))
  (((Z ((-1 : Int))) = r ∧ [] = O))
  ((∃ (n1 : Int), (XC Try.prog 15 [(.dat [(.int .i64 a4), (.int .i64 a5), (.sl a6)]), (Z n)] [] (Z n1) [] ∧ ifB (decide (n1 < (0 : Int)))
  (((Z ((-1 : Int))) = r ∧ [] = O))
  (((Z n1) = r ∧ [] = O)))))))) : XC Try.prog 59 [(.dat [(.bool a), (.int .i64 a1), (.int .i64 a2), (.sl a3), (.int .i64 a4), (.int .i64 a5), (.sl a6)]), (Z left)] [] r O :=
  xc_of (E := env) (hs := laws_szLit_h) (c := (bodyOf Try.f59)) (n := 18) (res := [.tmp 4]) (rs := .c (.i .i64)) (ks := []) (dir := []) envOk mixed rfl Try.func59 (by kernel_rfl) (by kernel_rfl) (by kernel_rfl) (by kernel_rfl) (to_vc (by kernel_rfl) h)

/-- loop.example/g00461/laws.toLit -/
def laws_toLit_h : Hints := ⟨[], []⟩
theorem laws_toLit_of {a : Bool} {a1 : Int} {a2 : Int} {a3 : List (List Da)} {a4 : Int} {a5 : Int} {a6 : List (List Da)} {r : AV} {O : List (Nat × Ob)} (h : (∃ (n : Int), (∃ (n1 : Int), (∃ (xs : List (List Da)), (XC Try.prog 17 [(.dat [(.int .i64 a1), (.int .i64 a2), (.sl a3)])] [] (.agg [(.d (.int .i64 n)), (.d (.int .i64 n1)), (.ol 0)]) [(0, (.tr 30 3 xs))] ∧ (∃ (n2 : Int), (∃ (n3 : Int), (∃ (xs1 : List (List Da)), (XC Try.prog 17 [(.dat [(.int .i64 a4), (.int .i64 a5), (.sl a6)])] [] (.agg [(.d (.int .i64 n2)), (.d (.int .i64 n3)), (.ol 0)]) [(0, (.tr 30 3 xs1))] ∧ ((.agg [(.d (.bool a)), (.d (.int .i64 n)), (.d (.int .i64 n1)), (.ol 0), (.d (.int .i64 n2)), (.d (.int .i64 n3)), (.ol 1)]) = r ∧ [(0, (.tr 30 3 xs)), (1, (.tr 30 3 xs1))] = O)))))))))) : XC Try.prog 62 [(.dat [(.bool a), (.int .i64 a1), (.int .i64 a2), (.sl a3), (.int .i64 a4), (.int .i64 a5), (.sl a6)])] [] r O :=
  xc_of (E := env) (hs := laws_toLit_h) (c := (bodyOf Try.f62)) (n := 16) (res := [.cell 2 61]) (rs := .s [.k .b, .k (.i .i64), .k (.i .i64), .o 30 3, .k (.i .i64), .k (.i .i64), .o 30 3]) (ks := []) (dir := []) envOk mixed rfl Try.func62 (by kernel_rfl) (by kernel_rfl) (by kernel_rfl) (by kernel_rfl) (to_vc (by kernel_rfl) h)

/-- loop.example/g00461/spec.l3Copy -/
def spec_l3Copy_h : Hints := ⟨[(3, ⟨[1, 2, 3, 4], [], [], [(3, (2, (30, 3)))], [], [3], []⟩)], []⟩
def spec_l3Copy_L3 (r : AV) (O : List (Nat × Ob)) (i : Int) (t : Int) (t1 : Int) (t2 : List (List Da)) (s2 : Int) (s21 : Int) (out : Int) (out1 : Int) (out2 : List (List Da)) : Prop := CL 29 Try.prog (subC (bodyOf Try.f152) [1, 1, 0, 1, 0, 0]) (kont Try.prog env spec_l3Copy_h 29 (bodyOf Try.f152) [1, 1, 0, 1, 0, 0] (vRet env [.cell 2 30] (.d [(.i .i64), (.i .i64), .l]) [] [] r O) (retKE (vRet env [.cell 2 30] (.d [(.i .i64), (.i .i64), .l]) [] [] r O))).1 (kont Try.prog env spec_l3Copy_h 29 (bodyOf Try.f152) [1, 1, 0, 1, 0, 0] (vRet env [.cell 2 30] (.d [(.i .i64), (.i .i64), .l]) [] [] r O) (retKE (vRet env [.cell 2 30] (.d [(.i .i64), (.i .i64), .l]) [] [] r O))).2 ⟨[(1, (.one (.op 1900 0))), (2, (.one (.op 1901 0))), (3, (.one (.op 1902 0))), (4, (Z i))], [(1900, (.var [(.d (.int .i64 t)), (.d (.int .i64 t1)), (.d (.sl t2))])), (1901, (.var [(.d (.int .i64 s2)), (.d (.int .i64 s21)), .e0])), (1902, (.var [(.d (.int .i64 out)), (.d (.int .i64 out1)), (.ol 1903)])), (1903, (.lst 30 3 out2))]⟩
theorem spec_l3Copy_L3_of {r : AV} {O : List (Nat × Ob)} {i : Int} {t : Int} {t1 : Int} {t2 : List (List Da)} {s2 : Int} {s21 : Int} {out : Int} {out1 : Int} {out2 : List (List Da)} (h : ifB (decide (i < (↑(List.length t2) : Int)))
  ((∃ (m : Nat), (i = ((↑m : Int)) ∧ (∃ (n : Int), (∃ (n1 : Int), (∃ (xs : List (List Da)), ((t2[m]?) = some [(.int .i64 n), (.int .i64 n1), (.sl xs)] ∧ (∃ (n2 : Int), (∃ (n3 : Int), (∃ (xs1 : List (List Da)), (XC Try.prog 152 [(.dat [(.int .i64 n), (.int .i64 n1), (.sl xs)])] [] (.dat [(.int .i64 n2), (.int .i64 n3), (.sl xs1)]) [] ∧ (Do ((List.length out2 + List.length [[Da.int IntKind.i64 n2, Da.int IntKind.i64 n3, Da.sl xs1]]) * (40 : Nat) ≤ (140737488355328 : Nat)) ∧ spec_l3Copy_L3 r O (IntKind.wrap IntKind.i64 (i + (1 : Int))) t t1 t2 s2 s21 out out1 (out2 ++ [[Da.int IntKind.i64 n2, Da.int IntKind.i64 n3, Da.sl xs1]])))))))))))))
  (((.dat [(.int .i64 out), (.int .i64 out1), (.sl out2)]) = r ∧ [] = O))) : spec_l3Copy_L3 r O i t t1 t2 s2 s21 out out1 out2 := by
  unfold spec_l3Copy_L3
  refine cl_of (E := env) (hs := spec_l3Copy_h) envOk mixed ?_
  exact to_vc (by kernel_rfl) h
theorem spec_l3Copy_of {t : Int} {t1 : Int} {t2 : List (List Da)} {r : AV} {O : List (Nat × Ob)} (h : spec_l3Copy_L3 r O ((0 : Int)) t t1 t2 ((0 : Int)) ((0 : Int)) t t1 []) : XC Try.prog 152 [(.dat [(.int .i64 t), (.int .i64 t1), (.sl t2)])] [] r O :=
  xc_of (E := env) (hs := spec_l3Copy_h) (c := (bodyOf Try.f152)) (n := 29) (res := [.cell 2 30]) (rs := .d [(.i .i64), (.i .i64), .l]) (ks := []) (dir := []) envOk mixed rfl Try.func152 (by kernel_rfl) (by kernel_rfl) (by kernel_rfl) (by kernel_rfl) (to_vc (by kernel_rfl) h)

/-- loop.example/g00461/impl.copyLit -/
def impl_copyLit_h : Hints := ⟨[], []⟩
theorem impl_copyLit_of {l : Bool} {l1 : Int} {l2 : Int} {l3 : List (List Da)} {l4 : Int} {l5 : Int} {l6 : List (List Da)} {r : AV} {O : List (Nat × Ob)} (h : (∃ (n : Int), (∃ (n1 : Int), (∃ (xs : List (List Da)), (XC Try.prog 117 [(.dat [(.int .i64 l1), (.int .i64 l2), (.sl l3)])] [] (.agg [(.d (.int .i64 n)), (.d (.int .i64 n1)), (.ol 0)]) [(0, (.tr 30 3 xs))] ∧ (∃ (n2 : Int), (∃ (n3 : Int), (∃ (xs1 : List (List Da)), (XC Try.prog 117 [(.dat [(.int .i64 l4), (.int .i64 l5), (.sl l6)])] [] (.agg [(.d (.int .i64 n2)), (.d (.int .i64 n3)), (.ol 0)]) [(0, (.tr 30 3 xs1))] ∧ ((.agg [(.d (.bool l)), (.d (.int .i64 n)), (.d (.int .i64 n1)), (.ol 0), (.d (.int .i64 n2)), (.d (.int .i64 n3)), (.ol 1)]) = r ∧ [(0, (.tr 30 3 xs)), (1, (.tr 30 3 xs1))] = O)))))))))) : XC Try.prog 153 [(.dat [(.bool l), (.int .i64 l1), (.int .i64 l2), (.sl l3), (.int .i64 l4), (.int .i64 l5), (.sl l6)])] [] r O :=
  xc_of (E := env) (hs := impl_copyLit_h) (c := (bodyOf Try.f153)) (n := 12) (res := [.cell 2 61]) (rs := .s [.k .b, .k (.i .i64), .k (.i .i64), .o 30 3, .k (.i .i64), .k (.i .i64), .o 30 3]) (ks := []) (dir := []) envOk mixed rfl Try.func153 (by kernel_rfl) (by kernel_rfl) (by kernel_rfl) (by kernel_rfl) (to_vc (by kernel_rfl) h)

/-- slices.IndexFunc[[]loop.example/g00461/impl.Lit,loop.example/g00461/impl.Lit] -/
def slices_IndexFunc_Lit_impl_Less_1_h : Hints := ⟨[(2, ⟨[0, 1, 7, 8], [], [], [], [], [], []⟩)], []⟩
def slices_IndexFunc_Lit_impl_Less_1_L2 (r : AV) (O : List (Nat × Ob)) (s : List (List Da)) (s7 : Int) (s8 : Int) : Prop := CL 19 Try.prog (subC (bodyOf Try.f154) [1, 0, 1, 0, 0]) (kont Try.prog env slices_IndexFunc_Lit_impl_Less_1_h 19 (bodyOf Try.f154) [1, 0, 1, 0, 0] (vRet env [.tmp 4] (.c (.i .i64)) [] [] r O) (retKE (vRet env [.tmp 4] (.c (.i .i64)) [] [] r O))).1 (kont Try.prog env slices_IndexFunc_Lit_impl_Less_1_h 19 (bodyOf Try.f154) [1, 0, 1, 0, 0] (vRet env [.tmp 4] (.c (.i .i64)) [] [] r O) (retKE (vRet env [.tmp 4] (.c (.i .i64)) [] [] r O))).2 ⟨[(0, (L s)), (1, (.one (.d (.fn 94)))), (7, (Z s7)), (8, (Z s8))], []⟩
theorem slices_IndexFunc_Lit_impl_Less_1_L2_of {r : AV} {O : List (Nat × Ob)} {s : List (List Da)} {s7 : Int} {s8 : Int} (h : ifB (decide (s8 < s7))
  ((∃ (m : Nat), (s8 = ((↑m : Int)) ∧ (∃ (b : Bool), (∃ (n : Int), (∃ (n1 : Int), (∃ (xs : List (List Da)), (∃ (n2 : Int), (∃ (n3 : Int), (∃ (xs1 : List (List Da)), ((s[m]?) = some [(.bool b), (.int .i64 n), (.int .i64 n1), (.sl xs), (.int .i64 n2), (.int .i64 n3), (.sl xs1)] ∧ (∃ (b1 : Bool), (XC Try.prog 94 [(.dat [(.bool b), (.int .i64 n), (.int .i64 n1), (.sl xs), (.int .i64 n2), (.int .i64 n3), (.sl xs1)])] [] (B b1) [] ∧ ifB b1
  (((Z s8) = r ∧ [] = O))
  (slices_IndexFunc_Lit_impl_Less_1_L2 r O s s7 (IntKind.wrap IntKind.i64 (s8 + (1 : Int)))))))))))))))))
  (((Z ((-1 : Int))) = r ∧ [] = O))) : slices_IndexFunc_Lit_impl_Less_1_L2 r O s s7 s8 := by
  unfold slices_IndexFunc_Lit_impl_Less_1_L2
  refine cl_of (E := env) (hs := slices_IndexFunc_Lit_impl_Less_1_h) envOk mixed ?_
  exact to_vc (by kernel_rfl) h
theorem slices_IndexFunc_Lit_impl_Less_1_of {s : List (List Da)} {r : AV} {O : List (Nat × Ob)} (h : slices_IndexFunc_Lit_impl_Less_1_L2 r O s ((↑(List.length s) : Int)) ((0 : Int))) : XC Try.prog 154 [(L s), (.one (.d (.fn 94)))] [] r O :=
  xc_of (E := env) (hs := slices_IndexFunc_Lit_impl_Less_1_h) (c := (bodyOf Try.f154)) (n := 19) (res := [.tmp 4]) (rs := .c (.i .i64)) (ks := []) (dir := []) envOk mixed rfl Try.func154 (by kernel_rfl) (by kernel_rfl) (by kernel_rfl) (by kernel_rfl) (to_vc (by kernel_rfl) h)

/-- loop.example/g00461/laws.eqLit -/
def laws_eqLit_h : Hints := ⟨[], []⟩
theorem laws_eqLit_of {a : Bool} {a1 : Int} {a2 : Int} {a3 : List (List Da)} {a4 : Int} {a5 : Int} {a6 : List (List Da)} {b : Bool} {b1 : Int} {b2 : Int} {b3 : List (List Da)} {b4 : Int} {b5 : Int} {b6 : List (List Da)} {r : AV} {O : List (Nat × Ob)} (h : ifB (decide (a ≠ b))
  (((B (false)) = r ∧ [] = O))
  ((∃ (b7 : Bool), (XC Try.prog 20 [(.dat [(.int .i64 a1), (.int .i64 a2), (.sl a3)]), (.dat [(.int .i64 b1), (.int .i64 b2), (.sl b3)])] [] (B b7) [] ∧ ifB (!b7)
  (((B (false)) = r ∧ [] = O))
  ((∃ (b8 : Bool), (XC Try.prog 20 [(.dat [(.int .i64 a4), (.int .i64 a5), (.sl a6)]), (.dat [(.int .i64 b4), (.int .i64 b5), (.sl b6)])] [] (B b8) [] ∧ ifB (!b8)
  (((B (false)) = r ∧ [] = O))
  (((B (true)) = r ∧ [] = O))))))))) : XC Try.prog 42 [(.dat [(.bool a), (.int .i64 a1), (.int .i64 a2), (.sl a3), (.int .i64 a4), (.int .i64 a5), (.sl a6)]), (.dat [(.bool b), (.int .i64 b1), (.int .i64 b2), (.sl b3), (.int .i64 b4), (.int .i64 b5), (.sl b6)])] [] r O :=
  xc_of (E := env) (hs := laws_eqLit_h) (c := (bodyOf Try.f42)) (n := 22) (res := [.tmp 4]) (rs := .c .b) (ks := []) (dir := []) envOk mixed rfl Try.func42 (by kernel_rfl) (by kernel_rfl) (by kernel_rfl) (by kernel_rfl) (to_vc (by kernel_rfl) h)

/-- loop.example/g00461/laws.heldTermS -/
def laws_heldTermS_h : Hints := ⟨[(2, ⟨[0, 1, 5], [], [], [], [], [], []⟩)], []⟩
def laws_heldTermS_L2 (r : AV) (O : List (Nat × Ob)) (a : List (List Da)) (k : Int) (i : Int) : Prop := CL 40 Try.prog (subC (bodyOf Try.f111) [1, 0, 1, 0, 0]) (kont Try.prog env laws_heldTermS_h 40 (bodyOf Try.f111) [1, 0, 1, 0, 0] (vRet env [.tmp 4] (.c (.i .i64)) [] [] r O) (retKE (vRet env [.tmp 4] (.c (.i .i64)) [] [] r O))).1 (kont Try.prog env laws_heldTermS_h 40 (bodyOf Try.f111) [1, 0, 1, 0, 0] (vRet env [.tmp 4] (.c (.i .i64)) [] [] r O) (retKE (vRet env [.tmp 4] (.c (.i .i64)) [] [] r O))).2 ⟨[(0, (L a)), (1, (Z k)), (5, (Z i))], []⟩
theorem laws_heldTermS_L2_of {r : AV} {O : List (Nat × Ob)} {a : List (List Da)} {k : Int} {i : Int} (h : ifB (decide (i < (↑(List.length a) : Int)))
  ((∃ (m : Nat), (i = ((↑m : Int)) ∧ (∃ (n : Int), (∃ (n1 : Int), (∃ (xs : List (List Da)), ((a[m]?) = some [(.int .i64 n), (.int .i64 n1), (.sl xs)] ∧ ifB (decide (n ≠ k))
  (((Z ((-1 : Int))) = r ∧ [] = O))
  ((∃ (m1 : Nat), (i = ((↑m1 : Int)) ∧ (∃ (n2 : Int), (∃ (n3 : Int), (∃ (xs1 : List (List Da)), ((a[m1]?) = some [(.int .i64 n2), (.int .i64 n3), (.sl xs1)] ∧ ifB (decide (n3 ≠ IntKind.wrap IntKind.i64 (k + (1 : Int))))
  (((Z ((-1 : Int))) = r ∧ [] = O))
  ((∃ (m2 : Nat), (i = ((↑m2 : Int)) ∧ (∃ (n4 : Int), (∃ (n5 : Int), (∃ (xs2 : List (List Da)), ((a[m2]?) = some [(.int .i64 n4), (.int .i64 n5), (.sl xs2)] ∧ (∃ (n6 : Int), (XC Try.prog 111 [(L xs2), (Z (IntKind.wrap IntKind.i64 (IntKind.wrap IntKind.i64 (k + (1 : Int)) + (1 : Int))))] [] (Z n6) [] ∧ ifB (decide (n6 < (0 : Int)))
  (((Z ((-1 : Int))) = r ∧ [] = O))
  (laws_heldTermS_L2 r O a n6 (IntKind.wrap IntKind.i64 (i + (1 : Int)))))))))))))))))))))))))))
  (((Z k) = r ∧ [] = O))) : laws_heldTermS_L2 r O a k i := by
  unfold laws_heldTermS_L2
  refine cl_of (E := env) (hs := laws_heldTermS_h) envOk mixed ?_
  exact to_vc (by kernel_rfl) h
theorem laws_heldTermS_of {a : List (List Da)} {k : Int} {r : AV} {O : List (Nat × Ob)} (h : laws_heldTermS_L2 r O a k ((0 : Int))) : XC Try.prog 111 [(L a), (Z k)] [] r O :=
  xc_of (E := env) (hs := laws_heldTermS_h) (c := (bodyOf Try.f111)) (n := 40) (res := [.tmp 4]) (rs := .c (.i .i64)) (ks := []) (dir := []) envOk mixed rfl Try.func111 (by kernel_rfl) (by kernel_rfl) (by kernel_rfl) (by kernel_rfl) (to_vc (by kernel_rfl) h)

/-- loop.example/g00461/impl.each -/
def impl_each_impl_VarsOf_1_h : Hints := ⟨[(3, ⟨[1, 10, 11, 12], [], [], [], [], [], []⟩)], []⟩
def impl_each_impl_VarsOf_1_L3 (r : AV) (O : List (Nat × Ob)) (s10 : List (List Da)) (s11 : Int) (s12 : Int) (o2000 : List (List Da)) : Prop := CL 20 Try.prog (subC (bodyOf Try.f157) [1, 1, 1, 0, 0]) (kont Try.prog env impl_each_impl_VarsOf_1_h 20 (bodyOf Try.f157) [1, 1, 1, 0, 0] (vRet env [] (.t []) [(2000, (true)), (2001, (false))] [2000] r O) (retKE (vRet env [] (.t []) [(2000, (true)), (2001, (false))] [2000] r O))).1 (kont Try.prog env impl_each_impl_VarsOf_1_h 20 (bodyOf Try.f157) [1, 1, 1, 0, 0] (vRet env [] (.t []) [(2000, (true)), (2001, (false))] [2000] r O) (retKE (vRet env [] (.t []) [(2000, (true)), (2001, (false))] [2000] r O))).2 ⟨[(1, (.one (.clo 158 [(2000, 0)]))), (10, (L s10)), (11, (Z s11)), (12, (Z s12))], [(2000, (.var [(.ol 1900)])), (1900, (.tr 3 1 o2000))]⟩
theorem impl_each_impl_VarsOf_1_L3_of {r : AV} {O : List (Nat × Ob)} {s10 : List (List Da)} {s11 : Int} {s12 : Int} {o2000 : List (List Da)} (h : ifB (decide (s12 < s11))
  ((∃ (m : Nat), (s12 = ((↑m : Int)) ∧ (∃ (n : Int), (∃ (n1 : Int), (∃ (xs : List (List Da)), ((s10[m]?) = some [(.int .i64 n), (.int .i64 n1), (.sl xs)] ∧ (∃ (xs1 : List (List Da)), (XC Try.prog 157 [(.dat [(.int .i64 n), (.int .i64 n1), (.sl xs)]), (.one (.clo 158 [(2000, 0)]))] [(2000, (.var [(.ol 2001)])), (2001, (.tr 3 1 o2000))] (.tup []) [(2000, (.var [(.ol 0)])), (0, (.tr 3 1 xs1))] ∧ impl_each_impl_VarsOf_1_L3 r O s10 s11 (IntKind.wrap IntKind.i64 (s12 + (1 : Int))) xs1)))))))))
  (((.tup []) = r ∧ [(2000, (.var [(.ol 0)])), (0, (.tr 3 1 o2000))] = O))) : impl_each_impl_VarsOf_1_L3 r O s10 s11 s12 o2000 := by
  unfold impl_each_impl_VarsOf_1_L3
  refine cl_of (E := env) (hs := impl_each_impl_VarsOf_1_h) envOk mixed ?_
  exact to_vc (by kernel_rfl) h
theorem impl_each_impl_VarsOf_1_of {t : Int} {t1 : Int} {t2 : List (List Da)} {o2000 : List (List Da)} {r : AV} {O : List (Nat × Ob)} (h : (∃ (xs : List (List Da)), (XC Try.prog 158 [(.dat [(.int .i64 t), (.int .i64 t1), (.sl t2)]), (.one (.op 2000 0))] [(2000, (.var [(.ol 2001)])), (2001, (.tr 3 1 o2000))] (.tup []) [(2000, (.var [(.ol 0)])), (0, (.tr 3 1 xs))] ∧ impl_each_impl_VarsOf_1_L3 r O t2 ((↑(List.length t2) : Int)) ((0 : Int)) xs))) : XC Try.prog 157 [(.dat [(.int .i64 t), (.int .i64 t1), (.sl t2)]), (.one (.clo 158 [(2000, 0)]))] [(2000, (.var [(.ol 2001)])), (2001, (.tr 3 1 o2000))] r O :=
  xc_of (E := env) (hs := impl_each_impl_VarsOf_1_h) (c := (bodyOf Try.f157)) (n := 20) (res := []) (rs := .t []) (ks := [(2000, (true)), (2001, (false))]) (dir := [2000]) envOk mixed rfl Try.func157 (by kernel_rfl) (by kernel_rfl) (by kernel_rfl) (by kernel_rfl) (to_vc (by kernel_rfl) h)

/-- slices.Grow[[]int,int] -/
def slices_Grow_int_h : Hints := ⟨[], []⟩
theorem slices_Grow_int_of {n : Int} {r : AV} {O : List (Nat × Ob)} (h : ifB (decide (n < (0 : Int)))
  (Stop 2 0)
  (ifB (decide ((0 : Int) < IntKind.wrap IntKind.i64 (n - IntKind.wrap IntKind.i64 ((0 : Int) - (0 : Int)))))
  ((∃ (n1 : Nat), (((0 : Int)) = ((↑n1 : Int)) ∧ (Do ((0 : Nat) = (0 : Nat) ∧ n1 = (0 : Nat)) ∧ (∃ (q : Nat), ((IntKind.wrap IntKind.i64 (n - IntKind.wrap IntKind.i64 ((0 : Int) - (0 : Int)))) = ((↑q : Int)) ∧ (Do (List.length (List.replicate q [Da.int IntKind.i64 (0 : Int)]) * (8 : Nat) ≤ (140737488355328 : Nat)) ∧ (∃ (n2 : Nat), (((0 : Int)) = ((↑n2 : Int)) ∧ (Do ((0 : Nat) ≤ n2 ∧ n2 ≤ List.length (List.replicate q [Da.int IntKind.i64 (0 : Int)])) ∧ (Do (n2 - (0 : Nat) ≤ List.length (List.replicate q [Da.int IntKind.i64 (0 : Int)])) ∧ ((.one (.ol 0)) = r ∧ [(0, (.lst 3 1 (List.take (n2 - (0 : Nat)) (List.replicate q [Da.int IntKind.i64 (0 : Int)]))))] = O))))))))))))
  (((.one (.ol 0)) = r ∧ [(0, (.tr 3 1 []))] = O)))) : XC Try.prog 156 [(.one .e0), (Z n)] [] r O :=
  xc_tk (E := env) (hs := slices_Grow_int_h) (c := (bodyOf Try.f156)) (n := 27) (res := [.tmp 4]) (rs := .o 3 1) (ks := []) (dir := []) envOk mixed [] [] (by kernel_rfl) rfl Try.func156 (by kernel_rfl) (by kernel_rfl) (by kernel_rfl) (by kernel_rfl) (to_vc (by kernel_rfl) h)

/-- slices.Clone[[]int,int] -/
def slices_Clone_int_h : Hints := ⟨[], []⟩
theorem slices_Clone_int_of {s : List (List Da)} {r : AV} {O : List (Nat × Ob)} (h : (((List.flatten s = []) → ((.one (.ol 0)) = r ∧ [(0, (.tr 3 1 []))] = O)) ∧ (Do (∀ (y : List Da), y ∈ s → List.length y = Prod.fst ((1 : Nat), (8 : Nat), [At.d (Da.int IntKind.i64 (0 : Int))])) ∧ (Do (flatRows s) ∧ (Do ((List.length ([] : List (List Da)) + List.length s) * (8 : Nat) ≤ (140737488355328 : Nat)) ∧ ((.one (.ol 0)) = r ∧ [(0, (.tr 3 1 ([] ++ s)))] = O)))))) : XC Try.prog 159 [(L s)] [] r O :=
  xc_of (E := env) (hs := slices_Clone_int_h) (c := (bodyOf Try.f159)) (n := 8) (res := [.tmp 2]) (rs := .o 3 1) (ks := []) (dir := []) envOk mixed rfl Try.func159 (by kernel_rfl) (by kernel_rfl) (by kernel_rfl) (by kernel_rfl) (to_vc (by kernel_rfl) h)

/-- slices.IndexFunc[[]int,int] -/
def slices_IndexFunc_int_impl_NumAdd_1_h : Hints := ⟨[(2, ⟨[0, 1, 7, 8], [], [], [], [], [], []⟩)], []⟩
def slices_IndexFunc_int_impl_NumAdd_1_L2 (r : AV) (O : List (Nat × Ob)) (s : List (List Da)) (s7 : Int) (s8 : Int) (o2000 : Int) : Prop := CL 19 Try.prog (subC (bodyOf Try.f160) [1, 0, 1, 0, 0]) (kont Try.prog env slices_IndexFunc_int_impl_NumAdd_1_h 19 (bodyOf Try.f160) [1, 0, 1, 0, 0] (vRet env [.tmp 4] (.c (.i .i64)) [(2000, (true))] [2000] r O) (retKE (vRet env [.tmp 4] (.c (.i .i64)) [(2000, (true))] [2000] r O))).1 (kont Try.prog env slices_IndexFunc_int_impl_NumAdd_1_h 19 (bodyOf Try.f160) [1, 0, 1, 0, 0] (vRet env [.tmp 4] (.c (.i .i64)) [(2000, (true))] [2000] r O) (retKE (vRet env [.tmp 4] (.c (.i .i64)) [(2000, (true))] [2000] r O))).2 ⟨[(0, (L s)), (1, (.one (.clo 161 [(2000, 0)]))), (7, (Z s7)), (8, (Z s8))], [(2000, (.var [(.d (.int .i64 o2000))]))]⟩
theorem slices_IndexFunc_int_impl_NumAdd_1_L2_of {r : AV} {O : List (Nat × Ob)} {s : List (List Da)} {s7 : Int} {s8 : Int} {o2000 : Int} (h : ifB (decide (s8 < s7))
  ((∃ (m : Nat), (s8 = ((↑m : Int)) ∧ (∃ (n : Int), ((s[m]?) = some [(.int .i64 n)] ∧ (∃ (b : Bool), (∃ (m1 : Int), (XC Try.prog 161 [(Z n), (.one (.op 2000 0))] [(2000, (.var [(.d (.int .i64 o2000))]))] (B b) [(2000, (.var [(.d (.int .i64 m1))]))] ∧ ifB b
  (((Z s8) = r ∧ [(2000, (.var [(.d (.int .i64 m1))]))] = O))
  (slices_IndexFunc_int_impl_NumAdd_1_L2 r O s s7 (IntKind.wrap IntKind.i64 (s8 + (1 : Int))) m1)))))))))
  (((Z ((-1 : Int))) = r ∧ [(2000, (.var [(.d (.int .i64 o2000))]))] = O))) : slices_IndexFunc_int_impl_NumAdd_1_L2 r O s s7 s8 o2000 := by
  unfold slices_IndexFunc_int_impl_NumAdd_1_L2
  refine cl_of (E := env) (hs := slices_IndexFunc_int_impl_NumAdd_1_h) envOk mixed ?_
  exact to_vc (by kernel_rfl) h
theorem slices_IndexFunc_int_impl_NumAdd_1_of {s : List (List Da)} {o2000 : Int} {r : AV} {O : List (Nat × Ob)} (h : slices_IndexFunc_int_impl_NumAdd_1_L2 r O s ((↑(List.length s) : Int)) ((0 : Int)) o2000) : XC Try.prog 160 [(L s), (.one (.clo 161 [(2000, 0)]))] [(2000, (.var [(.d (.int .i64 o2000))]))] r O :=
  xc_of (E := env) (hs := slices_IndexFunc_int_impl_NumAdd_1_h) (c := (bodyOf Try.f160)) (n := 19) (res := [.tmp 4]) (rs := .c (.i .i64)) (ks := [(2000, (true))]) (dir := [2000]) envOk mixed rfl Try.func160 (by kernel_rfl) (by kernel_rfl) (by kernel_rfl) (by kernel_rfl) (to_vc (by kernel_rfl) h)

/-- slices.Insert[[]int,int] -/
def slices_Insert_int_h : Hints := ⟨[], []⟩
theorem slices_Insert_int_of {p : Int} {o2000 : List (List Da)} {o2001 : List (List Da)} {r : AV} {O : List (Nat × Ob)} (h : (∀ (c : Nat), ((List.length o2000 ≤ c) → ((c ≤ maxLen) → (∃ (n : Nat), (p = ((↑n : Int)) ∧ (Do (n ≤ List.length o2000 ∧ (List.length o2000 ≤ List.length o2000 ∨ (0 : Nat) + List.length o2000 ≤ c)) ∧ ifB (decide ((↑(List.length o2001) : Int) = (0 : Int)))
  ((Do (List.length o2000 ≤ List.length o2000) ∧ ((.one (.ol 0)) = r ∧ [(2001, (.lst 3 1 o2001)), (0, (.lst 3 1 (List.take (List.length o2000) o2000)))] = O)))
  (ifB (decide (p = (↑(List.length o2000) : Int)))
  ((Do ((0 : Nat) + List.length o2000 ≤ List.length o2000 ∧ ((0 : Nat) + List.length o2000 + List.length o2001) * (8 : Nat) ≤ (140737488355328 : Nat)) ∧ ifB (decide ((0 : Nat) + List.length o2000 + List.length o2001 ≤ c))
  ((Do (List.length o2000 + List.length o2001 ≤ List.length (List.take ((0 : Nat) + List.length o2000) o2000 ++ o2001 ++ List.drop ((0 : Nat) + List.length o2000 + List.length o2001) o2000)) ∧ ((.one (.ol 0)) = r ∧ [(2001, (.lst 3 1 o2001)), (0, (.lst 3 1 (List.take (List.length o2000 + List.length o2001) (List.take ((0 : Nat) + List.length o2000) o2000 ++ o2001 ++ List.drop ((0 : Nat) + List.length o2000 + List.length o2001) o2000))))] = O)))
  (((.one (.ol 0)) = r ∧ [(2001, (.lst 3 1 o2001)), (0, (.lst 3 1 (List.take (List.length o2000) (List.drop (0 : Nat) o2000) ++ o2001)))] = O))))
  (ifB (decide ((↑(c - (0 : Nat)) : Int) < IntKind.wrap IntKind.i64 ((↑(List.length o2000) : Int) + (↑(List.length o2001) : Int))))
  ((∃ (n1 : Nat), (p = ((↑n1 : Int)) ∧ (Do ((0 : Nat) ≤ n1 ∧ (n1 ≤ List.length o2000 ∨ (0 : Nat) + n1 ≤ c)) ∧ (∃ (q : Nat), ((IntKind.wrap IntKind.i64 (IntKind.wrap IntKind.i64 ((↑(List.length o2000) : Int) + (↑(List.length o2001) : Int)) - p)) = ((↑q : Int)) ∧ (Do ((0 : Nat) + (0 : Nat) + (n1 - (0 : Nat)) ≤ List.length o2000 ∧ ((0 : Nat) + (0 : Nat) + (n1 - (0 : Nat)) + List.length (List.replicate q [Da.int IntKind.i64 (0 : Int)])) * (8 : Nat) ≤ (140737488355328 : Nat)) ∧ ifB (decide ((0 : Nat) + (0 : Nat) + (n1 - (0 : Nat)) + List.length (List.replicate q [Da.int IntKind.i64 (0 : Int)]) ≤ c))
  ((∃ (n2 : Nat), (p = ((↑n2 : Int)) ∧ (Do (n2 ≤ n1 - (0 : Nat) + List.length (List.replicate q [Da.int IntKind.i64 (0 : Int)]) ∧ (n1 - (0 : Nat) + List.length (List.replicate q [Da.int IntKind.i64 (0 : Int)]) ≤ n1 - (0 : Nat) + List.length (List.replicate q [Da.int IntKind.i64 (0 : Int)]) ∨ (0 : Nat) + (0 : Nat) + (n1 - (0 : Nat) + List.length (List.replicate q [Da.int IntKind.i64 (0 : Int)])) ≤ c)) ∧ (Do ((0 : Nat) + (0 : Nat) + n2 ≤ List.length (List.take ((0 : Nat) + (0 : Nat) + (n1 - (0 : Nat))) o2000 ++ List.replicate q [Da.int IntKind.i64 (0 : Int)] ++ List.drop ((0 : Nat) + (0 : Nat) + (n1 - (0 : Nat)) + List.length (List.replicate q [Da.int IntKind.i64 (0 : Int)])) o2000) ∧ (0 : Nat) + (0 : Nat) + n2 + min (List.length o2001) (n1 - (0 : Nat) + List.length (List.replicate q [Da.int IntKind.i64 (0 : Int)]) - n2) ≤ (281474976710656 : Nat)) ∧ (∃ (n3 : Nat), ((IntKind.wrap IntKind.i64 (p + (↑(List.length o2001) : Int))) = ((↑n3 : Int)) ∧ (Do (n3 ≤ n1 - (0 : Nat) + List.length (List.replicate q [Da.int IntKind.i64 (0 : Int)]) ∧ (n1 - (0 : Nat) + List.length (List.replicate q [Da.int IntKind.i64 (0 : Int)]) ≤ n1 - (0 : Nat) + List.length (List.replicate q [Da.int IntKind.i64 (0 : Int)]) ∨ (0 : Nat) + (0 : Nat) + (n1 - (0 : Nat) + List.length (List.replicate q [Da.int IntKind.i64 (0 : Int)])) ≤ c)) ∧ (∃ (n4 : Nat), (p = ((↑n4 : Int)) ∧ (Do (n4 ≤ List.length o2000 ∧ (List.length o2000 ≤ List.length o2000 ∨ (0 : Nat) + List.length o2000 ≤ c)) ∧ (Do ((0 : Nat) + n4 + min (List.length o2000 - n4) (n1 - (0 : Nat) + List.length (List.replicate q [Da.int IntKind.i64 (0 : Int)]) - n3) ≤ List.length (List.take ((0 : Nat) + (0 : Nat) + n2) (List.take ((0 : Nat) + (0 : Nat) + (n1 - (0 : Nat))) o2000 ++ List.replicate q [Da.int IntKind.i64 (0 : Int)] ++ List.drop ((0 : Nat) + (0 : Nat) + (n1 - (0 : Nat)) + List.length (List.replicate q [Da.int IntKind.i64 (0 : Int)])) o2000) ++ List.take (min (List.length o2001) (n1 - (0 : Nat) + List.length (List.replicate q [Da.int IntKind.i64 (0 : Int)]) - n2)) o2001 ++ List.drop ((0 : Nat) + (0 : Nat) + n2 + min (List.length o2001) (n1 - (0 : Nat) + List.length (List.replicate q [Da.int IntKind.i64 (0 : Int)]) - n2)) (List.take ((0 : Nat) + (0 : Nat) + (n1 - (0 : Nat))) o2000 ++ List.replicate q [Da.int IntKind.i64 (0 : Int)] ++ List.drop ((0 : Nat) + (0 : Nat) + (n1 - (0 : Nat)) + List.length (List.replicate q [Da.int IntKind.i64 (0 : Int)])) o2000))) ∧ (Do ((0 : Nat) + (0 : Nat) + n3 ≤ List.length (List.take ((0 : Nat) + (0 : Nat) + n2) (List.take ((0 : Nat) + (0 : Nat) + (n1 - (0 : Nat))) o2000 ++ List.replicate q [Da.int IntKind.i64 (0 : Int)] ++ List.drop ((0 : Nat) + (0 : Nat) + (n1 - (0 : Nat)) + List.length (List.replicate q [Da.int IntKind.i64 (0 : Int)])) o2000) ++ List.take (min (List.length o2001) (n1 - (0 : Nat) + List.length (List.replicate q [Da.int IntKind.i64 (0 : Int)]) - n2)) o2001 ++ List.drop ((0 : Nat) + (0 : Nat) + n2 + min (List.length o2001) (n1 - (0 : Nat) + List.length (List.replicate q [Da.int IntKind.i64 (0 : Int)]) - n2)) (List.take ((0 : Nat) + (0 : Nat) + (n1 - (0 : Nat))) o2000 ++ List.replicate q [Da.int IntKind.i64 (0 : Int)] ++ List.drop ((0 : Nat) + (0 : Nat) + (n1 - (0 : Nat)) + List.length (List.replicate q [Da.int IntKind.i64 (0 : Int)])) o2000)) ∧ (0 : Nat) + (0 : Nat) + n3 + min (List.length o2000 - n4) (n1 - (0 : Nat) + List.length (List.replicate q [Da.int IntKind.i64 (0 : Int)]) - n3) ≤ (281474976710656 : Nat)) ∧ (Do (n1 - (0 : Nat) + List.length (List.replicate q [Da.int IntKind.i64 (0 : Int)]) ≤ List.length (List.take ((0 : Nat) + (0 : Nat) + n3) (List.take ((0 : Nat) + (0 : Nat) + n2) (List.take ((0 : Nat) + (0 : Nat) + (n1 - (0 : Nat))) o2000 ++ List.replicate q [Da.int IntKind.i64 (0 : Int)] ++ List.drop ((0 : Nat) + (0 : Nat) + (n1 - (0 : Nat)) + List.length (List.replicate q [Da.int IntKind.i64 (0 : Int)])) o2000) ++ List.take (min (List.length o2001) (n1 - (0 : Nat) + List.length (List.replicate q [Da.int IntKind.i64 (0 : Int)]) - n2)) o2001 ++ List.drop ((0 : Nat) + (0 : Nat) + n2 + min (List.length o2001) (n1 - (0 : Nat) + List.length (List.replicate q [Da.int IntKind.i64 (0 : Int)]) - n2)) (List.take ((0 : Nat) + (0 : Nat) + (n1 - (0 : Nat))) o2000 ++ List.replicate q [Da.int IntKind.i64 (0 : Int)] ++ List.drop ((0 : Nat) + (0 : Nat) + (n1 - (0 : Nat)) + List.length (List.replicate q [Da.int IntKind.i64 (0 : Int)])) o2000)) ++ List.take (min (List.length o2000 - n4) (n1 - (0 : Nat) + List.length (List.replicate q [Da.int IntKind.i64 (0 : Int)]) - n3)) (List.drop ((0 : Nat) + n4) (List.take ((0 : Nat) + (0 : Nat) + n2) (List.take ((0 : Nat) + (0 : Nat) + (n1 - (0 : Nat))) o2000 ++ List.replicate q [Da.int IntKind.i64 (0 : Int)] ++ List.drop ((0 : Nat) + (0 : Nat) + (n1 - (0 : Nat)) + List.length (List.replicate q [Da.int IntKind.i64 (0 : Int)])) o2000) ++ List.take (min (List.length o2001) (n1 - (0 : Nat) + List.length (List.replicate q [Da.int IntKind.i64 (0 : Int)]) - n2)) o2001 ++ List.drop ((0 : Nat) + (0 : Nat) + n2 + min (List.length o2001) (n1 - (0 : Nat) + List.length (List.replicate q [Da.int IntKind.i64 (0 : Int)]) - n2)) (List.take ((0 : Nat) + (0 : Nat) + (n1 - (0 : Nat))) o2000 ++ List.replicate q [Da.int IntKind.i64 (0 : Int)] ++ List.drop ((0 : Nat) + (0 : Nat) + (n1 - (0 : Nat)) + List.length (List.replicate q [Da.int IntKind.i64 (0 : Int)])) o2000))) ++ List.drop ((0 : Nat) + (0 : Nat) + n3 + min (List.length o2000 - n4) (n1 - (0 : Nat) + List.length (List.replicate q [Da.int IntKind.i64 (0 : Int)]) - n3)) (List.take ((0 : Nat) + (0 : Nat) + n2) (List.take ((0 : Nat) + (0 : Nat) + (n1 - (0 : Nat))) o2000 ++ List.replicate q [Da.int IntKind.i64 (0 : Int)] ++ List.drop ((0 : Nat) + (0 : Nat) + (n1 - (0 : Nat)) + List.length (List.replicate q [Da.int IntKind.i64 (0 : Int)])) o2000) ++ List.take (min (List.length o2001) (n1 - (0 : Nat) + List.length (List.replicate q [Da.int IntKind.i64 (0 : Int)]) - n2)) o2001 ++ List.drop ((0 : Nat) + (0 : Nat) + n2 + min (List.length o2001) (n1 - (0 : Nat) + List.length (List.replicate q [Da.int IntKind.i64 (0 : Int)]) - n2)) (List.take ((0 : Nat) + (0 : Nat) + (n1 - (0 : Nat))) o2000 ++ List.replicate q [Da.int IntKind.i64 (0 : Int)] ++ List.drop ((0 : Nat) + (0 : Nat) + (n1 - (0 : Nat)) + List.length (List.replicate q [Da.int IntKind.i64 (0 : Int)])) o2000)))) ∧ ((.one (.ol 0)) = r ∧ [(2001, (.lst 3 1 o2001)), (0, (.lst 3 1 (List.take (n1 - (0 : Nat) + List.length (List.replicate q [Da.int IntKind.i64 (0 : Int)])) (List.take ((0 : Nat) + (0 : Nat) + n3) (List.take ((0 : Nat) + (0 : Nat) + n2) (List.take ((0 : Nat) + (0 : Nat) + (n1 - (0 : Nat))) o2000 ++ List.replicate q [Da.int IntKind.i64 (0 : Int)] ++ List.drop ((0 : Nat) + (0 : Nat) + (n1 - (0 : Nat)) + List.length (List.replicate q [Da.int IntKind.i64 (0 : Int)])) o2000) ++ List.take (min (List.length o2001) (n1 - (0 : Nat) + List.length (List.replicate q [Da.int IntKind.i64 (0 : Int)]) - n2)) o2001 ++ List.drop ((0 : Nat) + (0 : Nat) + n2 + min (List.length o2001) (n1 - (0 : Nat) + List.length (List.replicate q [Da.int IntKind.i64 (0 : Int)]) - n2)) (List.take ((0 : Nat) + (0 : Nat) + (n1 - (0 : Nat))) o2000 ++ List.replicate q [Da.int IntKind.i64 (0 : Int)] ++ List.drop ((0 : Nat) + (0 : Nat) + (n1 - (0 : Nat)) + List.length (List.replicate q [Da.int IntKind.i64 (0 : Int)])) o2000)) ++ List.take (min (List.length o2000 - n4) (n1 - (0 : Nat) + List.length (List.replicate q [Da.int IntKind.i64 (0 : Int)]) - n3)) (List.drop ((0 : Nat) + n4) (List.take ((0 : Nat) + (0 : Nat) + n2) (List.take ((0 : Nat) + (0 : Nat) + (n1 - (0 : Nat))) o2000 ++ List.replicate q [Da.int IntKind.i64 (0 : Int)] ++ List.drop ((0 : Nat) + (0 : Nat) + (n1 - (0 : Nat)) + List.length (List.replicate q [Da.int IntKind.i64 (0 : Int)])) o2000) ++ List.take (min (List.length o2001) (n1 - (0 : Nat) + List.length (List.replicate q [Da.int IntKind.i64 (0 : Int)]) - n2)) o2001 ++ List.drop ((0 : Nat) + (0 : Nat) + n2 + min (List.length o2001) (n1 - (0 : Nat) + List.length (List.replicate q [Da.int IntKind.i64 (0 : Int)]) - n2)) (List.take ((0 : Nat) + (0 : Nat) + (n1 - (0 : Nat))) o2000 ++ List.replicate q [Da.int IntKind.i64 (0 : Int)] ++ List.drop ((0 : Nat) + (0 : Nat) + (n1 - (0 : Nat)) + List.length (List.replicate q [Da.int IntKind.i64 (0 : Int)])) o2000))) ++ List.drop ((0 : Nat) + (0 : Nat) + n3 + min (List.length o2000 - n4) (n1 - (0 : Nat) + List.length (List.replicate q [Da.int IntKind.i64 (0 : Int)]) - n3)) (List.take ((0 : Nat) + (0 : Nat) + n2) (List.take ((0 : Nat) + (0 : Nat) + (n1 - (0 : Nat))) o2000 ++ List.replicate q [Da.int IntKind.i64 (0 : Int)] ++ List.drop ((0 : Nat) + (0 : Nat) + (n1 - (0 : Nat)) + List.length (List.replicate q [Da.int IntKind.i64 (0 : Int)])) o2000) ++ List.take (min (List.length o2001) (n1 - (0 : Nat) + List.length (List.replicate q [Da.int IntKind.i64 (0 : Int)]) - n2)) o2001 ++ List.drop ((0 : Nat) + (0 : Nat) + n2 + min (List.length o2001) (n1 - (0 : Nat) + List.length (List.replicate q [Da.int IntKind.i64 (0 : Int)]) - n2)) (List.take ((0 : Nat) + (0 : Nat) + (n1 - (0 : Nat))) o2000 ++ List.replicate q [Da.int IntKind.i64 (0 : Int)] ++ List.drop ((0 : Nat) + (0 : Nat) + (n1 - (0 : Nat)) + List.length (List.replicate q [Da.int IntKind.i64 (0 : Int)])) o2000))))))] = O)))))))))))))))
  ((∃ (n5 : Nat), (p = ((↑n5 : Int)) ∧ (Do (n5 ≤ List.length (List.take (n1 - (0 : Nat)) (List.drop ((0 : Nat) + (0 : Nat)) o2000) ++ List.replicate q [Da.int IntKind.i64 (0 : Int)]) ∧ List.length (List.take (n1 - (0 : Nat)) (List.drop ((0 : Nat) + (0 : Nat)) o2000) ++ List.replicate q [Da.int IntKind.i64 (0 : Int)]) ≤ List.length (List.take (n1 - (0 : Nat)) (List.drop ((0 : Nat) + (0 : Nat)) o2000) ++ List.replicate q [Da.int IntKind.i64 (0 : Int)])) ∧ (Do ((0 : Nat) + n5 + min (List.length o2001) (List.length (List.take (n1 - (0 : Nat)) (List.drop ((0 : Nat) + (0 : Nat)) o2000) ++ List.replicate q [Da.int IntKind.i64 (0 : Int)]) - n5) ≤ List.length (List.take (n1 - (0 : Nat)) (List.drop ((0 : Nat) + (0 : Nat)) o2000) ++ List.replicate q [Da.int IntKind.i64 (0 : Int)])) ∧ (∃ (n6 : Nat), ((IntKind.wrap IntKind.i64 (p + (↑(List.length o2001) : Int))) = ((↑n6 : Int)) ∧ (Do (n6 ≤ List.length (List.take ((0 : Nat) + n5) (List.take (n1 - (0 : Nat)) (List.drop ((0 : Nat) + (0 : Nat)) o2000) ++ List.replicate q [Da.int IntKind.i64 (0 : Int)]) ++ List.take (min (List.length o2001) (List.length (List.take (n1 - (0 : Nat)) (List.drop ((0 : Nat) + (0 : Nat)) o2000) ++ List.replicate q [Da.int IntKind.i64 (0 : Int)]) - n5)) o2001 ++ List.drop ((0 : Nat) + n5 + min (List.length o2001) (List.length (List.take (n1 - (0 : Nat)) (List.drop ((0 : Nat) + (0 : Nat)) o2000) ++ List.replicate q [Da.int IntKind.i64 (0 : Int)]) - n5)) (List.take (n1 - (0 : Nat)) (List.drop ((0 : Nat) + (0 : Nat)) o2000) ++ List.replicate q [Da.int IntKind.i64 (0 : Int)])) ∧ List.length (List.take ((0 : Nat) + n5) (List.take (n1 - (0 : Nat)) (List.drop ((0 : Nat) + (0 : Nat)) o2000) ++ List.replicate q [Da.int IntKind.i64 (0 : Int)]) ++ List.take (min (List.length o2001) (List.length (List.take (n1 - (0 : Nat)) (List.drop ((0 : Nat) + (0 : Nat)) o2000) ++ List.replicate q [Da.int IntKind.i64 (0 : Int)]) - n5)) o2001 ++ List.drop ((0 : Nat) + n5 + min (List.length o2001) (List.length (List.take (n1 - (0 : Nat)) (List.drop ((0 : Nat) + (0 : Nat)) o2000) ++ List.replicate q [Da.int IntKind.i64 (0 : Int)]) - n5)) (List.take (n1 - (0 : Nat)) (List.drop ((0 : Nat) + (0 : Nat)) o2000) ++ List.replicate q [Da.int IntKind.i64 (0 : Int)])) ≤ List.length (List.take ((0 : Nat) + n5) (List.take (n1 - (0 : Nat)) (List.drop ((0 : Nat) + (0 : Nat)) o2000) ++ List.replicate q [Da.int IntKind.i64 (0 : Int)]) ++ List.take (min (List.length o2001) (List.length (List.take (n1 - (0 : Nat)) (List.drop ((0 : Nat) + (0 : Nat)) o2000) ++ List.replicate q [Da.int IntKind.i64 (0 : Int)]) - n5)) o2001 ++ List.drop ((0 : Nat) + n5 + min (List.length o2001) (List.length (List.take (n1 - (0 : Nat)) (List.drop ((0 : Nat) + (0 : Nat)) o2000) ++ List.replicate q [Da.int IntKind.i64 (0 : Int)]) - n5)) (List.take (n1 - (0 : Nat)) (List.drop ((0 : Nat) + (0 : Nat)) o2000) ++ List.replicate q [Da.int IntKind.i64 (0 : Int)]))) ∧ (∃ (n7 : Nat), (p = ((↑n7 : Int)) ∧ (Do (n7 ≤ List.length o2000 ∧ (List.length o2000 ≤ List.length o2000 ∨ (0 : Nat) + List.length o2000 ≤ c)) ∧ (Do ((0 : Nat) + n7 + min (List.length o2000 - n7) (List.length (List.take ((0 : Nat) + n5) (List.take (n1 - (0 : Nat)) (List.drop ((0 : Nat) + (0 : Nat)) o2000) ++ List.replicate q [Da.int IntKind.i64 (0 : Int)]) ++ List.take (min (List.length o2001) (List.length (List.take (n1 - (0 : Nat)) (List.drop ((0 : Nat) + (0 : Nat)) o2000) ++ List.replicate q [Da.int IntKind.i64 (0 : Int)]) - n5)) o2001 ++ List.drop ((0 : Nat) + n5 + min (List.length o2001) (List.length (List.take (n1 - (0 : Nat)) (List.drop ((0 : Nat) + (0 : Nat)) o2000) ++ List.replicate q [Da.int IntKind.i64 (0 : Int)]) - n5)) (List.take (n1 - (0 : Nat)) (List.drop ((0 : Nat) + (0 : Nat)) o2000) ++ List.replicate q [Da.int IntKind.i64 (0 : Int)])) - n6) ≤ List.length o2000) ∧ (Do ((0 : Nat) + n6 + min (List.length o2000 - n7) (List.length (List.take ((0 : Nat) + n5) (List.take (n1 - (0 : Nat)) (List.drop ((0 : Nat) + (0 : Nat)) o2000) ++ List.replicate q [Da.int IntKind.i64 (0 : Int)]) ++ List.take (min (List.length o2001) (List.length (List.take (n1 - (0 : Nat)) (List.drop ((0 : Nat) + (0 : Nat)) o2000) ++ List.replicate q [Da.int IntKind.i64 (0 : Int)]) - n5)) o2001 ++ List.drop ((0 : Nat) + n5 + min (List.length o2001) (List.length (List.take (n1 - (0 : Nat)) (List.drop ((0 : Nat) + (0 : Nat)) o2000) ++ List.replicate q [Da.int IntKind.i64 (0 : Int)]) - n5)) (List.take (n1 - (0 : Nat)) (List.drop ((0 : Nat) + (0 : Nat)) o2000) ++ List.replicate q [Da.int IntKind.i64 (0 : Int)])) - n6) ≤ List.length (List.take ((0 : Nat) + n5) (List.take (n1 - (0 : Nat)) (List.drop ((0 : Nat) + (0 : Nat)) o2000) ++ List.replicate q [Da.int IntKind.i64 (0 : Int)]) ++ List.take (min (List.length o2001) (List.length (List.take (n1 - (0 : Nat)) (List.drop ((0 : Nat) + (0 : Nat)) o2000) ++ List.replicate q [Da.int IntKind.i64 (0 : Int)]) - n5)) o2001 ++ List.drop ((0 : Nat) + n5 + min (List.length o2001) (List.length (List.take (n1 - (0 : Nat)) (List.drop ((0 : Nat) + (0 : Nat)) o2000) ++ List.replicate q [Da.int IntKind.i64 (0 : Int)]) - n5)) (List.take (n1 - (0 : Nat)) (List.drop ((0 : Nat) + (0 : Nat)) o2000) ++ List.replicate q [Da.int IntKind.i64 (0 : Int)]))) ∧ ((.one (.ol 0)) = r ∧ [(2001, (.lst 3 1 o2001)), (0, (.lst 3 1 (List.take ((0 : Nat) + n6) (List.take ((0 : Nat) + n5) (List.take (n1 - (0 : Nat)) (List.drop ((0 : Nat) + (0 : Nat)) o2000) ++ List.replicate q [Da.int IntKind.i64 (0 : Int)]) ++ List.take (min (List.length o2001) (List.length (List.take (n1 - (0 : Nat)) (List.drop ((0 : Nat) + (0 : Nat)) o2000) ++ List.replicate q [Da.int IntKind.i64 (0 : Int)]) - n5)) o2001 ++ List.drop ((0 : Nat) + n5 + min (List.length o2001) (List.length (List.take (n1 - (0 : Nat)) (List.drop ((0 : Nat) + (0 : Nat)) o2000) ++ List.replicate q [Da.int IntKind.i64 (0 : Int)]) - n5)) (List.take (n1 - (0 : Nat)) (List.drop ((0 : Nat) + (0 : Nat)) o2000) ++ List.replicate q [Da.int IntKind.i64 (0 : Int)])) ++ List.take (min (List.length o2000 - n7) (List.length (List.take ((0 : Nat) + n5) (List.take (n1 - (0 : Nat)) (List.drop ((0 : Nat) + (0 : Nat)) o2000) ++ List.replicate q [Da.int IntKind.i64 (0 : Int)]) ++ List.take (min (List.length o2001) (List.length (List.take (n1 - (0 : Nat)) (List.drop ((0 : Nat) + (0 : Nat)) o2000) ++ List.replicate q [Da.int IntKind.i64 (0 : Int)]) - n5)) o2001 ++ List.drop ((0 : Nat) + n5 + min (List.length o2001) (List.length (List.take (n1 - (0 : Nat)) (List.drop ((0 : Nat) + (0 : Nat)) o2000) ++ List.replicate q [Da.int IntKind.i64 (0 : Int)]) - n5)) (List.take (n1 - (0 : Nat)) (List.drop ((0 : Nat) + (0 : Nat)) o2000) ++ List.replicate q [Da.int IntKind.i64 (0 : Int)])) - n6)) (List.drop ((0 : Nat) + n7) o2000) ++ List.drop ((0 : Nat) + n6 + min (List.length o2000 - n7) (List.length (List.take ((0 : Nat) + n5) (List.take (n1 - (0 : Nat)) (List.drop ((0 : Nat) + (0 : Nat)) o2000) ++ List.replicate q [Da.int IntKind.i64 (0 : Int)]) ++ List.take (min (List.length o2001) (List.length (List.take (n1 - (0 : Nat)) (List.drop ((0 : Nat) + (0 : Nat)) o2000) ++ List.replicate q [Da.int IntKind.i64 (0 : Int)]) - n5)) o2001 ++ List.drop ((0 : Nat) + n5 + min (List.length o2001) (List.length (List.take (n1 - (0 : Nat)) (List.drop ((0 : Nat) + (0 : Nat)) o2000) ++ List.replicate q [Da.int IntKind.i64 (0 : Int)]) - n5)) (List.take (n1 - (0 : Nat)) (List.drop ((0 : Nat) + (0 : Nat)) o2000) ++ List.replicate q [Da.int IntKind.i64 (0 : Int)])) - n6)) (List.take ((0 : Nat) + n5) (List.take (n1 - (0 : Nat)) (List.drop ((0 : Nat) + (0 : Nat)) o2000) ++ List.replicate q [Da.int IntKind.i64 (0 : Int)]) ++ List.take (min (List.length o2001) (List.length (List.take (n1 - (0 : Nat)) (List.drop ((0 : Nat) + (0 : Nat)) o2000) ++ List.replicate q [Da.int IntKind.i64 (0 : Int)]) - n5)) o2001 ++ List.drop ((0 : Nat) + n5 + min (List.length o2001) (List.length (List.take (n1 - (0 : Nat)) (List.drop ((0 : Nat) + (0 : Nat)) o2000) ++ List.replicate q [Da.int IntKind.i64 (0 : Int)]) - n5)) (List.take (n1 - (0 : Nat)) (List.drop ((0 : Nat) + (0 : Nat)) o2000) ++ List.replicate q [Da.int IntKind.i64 (0 : Int)])))))] = O)))))))))))))))))))))
  ((∃ (n8 : Nat), ((IntKind.wrap IntKind.i64 ((↑(List.length o2000) : Int) + (↑(List.length o2001) : Int))) = ((↑n8 : Int)) ∧ (Do ((0 : Nat) ≤ n8 ∧ (n8 ≤ List.length o2000 ∨ (0 : Nat) + n8 ≤ c)) ∧ (∃ (n9 : Nat), ((IntKind.wrap IntKind.i64 (p + (↑(List.length o2001) : Int))) = ((↑n9 : Int)) ∧ (Do (n9 ≤ n8 - (0 : Nat) ∧ (n8 - (0 : Nat) ≤ n8 - (0 : Nat) ∨ (0 : Nat) + (0 : Nat) + (n8 - (0 : Nat)) ≤ c)) ∧ (∃ (n10 : Nat), ((IntKind.wrap IntKind.i64 (p + (↑(List.length o2001) : Int))) = ((↑n10 : Int)) ∧ (Do (n10 ≤ n8 - (0 : Nat) ∧ (n8 - (0 : Nat) ≤ n8 - (0 : Nat) ∨ (0 : Nat) + (0 : Nat) + (n8 - (0 : Nat)) ≤ c)) ∧ (∃ (n11 : Nat), (p = ((↑n11 : Int)) ∧ (Do (n11 ≤ n8 - (0 : Nat) ∧ (n8 - (0 : Nat) ≤ n8 - (0 : Nat) ∨ (0 : Nat) + (0 : Nat) + (n8 - (0 : Nat)) ≤ c)) ∧ (Do ((0 : Nat) + (0 : Nat) + n11 + min (n8 - (0 : Nat) - n11) (n8 - (0 : Nat) - n10) ≤ List.length o2000) ∧ (Do ((0 : Nat) + (0 : Nat) + n10 ≤ List.length o2000 ∧ (0 : Nat) + (0 : Nat) + n10 + min (n8 - (0 : Nat) - n11) (n8 - (0 : Nat) - n10) ≤ (281474976710656 : Nat)) ∧ (∃ (n12 : Nat), (p = ((↑n12 : Int)) ∧ (Do (n12 ≤ n8 - (0 : Nat) ∧ (n8 - (0 : Nat) ≤ n8 - (0 : Nat) ∨ (0 : Nat) + (0 : Nat) + (n8 - (0 : Nat)) ≤ c)) ∧ (Do ((0 : Nat) + (0 : Nat) + n12 ≤ List.length (List.take ((0 : Nat) + (0 : Nat) + n10) o2000 ++ List.take (min (n8 - (0 : Nat) - n11) (n8 - (0 : Nat) - n10)) (List.drop ((0 : Nat) + (0 : Nat) + n11) o2000) ++ List.drop ((0 : Nat) + (0 : Nat) + n10 + min (n8 - (0 : Nat) - n11) (n8 - (0 : Nat) - n10)) o2000) ∧ (0 : Nat) + (0 : Nat) + n12 + min (List.length o2001) (n8 - (0 : Nat) - n12) ≤ (281474976710656 : Nat)) ∧ (Do (n8 - (0 : Nat) ≤ List.length (List.take ((0 : Nat) + (0 : Nat) + n12) (List.take ((0 : Nat) + (0 : Nat) + n10) o2000 ++ List.take (min (n8 - (0 : Nat) - n11) (n8 - (0 : Nat) - n10)) (List.drop ((0 : Nat) + (0 : Nat) + n11) o2000) ++ List.drop ((0 : Nat) + (0 : Nat) + n10 + min (n8 - (0 : Nat) - n11) (n8 - (0 : Nat) - n10)) o2000) ++ List.take (min (List.length o2001) (n8 - (0 : Nat) - n12)) o2001 ++ List.drop ((0 : Nat) + (0 : Nat) + n12 + min (List.length o2001) (n8 - (0 : Nat) - n12)) (List.take ((0 : Nat) + (0 : Nat) + n10) o2000 ++ List.take (min (n8 - (0 : Nat) - n11) (n8 - (0 : Nat) - n10)) (List.drop ((0 : Nat) + (0 : Nat) + n11) o2000) ++ List.drop ((0 : Nat) + (0 : Nat) + n10 + min (n8 - (0 : Nat) - n11) (n8 - (0 : Nat) - n10)) o2000))) ∧ ((.one (.ol 0)) = r ∧ [(2001, (.lst 3 1 o2001)), (0, (.lst 3 1 (List.take (n8 - (0 : Nat)) (List.take ((0 : Nat) + (0 : Nat) + n12) (List.take ((0 : Nat) + (0 : Nat) + n10) o2000 ++ List.take (min (n8 - (0 : Nat) - n11) (n8 - (0 : Nat) - n10)) (List.drop ((0 : Nat) + (0 : Nat) + n11) o2000) ++ List.drop ((0 : Nat) + (0 : Nat) + n10 + min (n8 - (0 : Nat) - n11) (n8 - (0 : Nat) - n10)) o2000) ++ List.take (min (List.length o2001) (n8 - (0 : Nat) - n12)) o2001 ++ List.drop ((0 : Nat) + (0 : Nat) + n12 + min (List.length o2001) (n8 - (0 : Nat) - n12)) (List.take ((0 : Nat) + (0 : Nat) + n10) o2000 ++ List.take (min (n8 - (0 : Nat) - n11) (n8 - (0 : Nat) - n10)) (List.drop ((0 : Nat) + (0 : Nat) + n11) o2000) ++ List.drop ((0 : Nat) + (0 : Nat) + n10 + min (n8 - (0 : Nat) - n11) (n8 - (0 : Nat) - n10)) o2000)))))] = O)))))))))))))))))))))))))))))) : XC Try.prog 162 [(.one (.ol 2000)), (Z p), (.one (.ol 2001))] [(2000, (.lst 3 1 o2000)), (2001, (.lst 3 1 o2001))] r O :=
  xc_tk (E := envA) (hs := slices_Insert_int_h) (c := (bodyOf Try.f162)) (n := 95) (res := [.tmp 6]) (rs := .b 3 1) (ks := [(2000, (false)), (2001, (false))]) (dir := [2001]) envAOk mixed [(2000, 1000), (2001, 2001)] [1000] (by kernel_rfl) rfl Try.func162 (by kernel_rfl) (by kernel_rfl) (by kernel_rfl) (by kernel_rfl) (to_vc (by kernel_rfl) h)

/-- loop.example/g00461/spec.SigOk -/
def spec_SigOk_h : Hints := ⟨[(2, ⟨[0, 3], [], [], [], [], [], []⟩)], []⟩
def spec_SigOk_L2 (r : AV) (O : List (Nat × Ob)) (s : List (List Da)) (i : Int) : Prop := CL 62 Try.prog (subC (bodyOf Try.f170) [1, 0, 1, 0, 0]) (kont Try.prog env spec_SigOk_h 62 (bodyOf Try.f170) [1, 0, 1, 0, 0] (vRet env [.tmp 2] (.c .b) [] [] r O) (retKE (vRet env [.tmp 2] (.c .b) [] [] r O))).1 (kont Try.prog env spec_SigOk_h 62 (bodyOf Try.f170) [1, 0, 1, 0, 0] (vRet env [.tmp 2] (.c .b) [] [] r O) (retKE (vRet env [.tmp 2] (.c .b) [] [] r O))).2 ⟨[(0, (L s)), (3, (Z i))], []⟩
theorem spec_SigOk_L2_of {r : AV} {O : List (Nat × Ob)} {s : List (List Da)} {i : Int} (h : ifB (decide (i < (↑(List.length s) : Int)))
  ((∃ (m : Nat), (i = ((↑m : Int)) ∧ (∃ (q : ByteArray), (∃ (n : Int), (∃ (b : Bool), ((s[m]?) = some [(.str q), (.int .i64 n), (.bool b)] ∧ (∃ (b1 : Bool), (XC Try.prog 187 [(T q)] [] (B b1) [] ∧ ifB (!b1)
  (((B (false)) = r ∧ [] = O))
  ((∃ (m1 : Nat), (i = ((↑m1 : Int)) ∧ (∃ (q1 : ByteArray), (∃ (n1 : Int), (∃ (b2 : Bool), ((s[m1]?) = some [(.str q1), (.int .i64 n1), (.bool b2)] ∧ (∃ (n2 : Int), (XC Try.prog 188 [(L s), (T q1)] [] (Z n2) [] ∧ ifB (decide (n2 ≠ i))
  (((B (false)) = r ∧ [] = O))
  ((∃ (m2 : Nat), (i = ((↑m2 : Int)) ∧ (∃ (q2 : ByteArray), (∃ (n3 : Int), (∃ (b3 : Bool), ((s[m2]?) = some [(.str q2), (.int .i64 n3), (.bool b3)] ∧ (∃ (b4 : Bool), (XC Try.prog 141 [(Z n3), (Z ((0 : Int))), (Z ((3 : Int)))] [] (B b4) [] ∧ ifB (!b4)
  (((B (false)) = r ∧ [] = O))
  ((∃ (m3 : Nat), (i = ((↑m3 : Int)) ∧ (∃ (q3 : ByteArray), (∃ (n4 : Int), (∃ (b5 : Bool), ((s[m3]?) = some [(.str q3), (.int .i64 n4), (.bool b5)] ∧ ifB b5
  ((∃ (m4 : Nat), (i = ((↑m4 : Int)) ∧ (∃ (q4 : ByteArray), (∃ (n5 : Int), (∃ (b6 : Bool), ((s[m4]?) = some [(.str q4), (.int .i64 n5), (.bool b6)] ∧ ifB (decide (n5 ≠ (2 : Int)))
  (((B (false)) = r ∧ [] = O))
  (spec_SigOk_L2 r O s (IntKind.wrap IntKind.i64 (i + (1 : Int)))))))))))
  (spec_SigOk_L2 r O s (IntKind.wrap IntKind.i64 (i + (1 : Int))))))))))))))))))))))))))))))))))))))
  ((∃ (b7 : Bool), (XC Try.prog 141 [(Z ((↑(List.length s) : Int))), (Z ((1 : Int))), (Z ((8 : Int)))] [] (B b7) [] ∧ ifB b7
  ((∃ (m5 : Nat), (((0 : Int)) = ((↑m5 : Int)) ∧ (∃ (q5 : ByteArray), (∃ (n6 : Int), (∃ (b8 : Bool), ((s[m5]?) = some [(.str q5), (.int .i64 n6), (.bool b8)] ∧ ((B (decide (q5 = { data := #[(116 : UInt8), (116 : UInt8)] }) && (decide (n6 = (0 : Int)) && decide (b8 = false)))) = r ∧ [] = O))))))))
  (((B (false)) = r ∧ [] = O)))))) : spec_SigOk_L2 r O s i := by
  unfold spec_SigOk_L2
  refine cl_of (E := env) (hs := spec_SigOk_h) envOk mixed ?_
  exact to_vc (by kernel_rfl) h
theorem spec_SigOk_of {s : List (List Da)} {r : AV} {O : List (Nat × Ob)} (h : spec_SigOk_L2 r O s ((0 : Int))) : XC Try.prog 170 [(L s)] [] r O :=
  xc_of (E := env) (hs := spec_SigOk_h) (c := (bodyOf Try.f170)) (n := 62) (res := [.tmp 2]) (rs := .c .b) (ks := []) (dir := []) envOk mixed rfl Try.func170 (by kernel_rfl) (by kernel_rfl) (by kernel_rfl) (by kernel_rfl) (to_vc (by kernel_rfl) h)

/-- loop.example/g00461/spec.Parts -/
def spec_Parts_h : Hints := ⟨[(3, ⟨[1, 3, 4], [], [], [], [], [], []⟩)], []⟩
def spec_Parts_L3 (r : AV) (O : List (Nat × Ob)) (n : Int) (i : Int) (t : Int) (t1 : Int) (t2 : List (List Da)) : Prop := CL 21 Try.prog (subC (bodyOf Try.f171) [1, 1, 0, 1, 0, 0]) (kont Try.prog env spec_Parts_h 21 (bodyOf Try.f171) [1, 1, 0, 1, 0, 0] (vRet env [.tmp 2] (.c (.i .i64)) [] [] r O) (retKE (vRet env [.tmp 2] (.c (.i .i64)) [] [] r O))).1 (kont Try.prog env spec_Parts_h 21 (bodyOf Try.f171) [1, 1, 0, 1, 0, 0] (vRet env [.tmp 2] (.c (.i .i64)) [] [] r O) (retKE (vRet env [.tmp 2] (.c (.i .i64)) [] [] r O))).2 ⟨[(1, (.one (.op 1900 0))), (3, (Z n)), (4, (Z i))], [(1900, (.var [(.d (.int .i64 t)), (.d (.int .i64 t1)), (.d (.sl t2))]))]⟩
theorem spec_Parts_L3_of {r : AV} {O : List (Nat × Ob)} {n : Int} {i : Int} {t : Int} {t1 : Int} {t2 : List (List Da)} (h : ifB (decide (i < (↑(List.length t2) : Int)))
  ((∃ (m : Nat), (i = ((↑m : Int)) ∧ (∃ (n1 : Int), (∃ (n2 : Int), (∃ (xs : List (List Da)), ((t2[m]?) = some [(.int .i64 n1), (.int .i64 n2), (.sl xs)] ∧ (∃ (n3 : Int), (XC Try.prog 171 [(.dat [(.int .i64 n1), (.int .i64 n2), (.sl xs)])] [] (Z n3) [] ∧ spec_Parts_L3 r O (IntKind.wrap IntKind.i64 (n + n3)) (IntKind.wrap IntKind.i64 (i + (1 : Int))) t t1 t2)))))))))
  (((Z n) = r ∧ [] = O))) : spec_Parts_L3 r O n i t t1 t2 := by
  unfold spec_Parts_L3
  refine cl_of (E := env) (hs := spec_Parts_h) envOk mixed ?_
  exact to_vc (by kernel_rfl) h
theorem spec_Parts_of {t : Int} {t1 : Int} {t2 : List (List Da)} {r : AV} {O : List (Nat × Ob)} (h : spec_Parts_L3 r O ((1 : Int)) ((0 : Int)) t t1 t2) : XC Try.prog 171 [(.dat [(.int .i64 t), (.int .i64 t1), (.sl t2)])] [] r O :=
  xc_of (E := env) (hs := spec_Parts_h) (c := (bodyOf Try.f171)) (n := 21) (res := [.tmp 2]) (rs := .c (.i .i64)) (ks := []) (dir := []) envOk mixed rfl Try.func171 (by kernel_rfl) (by kernel_rfl) (by kernel_rfl) (by kernel_rfl) (to_vc (by kernel_rfl) h)

/-- loop.example/g00461/spec.l4Right -/
def spec_l4Right_h : Hints := ⟨[(6, ⟨[0, 3, 5], [], [], [], [], [], []⟩)], []⟩
def spec_l4Right_L6 (r : AV) (O : List (Nat × Ob)) (s0 : List (List Da)) (s5 : Int) (s3 : Int) (s31 : Int) (s32 : List (List Da)) : Prop := CL 117 Try.prog (subC (bodyOf Try.f172) [1, 1, 1, 0, 1, 0, 0]) (kont Try.prog env spec_l4Right_h 117 (bodyOf Try.f172) [1, 1, 1, 0, 1, 0, 0] (vRet env [.tmp 4] (.c .b) [] [] r O) (retKE (vRet env [.tmp 4] (.c .b) [] [] r O))).1 (kont Try.prog env spec_l4Right_h 117 (bodyOf Try.f172) [1, 1, 1, 0, 1, 0, 0] (vRet env [.tmp 4] (.c .b) [] [] r O) (retKE (vRet env [.tmp 4] (.c .b) [] [] r O))).2 ⟨[(0, (L s0)), (3, (.one (.op 1900 0))), (5, (Z s5))], [(1900, (.var [(.d (.int .i64 s3)), (.d (.int .i64 s31)), (.d (.sl s32))]))]⟩
theorem spec_l4Right_L6_of {r : AV} {O : List (Nat × Ob)} {s0 : List (List Da)} {s5 : Int} {s3 : Int} {s31 : Int} {s32 : List (List Da)} (h : ifB (decide (s5 < (↑(List.length s32) : Int)))
  ((∃ (m : Nat), (s3 = ((↑m : Int)) ∧ (∃ (q : ByteArray), (∃ (n : Int), (∃ (b : Bool), ((s0[m]?) = some [(.str q), (.int .i64 n), (.bool b)] ∧ ifB b
  ((∃ (m1 : Nat), (s5 = ((↑m1 : Int)) ∧ (∃ (n1 : Int), (∃ (n2 : Int), (∃ (xs : List (List Da)), ((s32[m1]?) = some [(.int .i64 n1), (.int .i64 n2), (.sl xs)] ∧ ifB (decide (n1 = s3))
  (((B (false)) = r ∧ [] = O))
  (ifB (decide ((0 : Int) < s5))
  ((∃ (m2 : Nat), (s5 = ((↑m2 : Int)) ∧ (∃ (n3 : Int), (∃ (n4 : Int), (∃ (xs1 : List (List Da)), ((s32[m2]?) = some [(.int .i64 n3), (.int .i64 n4), (.sl xs1)] ∧ (∃ (m3 : Nat), ((IntKind.wrap IntKind.i64 (s5 - (1 : Int))) = ((↑m3 : Int)) ∧ (∃ (n5 : Int), (∃ (n6 : Int), (∃ (xs2 : List (List Da)), ((s32[m3]?) = some [(.int .i64 n5), (.int .i64 n6), (.sl xs2)] ∧ (∃ (b1 : Bool), (XC Try.prog 104 [(.dat [(.int .i64 n3), (.int .i64 n4), (.sl xs1)]), (.dat [(.int .i64 n5), (.int .i64 n6), (.sl xs2)])] [] (B b1) [] ∧ ifB b1
  (((B (false)) = r ∧ [] = O))
  ((∃ (m4 : Nat), (s5 = ((↑m4 : Int)) ∧ (∃ (n7 : Int), (∃ (n8 : Int), (∃ (xs3 : List (List Da)), ((s32[m4]?) = some [(.int .i64 n7), (.int .i64 n8), (.sl xs3)] ∧ (∃ (b2 : Bool), (XC Try.prog 172 [(L s0), (.dat [(.int .i64 n7), (.int .i64 n8), (.sl xs3)])] [] (B b2) [] ∧ ifB (!b2)
  (((B (false)) = r ∧ [] = O))
  (spec_l4Right_L6 r O s0 (IntKind.wrap IntKind.i64 (s5 + (1 : Int))) s3 s31 s32)))))))))))))))))))))))))
  ((∃ (m5 : Nat), (s5 = ((↑m5 : Int)) ∧ (∃ (n9 : Int), (∃ (n10 : Int), (∃ (xs4 : List (List Da)), ((s32[m5]?) = some [(.int .i64 n9), (.int .i64 n10), (.sl xs4)] ∧ (∃ (b3 : Bool), (XC Try.prog 172 [(L s0), (.dat [(.int .i64 n9), (.int .i64 n10), (.sl xs4)])] [] (B b3) [] ∧ ifB (!b3)
  (((B (false)) = r ∧ [] = O))
  (spec_l4Right_L6 r O s0 (IntKind.wrap IntKind.i64 (s5 + (1 : Int))) s3 s31 s32))))))))))))))))))
  ((∃ (m6 : Nat), (s5 = ((↑m6 : Int)) ∧ (∃ (n11 : Int), (∃ (n12 : Int), (∃ (xs5 : List (List Da)), ((s32[m6]?) = some [(.int .i64 n11), (.int .i64 n12), (.sl xs5)] ∧ (∃ (b4 : Bool), (XC Try.prog 172 [(L s0), (.dat [(.int .i64 n11), (.int .i64 n12), (.sl xs5)])] [] (B b4) [] ∧ ifB (!b4)
  (((B (false)) = r ∧ [] = O))
  (spec_l4Right_L6 r O s0 (IntKind.wrap IntKind.i64 (s5 + (1 : Int))) s3 s31 s32)))))))))))))))))
  (((B (true)) = r ∧ [] = O))) : spec_l4Right_L6 r O s0 s5 s3 s31 s32 := by
  unfold spec_l4Right_L6
  refine cl_of (E := env) (hs := spec_l4Right_h) envOk mixed ?_
  exact to_vc (by kernel_rfl) h
theorem spec_l4Right_of {p : List (List Da)} {p1 : Int} {p2 : Int} {p3 : List (List Da)} {r : AV} {O : List (Nat × Ob)} (h : ifB (decide (p1 = (-1 : Int)))
  ((∃ (b : Bool), (XC Try.prog 141 [(Z p2), (Z ((0 : Int))), (Z ((99 : Int)))] [] (B b) [] ∧ ifB b
  (((B (decide ((↑(List.length p3) : Int) = (0 : Int)))) = r ∧ [] = O))
  (((B (false)) = r ∧ [] = O)))))
  ((∃ (b1 : Bool), (XC Try.prog 141 [(Z p1), (Z ((0 : Int))), (Z (IntKind.wrap IntKind.i64 ((↑(List.length p) : Int) - (1 : Int))))] [] (B b1) [] ∧ ifB (!b1)
  (((B (false)) = r ∧ [] = O))
  (ifB (decide (p2 ≠ (0 : Int)))
  (((B (false)) = r ∧ [] = O))
  ((∃ (m : Nat), (p1 = ((↑m : Int)) ∧ (∃ (q : ByteArray), (∃ (n : Int), (∃ (b2 : Bool), ((p[m]?) = some [(.str q), (.int .i64 n), (.bool b2)] ∧ ifB (!b2)
  ((∃ (m1 : Nat), (p1 = ((↑m1 : Int)) ∧ (∃ (q1 : ByteArray), (∃ (n1 : Int), (∃ (b3 : Bool), ((p[m1]?) = some [(.str q1), (.int .i64 n1), (.bool b3)] ∧ ifB (decide ((↑(List.length p3) : Int) ≠ n1))
  (((B (false)) = r ∧ [] = O))
  ((∃ (m2 : Nat), (p1 = ((↑m2 : Int)) ∧ (∃ (q2 : ByteArray), (∃ (n2 : Int), (∃ (b4 : Bool), ((p[m2]?) = some [(.str q2), (.int .i64 n2), (.bool b4)] ∧ ifB b4
  (ifB (decide ((↑(List.length p3) : Int) < (2 : Int)))
  (((B (false)) = r ∧ [] = O))
  (spec_l4Right_L6 r O p ((0 : Int)) p1 p2 p3))
  (spec_l4Right_L6 r O p ((0 : Int)) p1 p2 p3)))))))))))))))
  ((∃ (m3 : Nat), (p1 = ((↑m3 : Int)) ∧ (∃ (q3 : ByteArray), (∃ (n3 : Int), (∃ (b5 : Bool), ((p[m3]?) = some [(.str q3), (.int .i64 n3), (.bool b5)] ∧ ifB b5
  (ifB (decide ((↑(List.length p3) : Int) < (2 : Int)))
  (((B (false)) = r ∧ [] = O))
  (spec_l4Right_L6 r O p ((0 : Int)) p1 p2 p3))
  (spec_l4Right_L6 r O p ((0 : Int)) p1 p2 p3)))))))))))))))))))) : XC Try.prog 172 [(L p), (.dat [(.int .i64 p1), (.int .i64 p2), (.sl p3)])] [] r O :=
  xc_of (E := env) (hs := spec_l4Right_h) (c := (bodyOf Try.f172)) (n := 117) (res := [.tmp 4]) (rs := .c .b) (ks := []) (dir := []) envOk mixed rfl Try.func172 (by kernel_rfl) (by kernel_rfl) (by kernel_rfl) (by kernel_rfl) (to_vc (by kernel_rfl) h)

/-- loop.example/g00461/spec.l1Bit -/
def spec_l1Bit_h : Hints := ⟨[], []⟩
theorem spec_l1Bit_of {on : Bool} {r : AV} {O : List (Nat × Ob)} (h : ifB on
  (((Z ((1 : Int))) = r ∧ [] = O))
  (((Z ((0 : Int))) = r ∧ [] = O))) : XC Try.prog 173 [(B on)] [] r O :=
  xc_of (E := env) (hs := spec_l1Bit_h) (c := (bodyOf Try.f173)) (n := 4) (res := [.tmp 2]) (rs := .c (.i .i64)) (ks := []) (dir := []) envOk mixed rfl Try.func173 (by kernel_rfl) (by kernel_rfl) (by kernel_rfl) (by kernel_rfl) (to_vc (by kernel_rfl) h)

/-- loop.example/g00461/impl.SigOk -/
def impl_SigOk_h : Hints := ⟨[(2, ⟨[0, 5, 6, 7], [], [], [], [], [], []⟩)], []⟩
def impl_SigOk_L2 (r : AV) (O : List (Nat × Ob)) (s : List (List Da)) (s5 : List (List Da)) (s6 : Int) (s7 : Int) : Prop := CL 57 Try.prog (subC (bodyOf Try.f174) [1, 0, 1, 0, 0]) (kont Try.prog env impl_SigOk_h 57 (bodyOf Try.f174) [1, 0, 1, 0, 0] (vRet env [.tmp 2] (.c .b) [] [] r O) (retKE (vRet env [.tmp 2] (.c .b) [] [] r O))).1 (kont Try.prog env impl_SigOk_h 57 (bodyOf Try.f174) [1, 0, 1, 0, 0] (vRet env [.tmp 2] (.c .b) [] [] r O) (retKE (vRet env [.tmp 2] (.c .b) [] [] r O))).2 ⟨[(0, (L s)), (5, (L s5)), (6, (Z s6)), (7, (Z s7))], []⟩
theorem impl_SigOk_L2_of {r : AV} {O : List (Nat × Ob)} {s : List (List Da)} {s5 : List (List Da)} {s6 : Int} {s7 : Int} (h : ifB (decide (s7 < s6))
  ((∃ (m : Nat), (s7 = ((↑m : Int)) ∧ (∃ (q : ByteArray), (∃ (n : Int), (∃ (b : Bool), ((s5[m]?) = some [(.str q), (.int .i64 n), (.bool b)] ∧ (∃ (b1 : Bool), (XC Try.prog 189 [(T q)] [] (B b1) [] ∧ ifB (!b1)
  (((B (false)) = r ∧ [] = O))
  ((∃ (n1 : Int), (XC Try.prog 190 [(L s), (T q)] [] (Z n1) [] ∧ ifB (decide (n1 ≠ s7))
  (((B (false)) = r ∧ [] = O))
  ((∃ (b2 : Bool), (XC Try.prog 145 [(Z n), (Z ((0 : Int))), (Z ((3 : Int)))] [] (B b2) [] ∧ ifB (!b2)
  (((B (false)) = r ∧ [] = O))
  (ifB b
  (ifB (decide (n ≠ (2 : Int)))
  (((B (false)) = r ∧ [] = O))
  (impl_SigOk_L2 r O s s5 s6 (IntKind.wrap IntKind.i64 (s7 + (1 : Int)))))
  (impl_SigOk_L2 r O s s5 s6 (IntKind.wrap IntKind.i64 (s7 + (1 : Int))))))))))))))))))))
  ((∃ (b3 : Bool), (XC Try.prog 145 [(Z ((↑(List.length s) : Int))), (Z ((1 : Int))), (Z ((8 : Int)))] [] (B b3) [] ∧ ifB b3
  ((∃ (m1 : Nat), (((0 : Int)) = ((↑m1 : Int)) ∧ (∃ (q1 : ByteArray), (∃ (n2 : Int), (∃ (b4 : Bool), ((s[m1]?) = some [(.str q1), (.int .i64 n2), (.bool b4)] ∧ ifB (decide (q1 = { data := #[(116 : UInt8), (116 : UInt8)] }))
  ((∃ (m2 : Nat), (((0 : Int)) = ((↑m2 : Int)) ∧ (∃ (q2 : ByteArray), (∃ (n3 : Int), (∃ (b5 : Bool), ((s[m2]?) = some [(.str q2), (.int .i64 n3), (.bool b5)] ∧ ((B (decide (n3 = (0 : Int)))) = r ∧ [] = O))))))))
  (((B (false)) = r ∧ [] = O)))))))))
  (((B (false)) = r ∧ [] = O)))))) : impl_SigOk_L2 r O s s5 s6 s7 := by
  unfold impl_SigOk_L2
  refine cl_of (E := env) (hs := impl_SigOk_h) envOk mixed ?_
  exact to_vc (by kernel_rfl) h
theorem impl_SigOk_of {s : List (List Da)} {r : AV} {O : List (Nat × Ob)} (h : impl_SigOk_L2 r O s s ((↑(List.length s) : Int)) ((0 : Int))) : XC Try.prog 174 [(L s)] [] r O :=
  xc_of (E := env) (hs := impl_SigOk_h) (c := (bodyOf Try.f174)) (n := 57) (res := [.tmp 2]) (rs := .c .b) (ks := []) (dir := []) envOk mixed rfl Try.func174 (by kernel_rfl) (by kernel_rfl) (by kernel_rfl) (by kernel_rfl) (to_vc (by kernel_rfl) h)

/-- loop.example/g00461/impl.Parts -/
def impl_Parts_h : Hints := ⟨[], []⟩
theorem impl_Parts_of {t : Int} {t1 : Int} {t2 : List (List Da)} {r : AV} {O : List (Nat × Ob)} (h : (∃ (m : Int), (XC Try.prog 157 [(.dat [(.int .i64 t), (.int .i64 t1), (.sl t2)]), (.one (.clo 191 [(2000, 0)]))] [(2000, (.var [(.d (.int .i64 ((0 : Int))))]))] (.tup []) [(2000, (.var [(.d (.int .i64 m))]))] ∧ ((Z m) = r ∧ [] = O)))) : XC Try.prog 175 [(.dat [(.int .i64 t), (.int .i64 t1), (.sl t2)])] [] r O :=
  xc_of (E := env) (hs := impl_Parts_h) (c := (bodyOf Try.f175)) (n := 8) (res := [.tmp 2]) (rs := .c (.i .i64)) (ks := []) (dir := []) envOk mixed rfl Try.func175 (by kernel_rfl) (by kernel_rfl) (by kernel_rfl) (by kernel_rfl) (to_vc (by kernel_rfl) h)

/-- loop.example/g00461/impl.formOk -/
def impl_formOk_h : Hints := ⟨[(6, ⟨[0, 3, 64, 65, 66], [], [], [], [], [], []⟩)], []⟩
def impl_formOk_L6 (r : AV) (O : List (Nat × Ob)) (s0 : List (List Da)) (s64 : List (List Da)) (s65 : Int) (s66 : Int) (s3 : Int) (s31 : Int) (s32 : List (List Da)) : Prop := CL 105 Try.prog (subC (bodyOf Try.f176) [1, 1, 1, 0, 1, 0, 0]) (kont Try.prog env impl_formOk_h 105 (bodyOf Try.f176) [1, 1, 1, 0, 1, 0, 0] (vRet env [.tmp 4] (.c .b) [] [] r O) (retKE (vRet env [.tmp 4] (.c .b) [] [] r O))).1 (kont Try.prog env impl_formOk_h 105 (bodyOf Try.f176) [1, 1, 1, 0, 1, 0, 0] (vRet env [.tmp 4] (.c .b) [] [] r O) (retKE (vRet env [.tmp 4] (.c .b) [] [] r O))).2 ⟨[(0, (L s0)), (3, (.one (.op 1900 0))), (64, (L s64)), (65, (Z s65)), (66, (Z s66))], [(1900, (.var [(.d (.int .i64 s3)), (.d (.int .i64 s31)), (.d (.sl s32))]))]⟩
theorem impl_formOk_L6_of {r : AV} {O : List (Nat × Ob)} {s0 : List (List Da)} {s64 : List (List Da)} {s65 : Int} {s66 : Int} {s3 : Int} {s31 : Int} {s32 : List (List Da)} (h : ifB (decide (s66 < s65))
  ((∃ (m : Nat), (s66 = ((↑m : Int)) ∧ (∃ (n : Int), (∃ (n1 : Int), (∃ (xs : List (List Da)), ((s64[m]?) = some [(.int .i64 n), (.int .i64 n1), (.sl xs)] ∧ (∃ (b : Bool), (XC Try.prog 176 [(L s0), (.dat [(.int .i64 n), (.int .i64 n1), (.sl xs)])] [] (B b) [] ∧ ifB (!b)
  (((B (false)) = r ∧ [] = O))
  ((∃ (m1 : Nat), (s3 = ((↑m1 : Int)) ∧ (∃ (q : ByteArray), (∃ (n2 : Int), (∃ (b1 : Bool), ((s0[m1]?) = some [(.str q), (.int .i64 n2), (.bool b1)] ∧ ifB b1
  (ifB (decide (n = s3))
  (((B (false)) = r ∧ [] = O))
  (ifB (decide ((0 : Int) < s66))
  ((∃ (m2 : Nat), ((IntKind.wrap IntKind.i64 (s66 - (1 : Int))) = ((↑m2 : Int)) ∧ (∃ (n3 : Int), (∃ (n4 : Int), (∃ (xs1 : List (List Da)), ((s32[m2]?) = some [(.int .i64 n3), (.int .i64 n4), (.sl xs1)] ∧ (∃ (b2 : Bool), (XC Try.prog 106 [(.dat [(.int .i64 n), (.int .i64 n1), (.sl xs)]), (.dat [(.int .i64 n3), (.int .i64 n4), (.sl xs1)])] [] (B b2) [] ∧ ifB b2
  (((B (false)) = r ∧ [] = O))
  (impl_formOk_L6 r O s0 s64 s65 (IntKind.wrap IntKind.i64 (s66 + (1 : Int))) s3 s31 s32))))))))))
  (impl_formOk_L6 r O s0 s64 s65 (IntKind.wrap IntKind.i64 (s66 + (1 : Int))) s3 s31 s32)))
  (impl_formOk_L6 r O s0 s64 s65 (IntKind.wrap IntKind.i64 (s66 + (1 : Int))) s3 s31 s32)))))))))))))))))
  (((B (true)) = r ∧ [] = O))) : impl_formOk_L6 r O s0 s64 s65 s66 s3 s31 s32 := by
  unfold impl_formOk_L6
  refine cl_of (E := env) (hs := impl_formOk_h) envOk mixed ?_
  exact to_vc (by kernel_rfl) h
theorem impl_formOk_of {p : List (List Da)} {p1 : Int} {p2 : Int} {p3 : List (List Da)} {r : AV} {O : List (Nat × Ob)} (h : (∃ (b : Bool), (XC Try.prog 85 [(.dat [(.int .i64 p1), (.int .i64 p2), (.sl p3)])] [] (B b) [] ∧ ifB b
  ((∃ (b1 : Bool), (XC Try.prog 145 [(Z p2), (Z ((0 : Int))), (Z ((99 : Int)))] [] (B b1) [] ∧ ifB b1
  (((B (decide ((↑(List.length p3) : Int) = (0 : Int)))) = r ∧ [] = O))
  (((B (false)) = r ∧ [] = O)))))
  ((∃ (b2 : Bool), (XC Try.prog 168 [(L p), (Z p1)] [] (B b2) [] ∧ ifB (!b2)
  (((B (false)) = r ∧ [] = O))
  (ifB (decide (p2 ≠ (0 : Int)))
  (((B (false)) = r ∧ [] = O))
  ((∃ (m : Nat), (p1 = ((↑m : Int)) ∧ (∃ (q : ByteArray), (∃ (n : Int), (∃ (b3 : Bool), ((p[m]?) = some [(.str q), (.int .i64 n), (.bool b3)] ∧ ifB (!b3)
  ((∃ (m1 : Nat), (p1 = ((↑m1 : Int)) ∧ (∃ (q1 : ByteArray), (∃ (n1 : Int), (∃ (b4 : Bool), ((p[m1]?) = some [(.str q1), (.int .i64 n1), (.bool b4)] ∧ ifB (decide ((↑(List.length p3) : Int) ≠ n1))
  (((B (false)) = r ∧ [] = O))
  ((∃ (m2 : Nat), (p1 = ((↑m2 : Int)) ∧ (∃ (q2 : ByteArray), (∃ (n2 : Int), (∃ (b5 : Bool), ((p[m2]?) = some [(.str q2), (.int .i64 n2), (.bool b5)] ∧ ifB b5
  (ifB (decide ((↑(List.length p3) : Int) < (2 : Int)))
  (((B (false)) = r ∧ [] = O))
  (impl_formOk_L6 r O p p3 ((↑(List.length p3) : Int)) ((0 : Int)) p1 p2 p3))
  (impl_formOk_L6 r O p p3 ((↑(List.length p3) : Int)) ((0 : Int)) p1 p2 p3)))))))))))))))
  ((∃ (m3 : Nat), (p1 = ((↑m3 : Int)) ∧ (∃ (q3 : ByteArray), (∃ (n3 : Int), (∃ (b6 : Bool), ((p[m3]?) = some [(.str q3), (.int .i64 n3), (.bool b6)] ∧ ifB b6
  (ifB (decide ((↑(List.length p3) : Int) < (2 : Int)))
  (((B (false)) = r ∧ [] = O))
  (impl_formOk_L6 r O p p3 ((↑(List.length p3) : Int)) ((0 : Int)) p1 p2 p3))
  (impl_formOk_L6 r O p p3 ((↑(List.length p3) : Int)) ((0 : Int)) p1 p2 p3)))))))))))))))))))))) : XC Try.prog 176 [(L p), (.dat [(.int .i64 p1), (.int .i64 p2), (.sl p3)])] [] r O :=
  xc_of (E := env) (hs := impl_formOk_h) (c := (bodyOf Try.f176)) (n := 105) (res := [.tmp 4]) (rs := .c .b) (ks := []) (dir := []) envOk mixed rfl Try.func176 (by kernel_rfl) (by kernel_rfl) (by kernel_rfl) (by kernel_rfl) (to_vc (by kernel_rfl) h)

/-- slices.IndexFunc[[]int,int] -/
def slices_IndexFunc_int_impl_RuleOk_1_h : Hints := ⟨[(2, ⟨[0, 1, 7, 8], [], [], [], [], [], []⟩)], []⟩
def slices_IndexFunc_int_impl_RuleOk_1_L2 (r : AV) (O : List (Nat × Ob)) (s : List (List Da)) (s7 : Int) (s8 : Int) : Prop := CL 19 Try.prog (subC (bodyOf Try.f160) [1, 0, 1, 0, 0]) (kont Try.prog env slices_IndexFunc_int_impl_RuleOk_1_h 19 (bodyOf Try.f160) [1, 0, 1, 0, 0] (vRet env [.tmp 4] (.c (.i .i64)) [] [] r O) (retKE (vRet env [.tmp 4] (.c (.i .i64)) [] [] r O))).1 (kont Try.prog env slices_IndexFunc_int_impl_RuleOk_1_h 19 (bodyOf Try.f160) [1, 0, 1, 0, 0] (vRet env [.tmp 4] (.c (.i .i64)) [] [] r O) (retKE (vRet env [.tmp 4] (.c (.i .i64)) [] [] r O))).2 ⟨[(0, (L s)), (1, (.one (.d (.fn 126)))), (7, (Z s7)), (8, (Z s8))], []⟩
theorem slices_IndexFunc_int_impl_RuleOk_1_L2_of {r : AV} {O : List (Nat × Ob)} {s : List (List Da)} {s7 : Int} {s8 : Int} (h : ifB (decide (s8 < s7))
  ((∃ (m : Nat), (s8 = ((↑m : Int)) ∧ (∃ (n : Int), ((s[m]?) = some [(.int .i64 n)] ∧ (∃ (b : Bool), (XC Try.prog 126 [(Z n)] [] (B b) [] ∧ ifB b
  (((Z s8) = r ∧ [] = O))
  (slices_IndexFunc_int_impl_RuleOk_1_L2 r O s s7 (IntKind.wrap IntKind.i64 (s8 + (1 : Int)))))))))))
  (((Z ((-1 : Int))) = r ∧ [] = O))) : slices_IndexFunc_int_impl_RuleOk_1_L2 r O s s7 s8 := by
  unfold slices_IndexFunc_int_impl_RuleOk_1_L2
  refine cl_of (E := env) (hs := slices_IndexFunc_int_impl_RuleOk_1_h) envOk mixed ?_
  exact to_vc (by kernel_rfl) h
theorem slices_IndexFunc_int_impl_RuleOk_1_of {s : List (List Da)} {r : AV} {O : List (Nat × Ob)} (h : slices_IndexFunc_int_impl_RuleOk_1_L2 r O s ((↑(List.length s) : Int)) ((0 : Int))) : XC Try.prog 160 [(L s), (.one (.d (.fn 126)))] [] r O :=
  xc_of (E := env) (hs := slices_IndexFunc_int_impl_RuleOk_1_h) (c := (bodyOf Try.f160)) (n := 19) (res := [.tmp 4]) (rs := .c (.i .i64)) (ks := []) (dir := []) envOk mixed rfl Try.func160 (by kernel_rfl) (by kernel_rfl) (by kernel_rfl) (by kernel_rfl) (to_vc (by kernel_rfl) h)

/-- slices.IndexFunc[[]int,int] -/
def slices_IndexFunc_int_impl_RuleOk_2_h : Hints := ⟨[(2, ⟨[0, 1, 7, 8], [], [], [], [], [], []⟩)], []⟩
def slices_IndexFunc_int_impl_RuleOk_2_L2 (r : AV) (O : List (Nat × Ob)) (s : List (List Da)) (s7 : Int) (s8 : Int) (o2000 : List (List Da)) : Prop := CL 19 Try.prog (subC (bodyOf Try.f160) [1, 0, 1, 0, 0]) (kont Try.prog env slices_IndexFunc_int_impl_RuleOk_2_h 19 (bodyOf Try.f160) [1, 0, 1, 0, 0] (vRet env [.tmp 4] (.c (.i .i64)) [(2000, (true)), (2001, (false))] [2000] r O) (retKE (vRet env [.tmp 4] (.c (.i .i64)) [(2000, (true)), (2001, (false))] [2000] r O))).1 (kont Try.prog env slices_IndexFunc_int_impl_RuleOk_2_h 19 (bodyOf Try.f160) [1, 0, 1, 0, 0] (vRet env [.tmp 4] (.c (.i .i64)) [(2000, (true)), (2001, (false))] [2000] r O) (retKE (vRet env [.tmp 4] (.c (.i .i64)) [(2000, (true)), (2001, (false))] [2000] r O))).2 ⟨[(0, (L s)), (1, (.one (.clo 127 [(2000, 0)]))), (7, (Z s7)), (8, (Z s8))], [(2000, (.var [(.ol 1900)])), (1900, (.tr 3 1 o2000))]⟩
theorem slices_IndexFunc_int_impl_RuleOk_2_L2_of {r : AV} {O : List (Nat × Ob)} {s : List (List Da)} {s7 : Int} {s8 : Int} {o2000 : List (List Da)} (h : ifB (decide (s8 < s7))
  ((∃ (m : Nat), (s8 = ((↑m : Int)) ∧ (∃ (n : Int), ((s[m]?) = some [(.int .i64 n)] ∧ (∃ (b : Bool), (∃ (xs : List (List Da)), (XC Try.prog 127 [(Z n), (.one (.op 2000 0))] [(2000, (.var [(.ol 2001)])), (2001, (.tr 3 1 o2000))] (B b) [(2000, (.var [(.ol 0)])), (0, (.tr 3 1 xs))] ∧ ifB b
  (((Z s8) = r ∧ [(2000, (.var [(.ol 0)])), (0, (.tr 3 1 xs))] = O))
  (slices_IndexFunc_int_impl_RuleOk_2_L2 r O s s7 (IntKind.wrap IntKind.i64 (s8 + (1 : Int))) xs)))))))))
  (((Z ((-1 : Int))) = r ∧ [(2000, (.var [(.ol 0)])), (0, (.tr 3 1 o2000))] = O))) : slices_IndexFunc_int_impl_RuleOk_2_L2 r O s s7 s8 o2000 := by
  unfold slices_IndexFunc_int_impl_RuleOk_2_L2
  refine cl_of (E := env) (hs := slices_IndexFunc_int_impl_RuleOk_2_h) envOk mixed ?_
  exact to_vc (by kernel_rfl) h
theorem slices_IndexFunc_int_impl_RuleOk_2_of {s : List (List Da)} {o2000 : List (List Da)} {r : AV} {O : List (Nat × Ob)} (h : slices_IndexFunc_int_impl_RuleOk_2_L2 r O s ((↑(List.length s) : Int)) ((0 : Int)) o2000) : XC Try.prog 160 [(L s), (.one (.clo 127 [(2000, 0)]))] [(2000, (.var [(.ol 2001)])), (2001, (.tr 3 1 o2000))] r O :=
  xc_of (E := env) (hs := slices_IndexFunc_int_impl_RuleOk_2_h) (c := (bodyOf Try.f160)) (n := 19) (res := [.tmp 4]) (rs := .c (.i .i64)) (ks := [(2000, (true)), (2001, (false))]) (dir := [2000]) envOk mixed rfl Try.func160 (by kernel_rfl) (by kernel_rfl) (by kernel_rfl) (by kernel_rfl) (to_vc (by kernel_rfl) h)

/-- loop.example/g00461/laws.szIntS -/
def laws_szIntS_h : Hints := ⟨[], []⟩
theorem laws_szIntS_of {a : List (List Da)} {left : Int} {r : AV} {O : List (Nat × Ob)} (h : ifB (decide (IntKind.wrap IntKind.i64 (left - (↑(List.length a) : Int)) < (0 : Int)))
  (((Z ((-1 : Int))) = r ∧ [] = O))
  (((Z (IntKind.wrap IntKind.i64 (left - (↑(List.length a) : Int)))) = r ∧ [] = O))) : XC Try.prog 181 [(L a), (Z left)] [] r O :=
  xc_of (E := env) (hs := laws_szIntS_h) (c := (bodyOf Try.f181)) (n := 12) (res := [.tmp 4]) (rs := .c (.i .i64)) (ks := []) (dir := []) envOk mixed rfl Try.func181 (by kernel_rfl) (by kernel_rfl) (by kernel_rfl) (by kernel_rfl) (to_vc (by kernel_rfl) h)

/-- loop.example/g00461/laws.szBindS -/
def laws_szBindS_h : Hints := ⟨[(5, ⟨[0, 1, 5], [], [], [], [], [], []⟩)], []⟩
def laws_szBindS_L5 (r : AV) (O : List (Nat × Ob)) (a : List (List Da)) (left : Int) (i : Int) : Prop := CL 27 Try.prog (subC (bodyOf Try.f58) [1, 1, 1, 0, 1, 0, 0]) (kont Try.prog env laws_szBindS_h 27 (bodyOf Try.f58) [1, 1, 1, 0, 1, 0, 0] (vRet env [.tmp 4] (.c (.i .i64)) [] [] r O) (retKE (vRet env [.tmp 4] (.c (.i .i64)) [] [] r O))).1 (kont Try.prog env laws_szBindS_h 27 (bodyOf Try.f58) [1, 1, 1, 0, 1, 0, 0] (vRet env [.tmp 4] (.c (.i .i64)) [] [] r O) (retKE (vRet env [.tmp 4] (.c (.i .i64)) [] [] r O))).2 ⟨[(0, (L a)), (1, (Z left)), (5, (Z i))], []⟩
theorem laws_szBindS_L5_of {r : AV} {O : List (Nat × Ob)} {a : List (List Da)} {left : Int} {i : Int} (h : ifB (decide (i < (↑(List.length a) : Int)))
  ((∃ (m : Nat), (i = ((↑m : Int)) ∧ (∃ (n : Int), (∃ (n1 : Int), (∃ (n2 : Int), (∃ (xs : List (List Da)), ((a[m]?) = some [(.int .i64 n), (.int .i64 n1), (.int .i64 n2), (.sl xs)] ∧ (∃ (n3 : Int), (XC Try.prog 129 [(.dat [(.int .i64 n), (.int .i64 n1), (.int .i64 n2), (.sl xs)]), (Z left)] [] (Z n3) [] ∧ ifB (decide (n3 < (0 : Int)))
  (((Z ((-1 : Int))) = r ∧ [] = O))
  (laws_szBindS_L5 r O a n3 (IntKind.wrap IntKind.i64 (i + (1 : Int))))))))))))))
  (((Z left) = r ∧ [] = O))) : laws_szBindS_L5 r O a left i := by
  unfold laws_szBindS_L5
  refine cl_of (E := env) (hs := laws_szBindS_h) envOk mixed ?_
  exact to_vc (by kernel_rfl) h
theorem laws_szBindS_of {a : List (List Da)} {left : Int} {r : AV} {O : List (Nat × Ob)} (h : ifB (decide (IntKind.wrap IntKind.i64 (left - (↑(List.length a) : Int)) < (0 : Int)))
  (((Z ((-1 : Int))) = r ∧ [] = O))
  (laws_szBindS_L5 r O a (IntKind.wrap IntKind.i64 (left - (↑(List.length a) : Int))) ((0 : Int)))) : XC Try.prog 58 [(L a), (Z left)] [] r O :=
  xc_of (E := env) (hs := laws_szBindS_h) (c := (bodyOf Try.f58)) (n := 27) (res := [.tmp 4]) (rs := .c (.i .i64)) (ks := []) (dir := []) envOk mixed rfl Try.func58 (by kernel_rfl) (by kernel_rfl) (by kernel_rfl) (by kernel_rfl) (to_vc (by kernel_rfl) h)

/-- loop.example/g00461/laws.toIntS -/
def laws_toIntS_h : Hints := ⟨[(3, ⟨[0, 3, 4], [], [], [], [], [], []⟩)], []⟩
def laws_toIntS_L3 (r : AV) (O : List (Nat × Ob)) (a : List (List Da)) (i : Int) (out : List (List Da)) : Prop := CL 22 Try.prog (subC (bodyOf Try.f46) [1, 1, 0, 1, 0, 0]) (kont Try.prog env laws_toIntS_h 22 (bodyOf Try.f46) [1, 1, 0, 1, 0, 0] (vRet env [.tmp 2] (.o 3 1) [] [] r O) (retKE (vRet env [.tmp 2] (.o 3 1) [] [] r O))).1 (kont Try.prog env laws_toIntS_h 22 (bodyOf Try.f46) [1, 1, 0, 1, 0, 0] (vRet env [.tmp 2] (.o 3 1) [] [] r O) (retKE (vRet env [.tmp 2] (.o 3 1) [] [] r O))).2 ⟨[(0, (L a)), (3, (.one (.ol 1900))), (4, (Z i))], [(1900, (.tr 3 1 out))]⟩
theorem laws_toIntS_L3_of {r : AV} {O : List (Nat × Ob)} {a : List (List Da)} {i : Int} {out : List (List Da)} (h : ifB (decide (i < (↑(List.length a) : Int)))
  ((∃ (m : Nat), (i = ((↑m : Int)) ∧ (∃ (n : Int), ((a[m]?) = some [(.int .i64 n)] ∧ (∃ (m1 : Nat), (i = ((↑m1 : Int)) ∧ (Do (m1 < List.length out) ∧ (∃ (m2 : Nat), ((m1 * (1 : Nat)) = (m2 * (1 : Nat) + (0 : Nat)) ∧ (∃ (n1 : Int), ((out[m2]?) = some [(.int .i64 n1)] ∧ laws_toIntS_L3 r O a (IntKind.wrap IntKind.i64 (i + (1 : Int))) (List.set out m2 ([] ++ [Da.int IntKind.i64 n] ++ []))))))))))))))
  (((.one (.ol 0)) = r ∧ [(0, (.tr 3 1 out))] = O))) : laws_toIntS_L3 r O a i out := by
  unfold laws_toIntS_L3
  refine cl_of (E := env) (hs := laws_toIntS_h) envOk mixed ?_
  exact to_vc (by kernel_rfl) h
theorem laws_toIntS_of {a : List (List Da)} {r : AV} {O : List (Nat × Ob)} (h : (∃ (l : Nat), (∃ (c : Nat), (((↑(List.length a) : Int)) = ((↑l : Int)) ∧ (((↑(List.length a) : Int)) = ((↑c : Int)) ∧ (Do (l ≤ c ∧ (8 : Nat) * c ≤ (281474976710656 : Nat) ∧ c ≤ (281474976710656 : Nat)) ∧ laws_toIntS_L3 r O a ((0 : Int)) (List.replicate l [Da.int IntKind.i64 (0 : Int)]))))))) : XC Try.prog 46 [(L a)] [] r O :=
  xc_of (E := env) (hs := laws_toIntS_h) (c := (bodyOf Try.f46)) (n := 22) (res := [.tmp 2]) (rs := .o 3 1) (ks := []) (dir := []) envOk mixed rfl Try.func46 (by kernel_rfl) (by kernel_rfl) (by kernel_rfl) (by kernel_rfl) (to_vc (by kernel_rfl) h)

/-- loop.example/g00461/laws.toBindS -/
def laws_toBindS_h : Hints := ⟨[(3, ⟨[0, 3, 4], [], [], [], [], [], []⟩)], []⟩
def laws_toBindS_L3 (r : AV) (O : List (Nat × Ob)) (a : List (List Da)) (i : Int) (out : List (List Da)) : Prop := CL 23 Try.prog (subC (bodyOf Try.f61) [1, 1, 0, 1, 0, 0]) (kont Try.prog env laws_toBindS_h 23 (bodyOf Try.f61) [1, 1, 0, 1, 0, 0] (vRet env [.tmp 2] (.o 149 4) [] [] r O) (retKE (vRet env [.tmp 2] (.o 149 4) [] [] r O))).1 (kont Try.prog env laws_toBindS_h 23 (bodyOf Try.f61) [1, 1, 0, 1, 0, 0] (vRet env [.tmp 2] (.o 149 4) [] [] r O) (retKE (vRet env [.tmp 2] (.o 149 4) [] [] r O))).2 ⟨[(0, (L a)), (3, (.one (.ol 1900))), (4, (Z i))], [(1900, (.tr 149 4 out))]⟩
theorem laws_toBindS_L3_of {r : AV} {O : List (Nat × Ob)} {a : List (List Da)} {i : Int} {out : List (List Da)} (h : ifB (decide (i < (↑(List.length a) : Int)))
  ((∃ (m : Nat), (i = ((↑m : Int)) ∧ (∃ (n : Int), (∃ (n1 : Int), (∃ (n2 : Int), (∃ (xs : List (List Da)), ((a[m]?) = some [(.int .i64 n), (.int .i64 n1), (.int .i64 n2), (.sl xs)] ∧ (∃ (n3 : Int), (∃ (n4 : Int), (∃ (n5 : Int), (∃ (xs1 : List (List Da)), (XC Try.prog 131 [(.dat [(.int .i64 n), (.int .i64 n1), (.int .i64 n2), (.sl xs)])] [] (.agg [(.d (.int .i64 n3)), (.d (.int .i64 n4)), (.d (.int .i64 n5)), (.ol 0)]) [(0, (.tr 30 3 xs1))] ∧ (∃ (m1 : Nat), (i = ((↑m1 : Int)) ∧ (Do (m1 < List.length out) ∧ (∃ (m2 : Nat), ((m1 * (4 : Nat)) = (m2 * (4 : Nat) + (0 : Nat)) ∧ (∃ (n6 : Int), (∃ (n7 : Int), (∃ (n8 : Int), (∃ (xs2 : List (List Da)), ((out[m2]?) = some [(.int .i64 n6), (.int .i64 n7), (.int .i64 n8), (.sl xs2)] ∧ laws_toBindS_L3 r O a (IntKind.wrap IntKind.i64 (i + (1 : Int))) (List.set out m2 ([] ++ [Da.int IntKind.i64 n3, Da.int IntKind.i64 n4, Da.int IntKind.i64 n5, Da.sl xs1] ++ [])))))))))))))))))))))))))
  (((.one (.ol 0)) = r ∧ [(0, (.tr 149 4 out))] = O))) : laws_toBindS_L3 r O a i out := by
  unfold laws_toBindS_L3
  refine cl_of (E := env) (hs := laws_toBindS_h) envOk mixed ?_
  exact to_vc (by kernel_rfl) h
theorem laws_toBindS_of {a : List (List Da)} {r : AV} {O : List (Nat × Ob)} (h : (∃ (l : Nat), (∃ (c : Nat), (((↑(List.length a) : Int)) = ((↑l : Int)) ∧ (((↑(List.length a) : Int)) = ((↑c : Int)) ∧ (Do (l ≤ c ∧ (48 : Nat) * c ≤ (281474976710656 : Nat) ∧ c ≤ (281474976710656 : Nat)) ∧ laws_toBindS_L3 r O a ((0 : Int)) (List.replicate l [Da.int IntKind.i64 (0 : Int), Da.int IntKind.i64 (0 : Int), Da.int IntKind.i64 (0 : Int), Da.sl []]))))))) : XC Try.prog 61 [(L a)] [] r O :=
  xc_of (E := env) (hs := laws_toBindS_h) (c := (bodyOf Try.f61)) (n := 23) (res := [.tmp 2]) (rs := .o 149 4) (ks := []) (dir := []) envOk mixed rfl Try.func61 (by kernel_rfl) (by kernel_rfl) (by kernel_rfl) (by kernel_rfl) (to_vc (by kernel_rfl) h)

/-- slices.Contains[[]int,int] -/
def slices_Contains_int_h : Hints := ⟨[], []⟩
theorem slices_Contains_int_of {s : List (List Da)} {v : Int} {r : AV} {O : List (Nat × Ob)} (h : (∃ (n : Int), (XC Try.prog 151 [(L s), (Z v)] [] (Z n) [] ∧ ((B (decide ((0 : Int) ≤ n))) = r ∧ [] = O)))) : XC Try.prog 177 [(L s), (Z v)] [] r O :=
  xc_of (E := env) (hs := slices_Contains_int_h) (c := (bodyOf Try.f177)) (n := 9) (res := [.tmp 4]) (rs := .c .b) (ks := []) (dir := []) envOk mixed rfl Try.func177 (by kernel_rfl) (by kernel_rfl) (by kernel_rfl) (by kernel_rfl) (to_vc (by kernel_rfl) h)

/-- loop.example/g00461/impl.usesB -/
def impl_usesB_h : Hints := ⟨[], []⟩
theorem impl_usesB_of {p : Int} {p1 : Int} {p2 : Int} {p3 : Int} {p4 : Int} {p5 : Bool} {p6 : Bool} {p7 : List (List Da)} {p8 : Bool} {p9 : List (List Da)} {p10 : List (List Da)} {r : AV} {O : List (Nat × Ob)} (h : ifB (decide (p = (4 : Int)))
  (((B (true)) = r ∧ [] = O))
  (((B (decide (p = (5 : Int)))) = r ∧ [] = O))) : XC Try.prog 182 [(.dat [(.int .i64 p), (.int .i64 p1), (.int .i64 p2), (.int .i64 p3), (.int .i64 p4), (.bool p5), (.bool p6), (.sl p7), (.bool p8), (.sl p9), (.sl p10)])] [] r O :=
  xc_of (E := env) (hs := impl_usesB_h) (c := (bodyOf Try.f182)) (n := 11) (res := [.tmp 2]) (rs := .c .b) (ks := []) (dir := []) envOk mixed rfl Try.func182 (by kernel_rfl) (by kernel_rfl) (by kernel_rfl) (by kernel_rfl) (to_vc (by kernel_rfl) h)

/-- loop.example/g00461/laws.eqBindS -/
def laws_eqBindS_h : Hints := ⟨[(4, ⟨[0, 1, 5], [], [], [], [], [], []⟩)], []⟩
def laws_eqBindS_L4 (r : AV) (O : List (Nat × Ob)) (a : List (List Da)) (b : List (List Da)) (i : Int) : Prop := CL 27 Try.prog (subC (bodyOf Try.f64) [1, 1, 0, 1, 0, 0]) (kont Try.prog env laws_eqBindS_h 27 (bodyOf Try.f64) [1, 1, 0, 1, 0, 0] (vRet env [.tmp 4] (.c .b) [] [] r O) (retKE (vRet env [.tmp 4] (.c .b) [] [] r O))).1 (kont Try.prog env laws_eqBindS_h 27 (bodyOf Try.f64) [1, 1, 0, 1, 0, 0] (vRet env [.tmp 4] (.c .b) [] [] r O) (retKE (vRet env [.tmp 4] (.c .b) [] [] r O))).2 ⟨[(0, (L a)), (1, (L b)), (5, (Z i))], []⟩
theorem laws_eqBindS_L4_of {r : AV} {O : List (Nat × Ob)} {a : List (List Da)} {b : List (List Da)} {i : Int} (h : ifB (decide (i < (↑(List.length a) : Int)))
  ((∃ (m : Nat), (i = ((↑m : Int)) ∧ (∃ (n : Int), (∃ (n1 : Int), (∃ (n2 : Int), (∃ (xs : List (List Da)), ((a[m]?) = some [(.int .i64 n), (.int .i64 n1), (.int .i64 n2), (.sl xs)] ∧ (∃ (m1 : Nat), (i = ((↑m1 : Int)) ∧ (∃ (n3 : Int), (∃ (n4 : Int), (∃ (n5 : Int), (∃ (xs1 : List (List Da)), ((b[m1]?) = some [(.int .i64 n3), (.int .i64 n4), (.int .i64 n5), (.sl xs1)] ∧ (∃ (b2 : Bool), (XC Try.prog 133 [(.dat [(.int .i64 n), (.int .i64 n1), (.int .i64 n2), (.sl xs)]), (.dat [(.int .i64 n3), (.int .i64 n4), (.int .i64 n5), (.sl xs1)])] [] (B b2) [] ∧ ifB (!b2)
  (((B (false)) = r ∧ [] = O))
  (laws_eqBindS_L4 r O a b (IntKind.wrap IntKind.i64 (i + (1 : Int)))))))))))))))))))))
  (((B (true)) = r ∧ [] = O))) : laws_eqBindS_L4 r O a b i := by
  unfold laws_eqBindS_L4
  refine cl_of (E := env) (hs := laws_eqBindS_h) envOk mixed ?_
  exact to_vc (by kernel_rfl) h
theorem laws_eqBindS_of {a : List (List Da)} {b : List (List Da)} {r : AV} {O : List (Nat × Ob)} (h : ifB (decide ((↑(List.length a) : Int) ≠ (↑(List.length b) : Int)))
  (((B (false)) = r ∧ [] = O))
  (laws_eqBindS_L4 r O a b ((0 : Int)))) : XC Try.prog 64 [(L a), (L b)] [] r O :=
  xc_of (E := env) (hs := laws_eqBindS_h) (c := (bodyOf Try.f64)) (n := 27) (res := [.tmp 4]) (rs := .c .b) (ks := []) (dir := []) envOk mixed rfl Try.func64 (by kernel_rfl) (by kernel_rfl) (by kernel_rfl) (by kernel_rfl) (to_vc (by kernel_rfl) h)

/-- loop.example/g00461/impl.copyTerm -/
def impl_copyTerm_h : Hints := ⟨[], []⟩
theorem impl_copyTerm_of {t : Int} {t1 : Int} {t2 : List (List Da)} {r : AV} {O : List (Nat × Ob)} (h : (∃ (xs : List (List Da)), (XC Try.prog 169 [(L t2)] [] (.one (.ol 0)) [(0, (.tr 30 3 xs))] ∧ ((.agg [(.d (.int .i64 t)), (.d (.int .i64 t1)), (.ol 0)]) = r ∧ [(0, (.tr 30 3 xs))] = O)))) : XC Try.prog 117 [(.dat [(.int .i64 t), (.int .i64 t1), (.sl t2)])] [] r O :=
  xc_of (E := env) (hs := impl_copyTerm_h) (c := (bodyOf Try.f117)) (n := 8) (res := [.cell 2 30]) (rs := .s [.k (.i .i64), .k (.i .i64), .o 30 3]) (ks := []) (dir := []) envOk mixed rfl Try.func117 (by kernel_rfl) (by kernel_rfl) (by kernel_rfl) (by kernel_rfl) (to_vc (by kernel_rfl) h)

/-- loop.example/g00461/impl.Less$1 -/
def impl_Less_1_h : Hints := ⟨[], []⟩
theorem impl_Less_1_of {l : Bool} {l1 : Int} {l2 : Int} {l3 : List (List Da)} {l4 : Int} {l5 : Int} {l6 : List (List Da)} {r : AV} {O : List (Nat × Ob)} (h : ifB (!l)
  ((∃ (b : Bool), (XC Try.prog 95 [(.dat [(.int .i64 l1), (.int .i64 l2), (.sl l3)]), (.dat [(.int .i64 l4), (.int .i64 l5), (.sl l6)])] [] (B b) [] ∧ ((B b) = r ∧ [] = O))))
  (((B (false)) = r ∧ [] = O))) : XC Try.prog 94 [(.dat [(.bool l), (.int .i64 l1), (.int .i64 l2), (.sl l3), (.int .i64 l4), (.int .i64 l5), (.sl l6)])] [] r O :=
  xc_of (E := env) (hs := impl_Less_1_h) (c := (bodyOf Try.f94)) (n := 13) (res := [.tmp 2]) (rs := .c .b) (ks := []) (dir := []) envOk mixed rfl Try.func94 (by kernel_rfl) (by kernel_rfl) (by kernel_rfl) (by kernel_rfl) (to_vc (by kernel_rfl) h)

/-- loop.example/g00461/impl.VarsOf$1 -/
def impl_VarsOf_1_h : Hints := ⟨[], []⟩
theorem impl_VarsOf_1_of {x : Int} {x1 : Int} {x2 : List (List Da)} {o2000 : List (List Da)} {r : AV} {O : List (Nat × Ob)} (h : (∃ (b : Bool), (XC Try.prog 85 [(.dat [(.int .i64 x), (.int .i64 x1), (.sl x2)])] [] (B b) [] ∧ ifB b
  ((∃ (xs : List (List Da)), (XC Try.prog 102 [(L o2000), (Z x1)] [] (.one (.ol 0)) [(0, (.tr 3 1 xs))] ∧ ((.tup []) = r ∧ [(2000, (.var [(.ol 0)])), (0, (.tr 3 1 xs))] = O))))
  (((.tup []) = r ∧ [(2000, (.var [(.ol 0)])), (0, (.tr 3 1 o2000))] = O))))) : XC Try.prog 158 [(.dat [(.int .i64 x), (.int .i64 x1), (.sl x2)]), (.one (.op 2000 0))] [(2000, (.var [(.ol 2001)])), (2001, (.tr 3 1 o2000))] r O :=
  xc_of (E := env) (hs := impl_VarsOf_1_h) (c := (bodyOf Try.f158)) (n := 9) (res := []) (rs := .t []) (ks := [(2000, (true)), (2001, (false))]) (dir := [2000]) envOk mixed rfl Try.func158 (by kernel_rfl) (by kernel_rfl) (by kernel_rfl) (by kernel_rfl) (to_vc (by kernel_rfl) h)

/-- loop.example/g00461/impl.NumAdd$1 -/
def impl_NumAdd_1_h : Hints := ⟨[], []⟩
theorem impl_NumAdd_1_of {x : Int} {o2000 : Int} {r : AV} {O : List (Nat × Ob)} (h : ((B (decide (o2000 < x))) = r ∧ [(2000, (.var [(.d (.int .i64 o2000))]))] = O)) : XC Try.prog 161 [(Z x), (.one (.op 2000 0))] [(2000, (.var [(.d (.int .i64 o2000))]))] r O :=
  xc_of (E := env) (hs := impl_NumAdd_1_h) (c := (bodyOf Try.f161)) (n := 7) (res := [.tmp 3]) (rs := .c .b) (ks := [(2000, (true))]) (dir := [2000]) envOk mixed rfl Try.func161 (by kernel_rfl) (by kernel_rfl) (by kernel_rfl) (by kernel_rfl) (to_vc (by kernel_rfl) h)

/-- loop.example/g00461/spec.NameOk -/
def spec_NameOk_h : Hints := ⟨[(2, ⟨[0, 3], [], [], [], [], [], []⟩)], []⟩
def spec_NameOk_L2 (r : AV) (O : List (Nat × Ob)) (s : ByteArray) (i : Int) : Prop := CL 40 Try.prog (subC (bodyOf Try.f187) [1, 0, 1, 0, 0]) (kont Try.prog env spec_NameOk_h 40 (bodyOf Try.f187) [1, 0, 1, 0, 0] (vRet env [.tmp 2] (.c .b) [] [] r O) (retKE (vRet env [.tmp 2] (.c .b) [] [] r O))).1 (kont Try.prog env spec_NameOk_h 40 (bodyOf Try.f187) [1, 0, 1, 0, 0] (vRet env [.tmp 2] (.c .b) [] [] r O) (retKE (vRet env [.tmp 2] (.c .b) [] [] r O))).2 ⟨[(0, (T s)), (3, (Z i))], []⟩
theorem spec_NameOk_L2_of {r : AV} {O : List (Nat × Ob)} {s : ByteArray} {i : Int} (h : ifB (decide (i < (↑(ByteArray.size s) : Int)))
  ((∃ (n : Nat), (∃ (b : UInt8), (i = ((↑n : Int)) ∧ ((s[n]?) = some b ∧ ifB (decide ((97 : Int) ≤ (↑(UInt8.toNat b) : Int)))
  ((∃ (n1 : Nat), (∃ (b1 : UInt8), (i = ((↑n1 : Int)) ∧ ((s[n1]?) = some b1 ∧ ifB (decide ((↑(UInt8.toNat b1) : Int) ≤ (122 : Int)))
  (spec_NameOk_L2 r O s (IntKind.wrap IntKind.i64 (i + (1 : Int))))
  (ifB (decide ((0 : Int) < i))
  ((∃ (n2 : Nat), (∃ (b2 : UInt8), (i = ((↑n2 : Int)) ∧ ((s[n2]?) = some b2 ∧ ifB (decide ((48 : Int) ≤ (↑(UInt8.toNat b2) : Int)))
  ((∃ (n3 : Nat), (∃ (b3 : UInt8), (i = ((↑n3 : Int)) ∧ ((s[n3]?) = some b3 ∧ ifB (!decide ((↑(UInt8.toNat b3) : Int) ≤ (57 : Int)))
  (((B (false)) = r ∧ [] = O))
  (spec_NameOk_L2 r O s (IntKind.wrap IntKind.i64 (i + (1 : Int)))))))))
  (((B (false)) = r ∧ [] = O)))))))
  (((B (false)) = r ∧ [] = O))))))))
  (ifB (decide ((0 : Int) < i))
  ((∃ (n4 : Nat), (∃ (b4 : UInt8), (i = ((↑n4 : Int)) ∧ ((s[n4]?) = some b4 ∧ ifB (decide ((48 : Int) ≤ (↑(UInt8.toNat b4) : Int)))
  ((∃ (n5 : Nat), (∃ (b5 : UInt8), (i = ((↑n5 : Int)) ∧ ((s[n5]?) = some b5 ∧ ifB (!decide ((↑(UInt8.toNat b5) : Int) ≤ (57 : Int)))
  (((B (false)) = r ∧ [] = O))
  (spec_NameOk_L2 r O s (IntKind.wrap IntKind.i64 (i + (1 : Int)))))))))
  (((B (false)) = r ∧ [] = O)))))))
  (((B (false)) = r ∧ [] = O))))))))
  ((∃ (b6 : Bool), (XC Try.prog 141 [(Z ((↑(ByteArray.size s) : Int))), (Z ((1 : Int))), (Z ((8 : Int)))] [] (B b6) [] ∧ ((B b6) = r ∧ [] = O))))) : spec_NameOk_L2 r O s i := by
  unfold spec_NameOk_L2
  refine cl_of (E := env) (hs := spec_NameOk_h) envOk mixed ?_
  exact to_vc (by kernel_rfl) h
theorem spec_NameOk_of {s : ByteArray} {r : AV} {O : List (Nat × Ob)} (h : spec_NameOk_L2 r O s ((0 : Int))) : XC Try.prog 187 [(T s)] [] r O :=
  xc_of (E := env) (hs := spec_NameOk_h) (c := (bodyOf Try.f187)) (n := 40) (res := [.tmp 2]) (rs := .c .b) (ks := []) (dir := []) envOk mixed rfl Try.func187 (by kernel_rfl) (by kernel_rfl) (by kernel_rfl) (by kernel_rfl) (to_vc (by kernel_rfl) h)

/-- loop.example/g00461/spec.SymOf -/
def spec_SymOf_h : Hints := ⟨[(2, ⟨[0, 1, 5], [], [], [], [], [], []⟩)], []⟩
def spec_SymOf_L2 (r : AV) (O : List (Nat × Ob)) (s : List (List Da)) (name : ByteArray) (i : Int) : Prop := CL 20 Try.prog (subC (bodyOf Try.f188) [1, 0, 1, 0, 0]) (kont Try.prog env spec_SymOf_h 20 (bodyOf Try.f188) [1, 0, 1, 0, 0] (vRet env [.tmp 4] (.c (.i .i64)) [] [] r O) (retKE (vRet env [.tmp 4] (.c (.i .i64)) [] [] r O))).1 (kont Try.prog env spec_SymOf_h 20 (bodyOf Try.f188) [1, 0, 1, 0, 0] (vRet env [.tmp 4] (.c (.i .i64)) [] [] r O) (retKE (vRet env [.tmp 4] (.c (.i .i64)) [] [] r O))).2 ⟨[(0, (L s)), (1, (T name)), (5, (Z i))], []⟩
theorem spec_SymOf_L2_of {r : AV} {O : List (Nat × Ob)} {s : List (List Da)} {name : ByteArray} {i : Int} (h : ifB (decide (i < (↑(List.length s) : Int)))
  ((∃ (m : Nat), (i = ((↑m : Int)) ∧ (∃ (q : ByteArray), (∃ (n : Int), (∃ (b : Bool), ((s[m]?) = some [(.str q), (.int .i64 n), (.bool b)] ∧ ifB (decide (q = name))
  (((Z i) = r ∧ [] = O))
  (spec_SymOf_L2 r O s name (IntKind.wrap IntKind.i64 (i + (1 : Int)))))))))))
  (((Z ((-1 : Int))) = r ∧ [] = O))) : spec_SymOf_L2 r O s name i := by
  unfold spec_SymOf_L2
  refine cl_of (E := env) (hs := spec_SymOf_h) envOk mixed ?_
  exact to_vc (by kernel_rfl) h
theorem spec_SymOf_of {s : List (List Da)} {name : ByteArray} {r : AV} {O : List (Nat × Ob)} (h : spec_SymOf_L2 r O s name ((0 : Int))) : XC Try.prog 188 [(L s), (T name)] [] r O :=
  xc_of (E := env) (hs := spec_SymOf_h) (c := (bodyOf Try.f188)) (n := 20) (res := [.tmp 4]) (rs := .c (.i .i64)) (ks := []) (dir := []) envOk mixed rfl Try.func188 (by kernel_rfl) (by kernel_rfl) (by kernel_rfl) (by kernel_rfl) (to_vc (by kernel_rfl) h)

/-- loop.example/g00461/spec.Before -/
def spec_Before_h : Hints := ⟨[(8, ⟨[2, 3, 5], [], [], [], [], [], []⟩)], []⟩
def spec_Before_L8 (r : AV) (O : List (Nat × Ob)) (s5 : Int) (s2 : Int) (s21 : Int) (s22 : List (List Da)) (s3 : Int) (s31 : Int) (s32 : List (List Da)) : Prop := CL 70 Try.prog (subC (bodyOf Try.f104) [1, 1, 1, 1, 0, 1, 0, 0]) (kont Try.prog env spec_Before_h 70 (bodyOf Try.f104) [1, 1, 1, 1, 0, 1, 0, 0] (vRet env [.tmp 4] (.c .b) [] [] r O) (retKE (vRet env [.tmp 4] (.c .b) [] [] r O))).1 (kont Try.prog env spec_Before_h 70 (bodyOf Try.f104) [1, 1, 1, 1, 0, 1, 0, 0] (vRet env [.tmp 4] (.c .b) [] [] r O) (retKE (vRet env [.tmp 4] (.c .b) [] [] r O))).2 ⟨[(2, (.one (.op 1900 0))), (3, (.one (.op 1901 0))), (5, (Z s5))], [(1900, (.var [(.d (.int .i64 s2)), (.d (.int .i64 s21)), (.d (.sl s22))])), (1901, (.var [(.d (.int .i64 s3)), (.d (.int .i64 s31)), (.d (.sl s32))]))]⟩
theorem spec_Before_L8_of {r : AV} {O : List (Nat × Ob)} {s5 : Int} {s2 : Int} {s21 : Int} {s22 : List (List Da)} {s3 : Int} {s31 : Int} {s32 : List (List Da)} (h : ifB (decide (s5 < (↑(List.length s22) : Int)))
  ((∃ (m : Nat), (s5 = ((↑m : Int)) ∧ (∃ (n : Int), (∃ (n1 : Int), (∃ (xs : List (List Da)), ((s22[m]?) = some [(.int .i64 n), (.int .i64 n1), (.sl xs)] ∧ (∃ (m1 : Nat), (s5 = ((↑m1 : Int)) ∧ (∃ (n2 : Int), (∃ (n3 : Int), (∃ (xs1 : List (List Da)), ((s32[m1]?) = some [(.int .i64 n2), (.int .i64 n3), (.sl xs1)] ∧ (∃ (b : Bool), (XC Try.prog 89 [(.dat [(.int .i64 n), (.int .i64 n1), (.sl xs)]), (.dat [(.int .i64 n2), (.int .i64 n3), (.sl xs1)])] [] (B b) [] ∧ ifB (!b)
  ((∃ (m2 : Nat), (s5 = ((↑m2 : Int)) ∧ (∃ (n4 : Int), (∃ (n5 : Int), (∃ (xs2 : List (List Da)), ((s22[m2]?) = some [(.int .i64 n4), (.int .i64 n5), (.sl xs2)] ∧ (∃ (m3 : Nat), (s5 = ((↑m3 : Int)) ∧ (∃ (n6 : Int), (∃ (n7 : Int), (∃ (xs3 : List (List Da)), ((s32[m3]?) = some [(.int .i64 n6), (.int .i64 n7), (.sl xs3)] ∧ (∃ (b1 : Bool), (XC Try.prog 104 [(.dat [(.int .i64 n4), (.int .i64 n5), (.sl xs2)]), (.dat [(.int .i64 n6), (.int .i64 n7), (.sl xs3)])] [] (B b1) [] ∧ ((B b1) = r ∧ [] = O))))))))))))))))
  (spec_Before_L8 r O (IntKind.wrap IntKind.i64 (s5 + (1 : Int))) s2 s21 s22 s3 s31 s32))))))))))))))))
  (((B (false)) = r ∧ [] = O))) : spec_Before_L8 r O s5 s2 s21 s22 s3 s31 s32 := by
  unfold spec_Before_L8
  refine cl_of (E := env) (hs := spec_Before_h) envOk mixed ?_
  exact to_vc (by kernel_rfl) h
theorem spec_Before_of {p : Int} {p1 : Int} {p2 : List (List Da)} {p3 : Int} {p4 : Int} {p5 : List (List Da)} {r : AV} {O : List (Nat × Ob)} (h : ifB (decide (p ≠ p3))
  (((B (decide (p < p3))) = r ∧ [] = O))
  (ifB (decide (p1 ≠ p4))
  (((B (decide (p1 < p4))) = r ∧ [] = O))
  (ifB (decide ((↑(List.length p2) : Int) ≠ (↑(List.length p5) : Int)))
  (((B (decide ((↑(List.length p2) : Int) < (↑(List.length p5) : Int)))) = r ∧ [] = O))
  (spec_Before_L8 r O ((0 : Int)) p p1 p2 p3 p4 p5)))) : XC Try.prog 104 [(.dat [(.int .i64 p), (.int .i64 p1), (.sl p2)]), (.dat [(.int .i64 p3), (.int .i64 p4), (.sl p5)])] [] r O :=
  xc_of (E := env) (hs := spec_Before_h) (c := (bodyOf Try.f104)) (n := 70) (res := [.tmp 4]) (rs := .c .b) (ks := []) (dir := []) envOk mixed rfl Try.func104 (by kernel_rfl) (by kernel_rfl) (by kernel_rfl) (by kernel_rfl) (to_vc (by kernel_rfl) h)

/-- loop.example/g00461/impl.NameOk -/
def impl_NameOk_h : Hints := ⟨[(2, ⟨[0, 5, 6], [], [], [], [], [], []⟩)], []⟩
def impl_NameOk_L2 (r : AV) (O : List (Nat × Ob)) (s : ByteArray) (s5 : Int) (s6 : Int) : Prop := CL 30 Try.prog (subC (bodyOf Try.f189) [1, 0, 1, 0, 0]) (kont Try.prog env impl_NameOk_h 30 (bodyOf Try.f189) [1, 0, 1, 0, 0] (vRet env [.tmp 2] (.c .b) [] [] r O) (retKE (vRet env [.tmp 2] (.c .b) [] [] r O))).1 (kont Try.prog env impl_NameOk_h 30 (bodyOf Try.f189) [1, 0, 1, 0, 0] (vRet env [.tmp 2] (.c .b) [] [] r O) (retKE (vRet env [.tmp 2] (.c .b) [] [] r O))).2 ⟨[(0, (T s)), (5, (Z s5)), (6, (Z s6))], []⟩
theorem impl_NameOk_L2_of {r : AV} {O : List (Nat × Ob)} {s : ByteArray} {s5 : Int} {s6 : Int} (h : ifB (decide (s6 < s5))
  ((∃ (n : Nat), (∃ (b : UInt8), (s6 = ((↑n : Int)) ∧ ((s[n]?) = some b ∧ (∃ (b1 : Bool), (XC Try.prog 199 [(I .u8 ((↑(UInt8.toNat b) : Int)))] [] (B b1) [] ∧ ifB (!b1)
  ((∃ (n1 : Nat), (∃ (b2 : UInt8), (s6 = ((↑n1 : Int)) ∧ ((s[n1]?) = some b2 ∧ (∃ (b3 : Bool), (XC Try.prog 200 [(I .u8 ((↑(UInt8.toNat b2) : Int)))] [] (B b3) [] ∧ ifB (!b3)
  (((B (false)) = r ∧ [] = O))
  (impl_NameOk_L2 r O s s5 (IntKind.wrap IntKind.i64 (s6 + (1 : Int)))))))))))
  (impl_NameOk_L2 r O s s5 (IntKind.wrap IntKind.i64 (s6 + (1 : Int)))))))))))
  ((∃ (b4 : Bool), (XC Try.prog 145 [(Z ((↑(ByteArray.size s) : Int))), (Z ((1 : Int))), (Z ((8 : Int)))] [] (B b4) [] ∧ ifB b4
  ((∃ (n2 : Nat), (∃ (b5 : UInt8), (((0 : Int)) = ((↑n2 : Int)) ∧ ((s[n2]?) = some b5 ∧ (∃ (b6 : Bool), (XC Try.prog 199 [(I .u8 ((↑(UInt8.toNat b5) : Int)))] [] (B b6) [] ∧ ((B b6) = r ∧ [] = O))))))))
  (((B (false)) = r ∧ [] = O)))))) : impl_NameOk_L2 r O s s5 s6 := by
  unfold impl_NameOk_L2
  refine cl_of (E := env) (hs := impl_NameOk_h) envOk mixed ?_
  exact to_vc (by kernel_rfl) h
theorem impl_NameOk_of {s : ByteArray} {r : AV} {O : List (Nat × Ob)} (h : impl_NameOk_L2 r O s ((↑(ByteArray.size s) : Int)) ((0 : Int))) : XC Try.prog 189 [(T s)] [] r O :=
  xc_of (E := env) (hs := impl_NameOk_h) (c := (bodyOf Try.f189)) (n := 30) (res := [.tmp 2]) (rs := .c .b) (ks := []) (dir := []) envOk mixed rfl Try.func189 (by kernel_rfl) (by kernel_rfl) (by kernel_rfl) (by kernel_rfl) (to_vc (by kernel_rfl) h)

/-- loop.example/g00461/impl.SymOf -/
def impl_SymOf_h : Hints := ⟨[], []⟩
theorem impl_SymOf_of {s : List (List Da)} {name : ByteArray} {r : AV} {O : List (Nat × Ob)} (h : (∃ (n : Int), (∃ (q : ByteArray), (XC Try.prog 201 [(L s), (.one (.clo 202 [(2000, 0)]))] [(2000, (.var [(.d (.str name))]))] (Z n) [(2000, (.var [(.d (.str q))]))] ∧ ((Z n) = r ∧ [] = O))))) : XC Try.prog 190 [(L s), (T name)] [] r O :=
  xc_of (E := env) (hs := impl_SymOf_h) (c := (bodyOf Try.f190)) (n := 8) (res := [.tmp 4]) (rs := .c (.i .i64)) (ks := []) (dir := []) envOk mixed rfl Try.func190 (by kernel_rfl) (by kernel_rfl) (by kernel_rfl) (by kernel_rfl) (to_vc (by kernel_rfl) h)

/-- loop.example/g00461/impl.each -/
def impl_each_impl_Parts_1_h : Hints := ⟨[(3, ⟨[1, 10, 11, 12], [], [], [], [], [], []⟩)], []⟩
def impl_each_impl_Parts_1_L3 (r : AV) (O : List (Nat × Ob)) (s10 : List (List Da)) (s11 : Int) (s12 : Int) (o2000 : Int) : Prop := CL 20 Try.prog (subC (bodyOf Try.f157) [1, 1, 1, 0, 0]) (kont Try.prog env impl_each_impl_Parts_1_h 20 (bodyOf Try.f157) [1, 1, 1, 0, 0] (vRet env [] (.t []) [(2000, (true))] [2000] r O) (retKE (vRet env [] (.t []) [(2000, (true))] [2000] r O))).1 (kont Try.prog env impl_each_impl_Parts_1_h 20 (bodyOf Try.f157) [1, 1, 1, 0, 0] (vRet env [] (.t []) [(2000, (true))] [2000] r O) (retKE (vRet env [] (.t []) [(2000, (true))] [2000] r O))).2 ⟨[(1, (.one (.clo 191 [(2000, 0)]))), (10, (L s10)), (11, (Z s11)), (12, (Z s12))], [(2000, (.var [(.d (.int .i64 o2000))]))]⟩
theorem impl_each_impl_Parts_1_L3_of {r : AV} {O : List (Nat × Ob)} {s10 : List (List Da)} {s11 : Int} {s12 : Int} {o2000 : Int} (h : ifB (decide (s12 < s11))
  ((∃ (m : Nat), (s12 = ((↑m : Int)) ∧ (∃ (n : Int), (∃ (n1 : Int), (∃ (xs : List (List Da)), ((s10[m]?) = some [(.int .i64 n), (.int .i64 n1), (.sl xs)] ∧ (∃ (m1 : Int), (XC Try.prog 157 [(.dat [(.int .i64 n), (.int .i64 n1), (.sl xs)]), (.one (.clo 191 [(2000, 0)]))] [(2000, (.var [(.d (.int .i64 o2000))]))] (.tup []) [(2000, (.var [(.d (.int .i64 m1))]))] ∧ impl_each_impl_Parts_1_L3 r O s10 s11 (IntKind.wrap IntKind.i64 (s12 + (1 : Int))) m1)))))))))
  (((.tup []) = r ∧ [(2000, (.var [(.d (.int .i64 o2000))]))] = O))) : impl_each_impl_Parts_1_L3 r O s10 s11 s12 o2000 := by
  unfold impl_each_impl_Parts_1_L3
  refine cl_of (E := env) (hs := impl_each_impl_Parts_1_h) envOk mixed ?_
  exact to_vc (by kernel_rfl) h
theorem impl_each_impl_Parts_1_of {t : Int} {t1 : Int} {t2 : List (List Da)} {o2000 : Int} {r : AV} {O : List (Nat × Ob)} (h : (∃ (m : Int), (XC Try.prog 191 [(.dat [(.int .i64 t), (.int .i64 t1), (.sl t2)]), (.one (.op 2000 0))] [(2000, (.var [(.d (.int .i64 o2000))]))] (.tup []) [(2000, (.var [(.d (.int .i64 m))]))] ∧ impl_each_impl_Parts_1_L3 r O t2 ((↑(List.length t2) : Int)) ((0 : Int)) m))) : XC Try.prog 157 [(.dat [(.int .i64 t), (.int .i64 t1), (.sl t2)]), (.one (.clo 191 [(2000, 0)]))] [(2000, (.var [(.d (.int .i64 o2000))]))] r O :=
  xc_of (E := env) (hs := impl_each_impl_Parts_1_h) (c := (bodyOf Try.f157)) (n := 20) (res := []) (rs := .t []) (ks := [(2000, (true))]) (dir := [2000]) envOk mixed rfl Try.func157 (by kernel_rfl) (by kernel_rfl) (by kernel_rfl) (by kernel_rfl) (to_vc (by kernel_rfl) h)

/-- loop.example/g00461/impl.isSym -/
def impl_isSym_h : Hints := ⟨[], []⟩
theorem impl_isSym_of {s : List (List Da)} {f : Int} {r : AV} {O : List (Nat × Ob)} (h : (∃ (b : Bool), (XC Try.prog 145 [(Z f), (Z ((0 : Int))), (Z (IntKind.wrap IntKind.i64 ((↑(List.length s) : Int) - (1 : Int))))] [] (B b) [] ∧ ((B b) = r ∧ [] = O)))) : XC Try.prog 168 [(L s), (Z f)] [] r O :=
  xc_of (E := env) (hs := impl_isSym_h) (c := (bodyOf Try.f168)) (n := 10) (res := [.tmp 4]) (rs := .c .b) (ks := []) (dir := []) envOk mixed rfl Try.func168 (by kernel_rfl) (by kernel_rfl) (by kernel_rfl) (by kernel_rfl) (to_vc (by kernel_rfl) h)

/-- loop.example/g00461/impl.Before -/
def impl_Before_h : Hints := ⟨[], []⟩
theorem impl_Before_of {a : Int} {a1 : Int} {a2 : List (List Da)} {b : Int} {b1 : Int} {b2 : List (List Da)} {r : AV} {O : List (Nat × Ob)} (h : (∃ (n : Int), (XC Try.prog 155 [(.dat [(.int .i64 a), (.int .i64 a1), (.sl a2)]), (.dat [(.int .i64 b), (.int .i64 b1), (.sl b2)])] [] (Z n) [] ∧ ((B (decide (n < (0 : Int)))) = r ∧ [] = O)))) : XC Try.prog 106 [(.dat [(.int .i64 a), (.int .i64 a1), (.sl a2)]), (.dat [(.int .i64 b), (.int .i64 b1), (.sl b2)])] [] r O :=
  xc_of (E := env) (hs := impl_Before_h) (c := (bodyOf Try.f106)) (n := 9) (res := [.tmp 4]) (rs := .c .b) (ks := []) (dir := []) envOk mixed rfl Try.func106 (by kernel_rfl) (by kernel_rfl) (by kernel_rfl) (by kernel_rfl) (to_vc (by kernel_rfl) h)

/-- loop.example/g00461/impl.RuleOk$1 -/
def impl_RuleOk_1_h : Hints := ⟨[], []⟩
theorem impl_RuleOk_1_of {v : Int} {r : AV} {O : List (Nat × Ob)} (h : ((B (decide ((60 : Int) ≤ v))) = r ∧ [] = O)) : XC Try.prog 126 [(Z v)] [] r O :=
  xc_of (E := env) (hs := impl_RuleOk_1_h) (c := (bodyOf Try.f126)) (n := 5) (res := [.tmp 2]) (rs := .c .b) (ks := []) (dir := []) envOk mixed rfl Try.func126 (by kernel_rfl) (by kernel_rfl) (by kernel_rfl) (by kernel_rfl) (to_vc (by kernel_rfl) h)

/-- loop.example/g00461/impl.RuleOk$2 -/
def impl_RuleOk_2_h : Hints := ⟨[], []⟩
theorem impl_RuleOk_2_of {v : Int} {o2000 : List (List Da)} {r : AV} {O : List (Nat × Ob)} (h : (∃ (b : Bool), (XC Try.prog 128 [(L o2000), (Z v)] [] (B b) [] ∧ ((B (!b)) = r ∧ [(2000, (.var [(.ol 0)])), (0, (.tr 3 1 o2000))] = O)))) : XC Try.prog 127 [(Z v), (.one (.op 2000 0))] [(2000, (.var [(.ol 2001)])), (2001, (.tr 3 1 o2000))] r O :=
  xc_of (E := env) (hs := impl_RuleOk_2_h) (c := (bodyOf Try.f127)) (n := 8) (res := [.tmp 3]) (rs := .c .b) (ks := [(2000, (true)), (2001, (false))]) (dir := [2000]) envOk mixed rfl Try.func127 (by kernel_rfl) (by kernel_rfl) (by kernel_rfl) (by kernel_rfl) (to_vc (by kernel_rfl) h)

/-- loop.example/g00461/laws.szBind -/
def laws_szBind_h : Hints := ⟨[], []⟩
theorem laws_szBind_of {a : Int} {a1 : Int} {a2 : Int} {a3 : List (List Da)} {left : Int} {r : AV} {O : List (Nat × Ob)} (h : (∃ (n : Int), (XC Try.prog 15 [(.dat [(.int .i64 a1), (.int .i64 a2), (.sl a3)]), (Z left)] [] (Z n) [] ∧ ifB (decide (n < (0 : Int)))
  (((Z ((-1 : Int))) = r ∧ [] = O))
  (((Z n) = r ∧ [] = O))))) : XC Try.prog 129 [(.dat [(.int .i64 a), (.int .i64 a1), (.int .i64 a2), (.sl a3)]), (Z left)] [] r O :=
  xc_of (E := env) (hs := laws_szBind_h) (c := (bodyOf Try.f129)) (n := 12) (res := [.tmp 4]) (rs := .c (.i .i64)) (ks := []) (dir := []) envOk mixed rfl Try.func129 (by kernel_rfl) (by kernel_rfl) (by kernel_rfl) (by kernel_rfl) (to_vc (by kernel_rfl) h)

/-- loop.example/g00461/laws.toBind -/
def laws_toBind_h : Hints := ⟨[], []⟩
theorem laws_toBind_of {a : Int} {a1 : Int} {a2 : Int} {a3 : List (List Da)} {r : AV} {O : List (Nat × Ob)} (h : (∃ (n : Int), (∃ (n1 : Int), (∃ (xs : List (List Da)), (XC Try.prog 17 [(.dat [(.int .i64 a1), (.int .i64 a2), (.sl a3)])] [] (.agg [(.d (.int .i64 n)), (.d (.int .i64 n1)), (.ol 0)]) [(0, (.tr 30 3 xs))] ∧ ((.agg [(.d (.int .i64 a)), (.d (.int .i64 n)), (.d (.int .i64 n1)), (.ol 0)]) = r ∧ [(0, (.tr 30 3 xs))] = O)))))) : XC Try.prog 131 [(.dat [(.int .i64 a), (.int .i64 a1), (.int .i64 a2), (.sl a3)])] [] r O :=
  xc_of (E := env) (hs := laws_toBind_h) (c := (bodyOf Try.f131)) (n := 12) (res := [.cell 2 149]) (rs := .s [.k (.i .i64), .k (.i .i64), .k (.i .i64), .o 30 3]) (ks := []) (dir := []) envOk mixed rfl Try.func131 (by kernel_rfl) (by kernel_rfl) (by kernel_rfl) (by kernel_rfl) (to_vc (by kernel_rfl) h)

/-- slices.Index[[]int,int] -/
def slices_Index_int_h : Hints := ⟨[(2, ⟨[0, 1, 7, 8], [], [], [], [], [], []⟩)], []⟩
def slices_Index_int_L2 (r : AV) (O : List (Nat × Ob)) (s : List (List Da)) (v : Int) (s7 : Int) (s8 : Int) : Prop := CL 19 Try.prog (subC (bodyOf Try.f151) [1, 0, 1, 0, 0]) (kont Try.prog env slices_Index_int_h 19 (bodyOf Try.f151) [1, 0, 1, 0, 0] (vRet env [.tmp 4] (.c (.i .i64)) [] [] r O) (retKE (vRet env [.tmp 4] (.c (.i .i64)) [] [] r O))).1 (kont Try.prog env slices_Index_int_h 19 (bodyOf Try.f151) [1, 0, 1, 0, 0] (vRet env [.tmp 4] (.c (.i .i64)) [] [] r O) (retKE (vRet env [.tmp 4] (.c (.i .i64)) [] [] r O))).2 ⟨[(0, (L s)), (1, (Z v)), (7, (Z s7)), (8, (Z s8))], []⟩
theorem slices_Index_int_L2_of {r : AV} {O : List (Nat × Ob)} {s : List (List Da)} {v : Int} {s7 : Int} {s8 : Int} (h : ifB (decide (s8 < s7))
  ((∃ (m : Nat), (s8 = ((↑m : Int)) ∧ (∃ (n : Int), ((s[m]?) = some [(.int .i64 n)] ∧ ifB (decide (v = n))
  (((Z s8) = r ∧ [] = O))
  (slices_Index_int_L2 r O s v s7 (IntKind.wrap IntKind.i64 (s8 + (1 : Int)))))))))
  (((Z ((-1 : Int))) = r ∧ [] = O))) : slices_Index_int_L2 r O s v s7 s8 := by
  unfold slices_Index_int_L2
  refine cl_of (E := env) (hs := slices_Index_int_h) envOk mixed ?_
  exact to_vc (by kernel_rfl) h
theorem slices_Index_int_of {s : List (List Da)} {v : Int} {r : AV} {O : List (Nat × Ob)} (h : slices_Index_int_L2 r O s v ((↑(List.length s) : Int)) ((0 : Int))) : XC Try.prog 151 [(L s), (Z v)] [] r O :=
  xc_of (E := env) (hs := slices_Index_int_h) (c := (bodyOf Try.f151)) (n := 19) (res := [.tmp 4]) (rs := .c (.i .i64)) (ks := []) (dir := []) envOk mixed rfl Try.func151 (by kernel_rfl) (by kernel_rfl) (by kernel_rfl) (by kernel_rfl) (to_vc (by kernel_rfl) h)

/-- loop.example/g00461/laws.eqBind -/
def laws_eqBind_h : Hints := ⟨[], []⟩
theorem laws_eqBind_of {a : Int} {a1 : Int} {a2 : Int} {a3 : List (List Da)} {b : Int} {b1 : Int} {b2 : Int} {b3 : List (List Da)} {r : AV} {O : List (Nat × Ob)} (h : ifB (decide (a ≠ b))
  (((B (false)) = r ∧ [] = O))
  ((∃ (b4 : Bool), (XC Try.prog 20 [(.dat [(.int .i64 a1), (.int .i64 a2), (.sl a3)]), (.dat [(.int .i64 b1), (.int .i64 b2), (.sl b3)])] [] (B b4) [] ∧ ifB (!b4)
  (((B (false)) = r ∧ [] = O))
  (((B (true)) = r ∧ [] = O)))))) : XC Try.prog 133 [(.dat [(.int .i64 a), (.int .i64 a1), (.int .i64 a2), (.sl a3)]), (.dat [(.int .i64 b), (.int .i64 b1), (.int .i64 b2), (.sl b3)])] [] r O :=
  xc_of (E := env) (hs := laws_eqBind_h) (c := (bodyOf Try.f133)) (n := 16) (res := [.tmp 4]) (rs := .c .b) (ks := []) (dir := []) envOk mixed rfl Try.func133 (by kernel_rfl) (by kernel_rfl) (by kernel_rfl) (by kernel_rfl) (to_vc (by kernel_rfl) h)

/-- loop.example/g00461/impl.copyTerms -/
def impl_copyTerms_h : Hints := ⟨[(3, ⟨[3, 7, 8, 9], [], [], [], [], [], []⟩)], []⟩
def impl_copyTerms_L3 (r : AV) (O : List (Nat × Ob)) (s7 : List (List Da)) (s8 : Int) (s9 : Int) (out : List (List Da)) : Prop := CL 20 Try.prog (subC (bodyOf Try.f169) [1, 1, 0, 1, 0, 0]) (kont Try.prog env impl_copyTerms_h 20 (bodyOf Try.f169) [1, 1, 0, 1, 0, 0] (vRet env [.tmp 2] (.o 30 3) [] [] r O) (retKE (vRet env [.tmp 2] (.o 30 3) [] [] r O))).1 (kont Try.prog env impl_copyTerms_h 20 (bodyOf Try.f169) [1, 1, 0, 1, 0, 0] (vRet env [.tmp 2] (.o 30 3) [] [] r O) (retKE (vRet env [.tmp 2] (.o 30 3) [] [] r O))).2 ⟨[(3, (.one (.ol 1900))), (7, (L s7)), (8, (Z s8)), (9, (Z s9))], [(1900, (.tr 30 3 out))]⟩
theorem impl_copyTerms_L3_of {r : AV} {O : List (Nat × Ob)} {s7 : List (List Da)} {s8 : Int} {s9 : Int} {out : List (List Da)} (h : ifB (decide (s9 < s8))
  ((∃ (m : Nat), (s9 = ((↑m : Int)) ∧ (∃ (n : Int), (∃ (n1 : Int), (∃ (xs : List (List Da)), ((s7[m]?) = some [(.int .i64 n), (.int .i64 n1), (.sl xs)] ∧ (∃ (n2 : Int), (∃ (n3 : Int), (∃ (xs1 : List (List Da)), (XC Try.prog 117 [(.dat [(.int .i64 n), (.int .i64 n1), (.sl xs)])] [] (.agg [(.d (.int .i64 n2)), (.d (.int .i64 n3)), (.ol 0)]) [(0, (.tr 30 3 xs1))] ∧ (Do ((List.length out + List.length [[Da.int IntKind.i64 n2, Da.int IntKind.i64 n3, Da.sl xs1]]) * (40 : Nat) ≤ (140737488355328 : Nat)) ∧ impl_copyTerms_L3 r O s7 s8 (IntKind.wrap IntKind.i64 (s9 + (1 : Int))) (out ++ [[Da.int IntKind.i64 n2, Da.int IntKind.i64 n3, Da.sl xs1]])))))))))))))
  (((.one (.ol 0)) = r ∧ [(0, (.tr 30 3 out))] = O))) : impl_copyTerms_L3 r O s7 s8 s9 out := by
  unfold impl_copyTerms_L3
  refine cl_of (E := env) (hs := impl_copyTerms_h) envOk mixed ?_
  exact to_vc (by kernel_rfl) h
theorem impl_copyTerms_of {list : List (List Da)} {r : AV} {O : List (Nat × Ob)} (h : impl_copyTerms_L3 r O list ((↑(List.length list) : Int)) ((0 : Int)) []) : XC Try.prog 169 [(L list)] [] r O :=
  xc_of (E := env) (hs := impl_copyTerms_h) (c := (bodyOf Try.f169)) (n := 20) (res := [.tmp 2]) (rs := .o 30 3) (ks := []) (dir := []) envOk mixed rfl Try.func169 (by kernel_rfl) (by kernel_rfl) (by kernel_rfl) (by kernel_rfl) (to_vc (by kernel_rfl) h)

/-- loop.example/g00461/impl.TermSame -/
def impl_TermSame_h : Hints := ⟨[], []⟩
theorem impl_TermSame_of {a : Int} {a1 : Int} {a2 : List (List Da)} {b : Int} {b1 : Int} {b2 : List (List Da)} {r : AV} {O : List (Nat × Ob)} (h : (∃ (n : Int), (XC Try.prog 155 [(.dat [(.int .i64 a), (.int .i64 a1), (.sl a2)]), (.dat [(.int .i64 b), (.int .i64 b1), (.sl b2)])] [] (Z n) [] ∧ ((B (decide (n = (0 : Int)))) = r ∧ [] = O)))) : XC Try.prog 95 [(.dat [(.int .i64 a), (.int .i64 a1), (.sl a2)]), (.dat [(.int .i64 b), (.int .i64 b1), (.sl b2)])] [] r O :=
  xc_of (E := env) (hs := impl_TermSame_h) (c := (bodyOf Try.f95)) (n := 9) (res := [.tmp 4]) (rs := .c .b) (ks := []) (dir := []) envOk mixed rfl Try.func95 (by kernel_rfl) (by kernel_rfl) (by kernel_rfl) (by kernel_rfl) (to_vc (by kernel_rfl) h)

/-- loop.example/g00461/impl.isSmall -/
def impl_isSmall_h : Hints := ⟨[], []⟩
theorem impl_isSmall_of {c : Int} {r : AV} {O : List (Nat × Ob)} (h : ifB (decide ((97 : Int) ≤ c))
  (((B (decide (c ≤ (122 : Int)))) = r ∧ [] = O))
  (((B (false)) = r ∧ [] = O))) : XC Try.prog 199 [(I .u8 c)] [] r O :=
  xc_of (E := env) (hs := impl_isSmall_h) (c := (bodyOf Try.f199)) (n := 9) (res := [.tmp 2]) (rs := .c .b) (ks := []) (dir := []) envOk mixed rfl Try.func199 (by kernel_rfl) (by kernel_rfl) (by kernel_rfl) (by kernel_rfl) (to_vc (by kernel_rfl) h)

/-- loop.example/g00461/impl.isDigit -/
def impl_isDigit_h : Hints := ⟨[], []⟩
theorem impl_isDigit_of {c : Int} {r : AV} {O : List (Nat × Ob)} (h : ifB (decide ((48 : Int) ≤ c))
  (((B (decide (c ≤ (57 : Int)))) = r ∧ [] = O))
  (((B (false)) = r ∧ [] = O))) : XC Try.prog 200 [(I .u8 c)] [] r O :=
  xc_of (E := env) (hs := impl_isDigit_h) (c := (bodyOf Try.f200)) (n := 9) (res := [.tmp 2]) (rs := .c .b) (ks := []) (dir := []) envOk mixed rfl Try.func200 (by kernel_rfl) (by kernel_rfl) (by kernel_rfl) (by kernel_rfl) (to_vc (by kernel_rfl) h)

/-- slices.IndexFunc[[]loop.example/g00461/impl.Sym,loop.example/g00461/impl.Sym] -/
def slices_IndexFunc_Sym_impl_SymOf_1_h : Hints := ⟨[(2, ⟨[0, 1, 7, 8], [], [], [], [], [], []⟩)], []⟩
def slices_IndexFunc_Sym_impl_SymOf_1_L2 (r : AV) (O : List (Nat × Ob)) (s : List (List Da)) (s7 : Int) (s8 : Int) (o2000 : ByteArray) : Prop := CL 19 Try.prog (subC (bodyOf Try.f201) [1, 0, 1, 0, 0]) (kont Try.prog env slices_IndexFunc_Sym_impl_SymOf_1_h 19 (bodyOf Try.f201) [1, 0, 1, 0, 0] (vRet env [.tmp 4] (.c (.i .i64)) [(2000, (true))] [2000] r O) (retKE (vRet env [.tmp 4] (.c (.i .i64)) [(2000, (true))] [2000] r O))).1 (kont Try.prog env slices_IndexFunc_Sym_impl_SymOf_1_h 19 (bodyOf Try.f201) [1, 0, 1, 0, 0] (vRet env [.tmp 4] (.c (.i .i64)) [(2000, (true))] [2000] r O) (retKE (vRet env [.tmp 4] (.c (.i .i64)) [(2000, (true))] [2000] r O))).2 ⟨[(0, (L s)), (1, (.one (.clo 202 [(2000, 0)]))), (7, (Z s7)), (8, (Z s8))], [(2000, (.var [(.d (.str o2000))]))]⟩
theorem slices_IndexFunc_Sym_impl_SymOf_1_L2_of {r : AV} {O : List (Nat × Ob)} {s : List (List Da)} {s7 : Int} {s8 : Int} {o2000 : ByteArray} (h : ifB (decide (s8 < s7))
  ((∃ (m : Nat), (s8 = ((↑m : Int)) ∧ (∃ (q : ByteArray), (∃ (n : Int), (∃ (b : Bool), ((s[m]?) = some [(.str q), (.int .i64 n), (.bool b)] ∧ (∃ (b1 : Bool), (∃ (q1 : ByteArray), (XC Try.prog 202 [(.dat [(.str q), (.int .i64 n), (.bool b)]), (.one (.op 2000 0))] [(2000, (.var [(.d (.str o2000))]))] (B b1) [(2000, (.var [(.d (.str q1))]))] ∧ ifB b1
  (((Z s8) = r ∧ [(2000, (.var [(.d (.str q1))]))] = O))
  (slices_IndexFunc_Sym_impl_SymOf_1_L2 r O s s7 (IntKind.wrap IntKind.i64 (s8 + (1 : Int))) q1)))))))))))
  (((Z ((-1 : Int))) = r ∧ [(2000, (.var [(.d (.str o2000))]))] = O))) : slices_IndexFunc_Sym_impl_SymOf_1_L2 r O s s7 s8 o2000 := by
  unfold slices_IndexFunc_Sym_impl_SymOf_1_L2
  refine cl_of (E := env) (hs := slices_IndexFunc_Sym_impl_SymOf_1_h) envOk mixed ?_
  exact to_vc (by kernel_rfl) h
theorem slices_IndexFunc_Sym_impl_SymOf_1_of {s : List (List Da)} {o2000 : ByteArray} {r : AV} {O : List (Nat × Ob)} (h : slices_IndexFunc_Sym_impl_SymOf_1_L2 r O s ((↑(List.length s) : Int)) ((0 : Int)) o2000) : XC Try.prog 201 [(L s), (.one (.clo 202 [(2000, 0)]))] [(2000, (.var [(.d (.str o2000))]))] r O :=
  xc_of (E := env) (hs := slices_IndexFunc_Sym_impl_SymOf_1_h) (c := (bodyOf Try.f201)) (n := 19) (res := [.tmp 4]) (rs := .c (.i .i64)) (ks := [(2000, (true))]) (dir := [2000]) envOk mixed rfl Try.func201 (by kernel_rfl) (by kernel_rfl) (by kernel_rfl) (by kernel_rfl) (to_vc (by kernel_rfl) h)

/-- loop.example/g00461/impl.Parts$1 -/
def impl_Parts_1_h : Hints := ⟨[], []⟩
theorem impl_Parts_1_of {x : Int} {x1 : Int} {x2 : List (List Da)} {o2000 : Int} {r : AV} {O : List (Nat × Ob)} (h : ((.tup []) = r ∧ [(2000, (.var [(.d (.int .i64 (IntKind.wrap IntKind.i64 (o2000 + (1 : Int)))))]))] = O)) : XC Try.prog 191 [(.dat [(.int .i64 x), (.int .i64 x1), (.sl x2)]), (.one (.op 2000 0))] [(2000, (.var [(.d (.int .i64 o2000))]))] r O :=
  xc_of (E := env) (hs := impl_Parts_1_h) (c := (bodyOf Try.f191)) (n := 5) (res := []) (rs := .t []) (ks := [(2000, (true))]) (dir := [2000]) envOk mixed rfl Try.func191 (by kernel_rfl) (by kernel_rfl) (by kernel_rfl) (by kernel_rfl) (to_vc (by kernel_rfl) h)

/-- loop.example/g00461/impl.compare -/
def impl_compare_h : Hints := ⟨[(2, ⟨[2, 3, 26, 27, 28], [], [], [], [], [], []⟩), (10, ⟨[2, 3, 47, 48], [], [], [], [], [], []⟩)], []⟩
def impl_compare_L2 (r : AV) (O : List (Nat × Ob)) (s27 : Int) (s28 : Int) (s2 : Int) (s21 : Int) (s22 : List (List Da)) (s3 : Int) (s31 : Int) (s32 : List (List Da)) (s26 : List (List Da)) : Prop := CL 66 Try.prog (subC (bodyOf Try.f155) [1, 0, 1, 0, 0]) (kont Try.prog env impl_compare_h 66 (bodyOf Try.f155) [1, 0, 1, 0, 0] (vRet env [.tmp 4] (.c (.i .i64)) [] [] r O) (retKE (vRet env [.tmp 4] (.c (.i .i64)) [] [] r O))).1 (kont Try.prog env impl_compare_h 66 (bodyOf Try.f155) [1, 0, 1, 0, 0] (vRet env [.tmp 4] (.c (.i .i64)) [] [] r O) (retKE (vRet env [.tmp 4] (.c (.i .i64)) [] [] r O))).2 ⟨[(2, (.one (.op 1900 0))), (3, (.one (.op 1901 0))), (26, (.one (.ol 1902))), (27, (Z s27)), (28, (Z s28))], [(1900, (.var [(.d (.int .i64 s2)), (.d (.int .i64 s21)), (.d (.sl s22))])), (1901, (.var [(.d (.int .i64 s3)), (.d (.int .i64 s31)), (.d (.sl s32))])), (1902, (.tr 184 2 s26))]⟩
def impl_compare_L10 (r : AV) (O : List (Nat × Ob)) (s47 : Int) (s48 : Int) (s2 : Int) (s21 : Int) (s22 : List (List Da)) (s3 : Int) (s31 : Int) (s32 : List (List Da)) : Prop := CL 66 Try.prog (subC (bodyOf Try.f155) [1, 1, 0, 1, 0, 0]) (kont Try.prog env impl_compare_h 66 (bodyOf Try.f155) [1, 1, 0, 1, 0, 0] (vRet env [.tmp 4] (.c (.i .i64)) [] [] r O) (retKE (vRet env [.tmp 4] (.c (.i .i64)) [] [] r O))).1 (kont Try.prog env impl_compare_h 66 (bodyOf Try.f155) [1, 1, 0, 1, 0, 0] (vRet env [.tmp 4] (.c (.i .i64)) [] [] r O) (retKE (vRet env [.tmp 4] (.c (.i .i64)) [] [] r O))).2 ⟨[(2, (.one (.op 1900 0))), (3, (.one (.op 1901 0))), (47, (Z s47)), (48, (Z s48))], [(1900, (.var [(.d (.int .i64 s2)), (.d (.int .i64 s21)), (.d (.sl s22))])), (1901, (.var [(.d (.int .i64 s3)), (.d (.int .i64 s31)), (.d (.sl s32))]))]⟩
theorem impl_compare_L2_of {r : AV} {O : List (Nat × Ob)} {s27 : Int} {s28 : Int} {s2 : Int} {s21 : Int} {s22 : List (List Da)} {s3 : Int} {s31 : Int} {s32 : List (List Da)} {s26 : List (List Da)} (h : ifB (decide (s28 < s27))
  ((∃ (m : Nat), (s28 = ((↑m : Int)) ∧ (Do (m < List.length s26) ∧ (∃ (n : Nat), ((m * (2 : Nat)) = (n * (2 : Nat)) ∧ (∃ (n1 : Int), (∃ (n2 : Int), ((s26[n]?) = some [(.int .i64 n1), (.int .i64 n2)] ∧ ifB (decide (n1 < n2))
  (((Z ((-1 : Int))) = r ∧ [] = O))
  (ifB (decide (n2 < n1))
  (((Z ((1 : Int))) = r ∧ [] = O))
  (impl_compare_L2 r O s27 (IntKind.wrap IntKind.i64 (s28 + (1 : Int))) s2 s21 s22 s3 s31 s32 s26)))))))))))
  (impl_compare_L10 r O ((↑(List.length s22) : Int)) ((0 : Int)) s2 s21 s22 s3 s31 s32)) : impl_compare_L2 r O s27 s28 s2 s21 s22 s3 s31 s32 s26 := by
  unfold impl_compare_L2
  refine cl_of (E := env) (hs := impl_compare_h) envOk mixed ?_
  exact to_vc (by kernel_rfl) h
theorem impl_compare_L10_of {r : AV} {O : List (Nat × Ob)} {s47 : Int} {s48 : Int} {s2 : Int} {s21 : Int} {s22 : List (List Da)} {s3 : Int} {s31 : Int} {s32 : List (List Da)} (h : ifB (decide (s48 < s47))
  ((∃ (m : Nat), (s48 = ((↑m : Int)) ∧ (∃ (n : Int), (∃ (n1 : Int), (∃ (xs : List (List Da)), ((s22[m]?) = some [(.int .i64 n), (.int .i64 n1), (.sl xs)] ∧ (∃ (m1 : Nat), (s48 = ((↑m1 : Int)) ∧ (∃ (n2 : Int), (∃ (n3 : Int), (∃ (xs1 : List (List Da)), ((s32[m1]?) = some [(.int .i64 n2), (.int .i64 n3), (.sl xs1)] ∧ (∃ (n4 : Int), (XC Try.prog 155 [(.dat [(.int .i64 n), (.int .i64 n1), (.sl xs)]), (.dat [(.int .i64 n2), (.int .i64 n3), (.sl xs1)])] [] (Z n4) [] ∧ ifB (decide (n4 ≠ (0 : Int)))
  (((Z n4) = r ∧ [] = O))
  (impl_compare_L10 r O s47 (IntKind.wrap IntKind.i64 (s48 + (1 : Int))) s2 s21 s22 s3 s31 s32))))))))))))))))
  (((Z ((0 : Int))) = r ∧ [] = O))) : impl_compare_L10 r O s47 s48 s2 s21 s22 s3 s31 s32 := by
  unfold impl_compare_L10
  refine cl_of (E := env) (hs := impl_compare_h) envOk mixed ?_
  exact to_vc (by kernel_rfl) h
theorem impl_compare_of {p : Int} {p1 : Int} {p2 : List (List Da)} {p3 : Int} {p4 : Int} {p5 : List (List Da)} {r : AV} {O : List (Nat × Ob)} (h : impl_compare_L2 r O ((↑(List.length [[Da.int IntKind.i64 p, Da.int IntKind.i64 p3], [Da.int IntKind.i64 p1, Da.int IntKind.i64 p4], [Da.int IntKind.i64 (↑(List.length p2) : Int), Da.int IntKind.i64 (↑(List.length p5) : Int)]]) : Int)) ((0 : Int)) p p1 p2 p3 p4 p5 [[(.int .i64 p), (.int .i64 p3)], [(.int .i64 p1), (.int .i64 p4)], [(.int .i64 ((↑(List.length p2) : Int))), (.int .i64 ((↑(List.length p5) : Int)))]]) : XC Try.prog 155 [(.dat [(.int .i64 p), (.int .i64 p1), (.sl p2)]), (.dat [(.int .i64 p3), (.int .i64 p4), (.sl p5)])] [] r O :=
  xc_of (E := env) (hs := impl_compare_h) (c := (bodyOf Try.f155)) (n := 66) (res := [.tmp 4]) (rs := .c (.i .i64)) (ks := []) (dir := []) envOk mixed rfl Try.func155 (by kernel_rfl) (by kernel_rfl) (by kernel_rfl) (by kernel_rfl) (to_vc (by kernel_rfl) h)

/-- loop.example/g00461/impl.SymOf$1 -/
def impl_SymOf_1_h : Hints := ⟨[], []⟩
theorem impl_SymOf_1_of {x : ByteArray} {x1 : Int} {x2 : Bool} {o2000 : ByteArray} {r : AV} {O : List (Nat × Ob)} (h : ((B (decide (x = o2000))) = r ∧ [(2000, (.var [(.d (.str o2000))]))] = O)) : XC Try.prog 202 [(.dat [(.str x), (.int .i64 x1), (.bool x2)]), (.one (.op 2000 0))] [(2000, (.var [(.d (.str o2000))]))] r O :=
  xc_of (E := env) (hs := impl_SymOf_1_h) (c := (bodyOf Try.f202)) (n := 8) (res := [.tmp 3]) (rs := .c .b) (ks := [(2000, (true))]) (dir := [2000]) envOk mixed rfl Try.func202 (by kernel_rfl) (by kernel_rfl) (by kernel_rfl) (by kernel_rfl) (to_vc (by kernel_rfl) h)

end AM
end Go.Proofs.Ytflfopedammhoaa
