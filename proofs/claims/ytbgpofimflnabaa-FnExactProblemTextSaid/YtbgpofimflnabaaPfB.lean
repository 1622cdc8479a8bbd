/- What functions of the program ask, printed by a program of this session's and held against the loaded text by the kernel; no conditions. -/
import Derived.Test.YtbgpofimflnabaaPfA
set_option linter.unusedVariables false
set_option maxRecDepth 100000
namespace Go.Proofs.Ytbgpofimflnabaa
namespace AM
open Go
attribute [local irreducible] vC

/-- loop.example/g00461/spec.l4Right -/
def spec_l4Right_h : Hints := ⟨[(6, ⟨[0, 3, 5], [], [], []⟩)], []⟩
def spec_l4Right_L6 (r : AV) (O : List (Nat × Ob)) (s0 : List (List Da)) (s5 : Int) (s3 : Int) (s31 : Int) (s32 : List (List Da)) : Prop := CL 117 Try.prog (subC (bodyOf Try.f120) [1, 1, 1, 0, 1, 0, 0]) (kont Try.prog env spec_l4Right_h 117 (bodyOf Try.f120) [1, 1, 1, 0, 1, 0, 0] (vRet env [.tmp 4] (.c .b) [] [] r O) (retKE (vRet env [.tmp 4] (.c .b) [] [] r O))).1 (kont Try.prog env spec_l4Right_h 117 (bodyOf Try.f120) [1, 1, 1, 0, 1, 0, 0] (vRet env [.tmp 4] (.c .b) [] [] r O) (retKE (vRet env [.tmp 4] (.c .b) [] [] r O))).2 ⟨[(0, (L s0)), (3, (.one (.op 1900 0))), (5, (Z s5))], [(1900, (.var [(.d (.int .i64 s3)), (.d (.int .i64 s31)), (.d (.sl s32))]))]⟩
theorem spec_l4Right_L6_of {r : AV} {O : List (Nat × Ob)} {s0 : List (List Da)} {s5 : Int} {s3 : Int} {s31 : Int} {s32 : List (List Da)} (h : ifB (decide (s5 < (↑(List.length s32) : Int)))
  ((∃ (m : Nat), (s3 = ((↑m : Int)) ∧ (∃ (q : ByteArray), (∃ (n : Int), (∃ (b : Bool), ((s0[m]?) = some [(.str q), (.int .i64 n), (.bool b)] ∧ ifB b
  ((∃ (m1 : Nat), (s5 = ((↑m1 : Int)) ∧ (∃ (n1 : Int), (∃ (n2 : Int), (∃ (xs : List (List Da)), ((s32[m1]?) = some [(.int .i64 n1), (.int .i64 n2), (.sl xs)] ∧ ifB (decide (n1 = s3))
  (((B (false)) = r ∧ [] = O))
  (ifB (decide ((0 : Int) < s5))
  ((∃ (m2 : Nat), (s5 = ((↑m2 : Int)) ∧ (∃ (n3 : Int), (∃ (n4 : Int), (∃ (xs1 : List (List Da)), ((s32[m2]?) = some [(.int .i64 n3), (.int .i64 n4), (.sl xs1)] ∧ (∃ (m3 : Nat), ((IntKind.wrap IntKind.i64 (s5 - (1 : Int))) = ((↑m3 : Int)) ∧ (∃ (n5 : Int), (∃ (n6 : Int), (∃ (xs2 : List (List Da)), ((s32[m3]?) = some [(.int .i64 n5), (.int .i64 n6), (.sl xs2)] ∧ (∃ (b1 : Bool), (XC Try.prog 77 [(.dat [(.int .i64 n3), (.int .i64 n4), (.sl xs1)]), (.dat [(.int .i64 n5), (.int .i64 n6), (.sl xs2)])] [] (B b1) [] ∧ ifB b1
  (((B (false)) = r ∧ [] = O))
  ((∃ (m4 : Nat), (s5 = ((↑m4 : Int)) ∧ (∃ (n7 : Int), (∃ (n8 : Int), (∃ (xs3 : List (List Da)), ((s32[m4]?) = some [(.int .i64 n7), (.int .i64 n8), (.sl xs3)] ∧ (∃ (b2 : Bool), (XC Try.prog 120 [(L s0), (.dat [(.int .i64 n7), (.int .i64 n8), (.sl xs3)])] [] (B b2) [] ∧ ifB (!b2)
  (((B (false)) = r ∧ [] = O))
  (spec_l4Right_L6 r O s0 (IntKind.wrap IntKind.i64 (s5 + (1 : Int))) s3 s31 s32)))))))))))))))))))))))))
  ((∃ (m5 : Nat), (s5 = ((↑m5 : Int)) ∧ (∃ (n9 : Int), (∃ (n10 : Int), (∃ (xs4 : List (List Da)), ((s32[m5]?) = some [(.int .i64 n9), (.int .i64 n10), (.sl xs4)] ∧ (∃ (b3 : Bool), (XC Try.prog 120 [(L s0), (.dat [(.int .i64 n9), (.int .i64 n10), (.sl xs4)])] [] (B b3) [] ∧ ifB (!b3)
  (((B (false)) = r ∧ [] = O))
  (spec_l4Right_L6 r O s0 (IntKind.wrap IntKind.i64 (s5 + (1 : Int))) s3 s31 s32))))))))))))))))))
  ((∃ (m6 : Nat), (s5 = ((↑m6 : Int)) ∧ (∃ (n11 : Int), (∃ (n12 : Int), (∃ (xs5 : List (List Da)), ((s32[m6]?) = some [(.int .i64 n11), (.int .i64 n12), (.sl xs5)] ∧ (∃ (b4 : Bool), (XC Try.prog 120 [(L s0), (.dat [(.int .i64 n11), (.int .i64 n12), (.sl xs5)])] [] (B b4) [] ∧ ifB (!b4)
  (((B (false)) = r ∧ [] = O))
  (spec_l4Right_L6 r O s0 (IntKind.wrap IntKind.i64 (s5 + (1 : Int))) s3 s31 s32)))))))))))))))))
  (((B (true)) = r ∧ [] = O))) : spec_l4Right_L6 r O s0 s5 s3 s31 s32 := by
  unfold spec_l4Right_L6
  refine cl_of (E := env) (hs := spec_l4Right_h) envOk mixed ?_
  exact to_vc (by kernel_rfl) h
theorem spec_l4Right_of {p : List (List Da)} {p1 : Int} {p2 : Int} {p3 : List (List Da)} {r : AV} {O : List (Nat × Ob)} (h : ifB (decide (p1 = (-1 : Int)))
  ((∃ (b : Bool), (XC Try.prog 82 [(Z p2), (Z ((0 : Int))), (Z ((99 : Int)))] [] (B b) [] ∧ ifB b
  (((B (decide ((↑(List.length p3) : Int) = (0 : Int)))) = r ∧ [] = O))
  (((B (false)) = r ∧ [] = O)))))
  ((∃ (b1 : Bool), (XC Try.prog 82 [(Z p1), (Z ((0 : Int))), (Z (IntKind.wrap IntKind.i64 ((↑(List.length p) : Int) - (1 : Int))))] [] (B b1) [] ∧ ifB (!b1)
  (((B (false)) = r ∧ [] = O))
  (ifB (decide (p2 ≠ (0 : Int)))
  (((B (false)) = r ∧ [] = O))
  ((∃ (m : Nat), (p1 = ((↑m : Int)) ∧ (∃ (q : ByteArray), (∃ (n : Int), (∃ (b2 : Bool), ((p[m]?) = some [(.str q), (.int .i64 n), (.bool b2)] ∧ ifB (!b2)
  ((∃ (m1 : Nat), (p1 = ((↑m1 : Int)) ∧ (∃ (q1 : ByteArray), (∃ (n1 : Int), (∃ (b3 : Bool), ((p[m1]?) = some [(.str q1), (.int .i64 n1), (.bool b3)] ∧ ifB (decide ((↑(List.length p3) : Int) ≠ n1))
  (((B (false)) = r ∧ [] = O))
  ((∃ (m2 : Nat), (p1 = ((↑m2 : Int)) ∧ (∃ (q2 : ByteArray), (∃ (n2 : Int), (∃ (b4 : Bool), ((p[m2]?) = some [(.str q2), (.int .i64 n2), (.bool b4)] ∧ ifB b4
  (ifB (decide ((↑(List.length p3) : Int) < (2 : Int)))
  (((B (false)) = r ∧ [] = O))
  (spec_l4Right_L6 r O p ((0 : Int)) p1 p2 p3))
  (spec_l4Right_L6 r O p ((0 : Int)) p1 p2 p3)))))))))))))))
  ((∃ (m3 : Nat), (p1 = ((↑m3 : Int)) ∧ (∃ (q3 : ByteArray), (∃ (n3 : Int), (∃ (b5 : Bool), ((p[m3]?) = some [(.str q3), (.int .i64 n3), (.bool b5)] ∧ ifB b5
  (ifB (decide ((↑(List.length p3) : Int) < (2 : Int)))
  (((B (false)) = r ∧ [] = O))
  (spec_l4Right_L6 r O p ((0 : Int)) p1 p2 p3))
  (spec_l4Right_L6 r O p ((0 : Int)) p1 p2 p3)))))))))))))))))))) : XC Try.prog 120 [(L p), (.dat [(.int .i64 p1), (.int .i64 p2), (.sl p3)])] [] r O :=
  xc_of (E := env) (hs := spec_l4Right_h) (c := (bodyOf Try.f120)) (n := 117) (res := [.tmp 4]) (rs := .c .b) (ks := []) (dir := []) envOk mixed rfl Try.func120 (by kernel_rfl) (by kernel_rfl) (by kernel_rfl) (by kernel_rfl) (to_vc (by kernel_rfl) h)

/-- loop.example/g00461/spec.TermSame -/
def spec_TermSame_h : Hints := ⟨[(4, ⟨[2, 3, 5], [], [], []⟩)], []⟩
def spec_TermSame_L4 (r : AV) (O : List (Nat × Ob)) (i : Int) (a : Int) (a1 : Int) (a2 : List (List Da)) (b : Int) (b1 : Int) (b2 : List (List Da)) : Prop := CL 46 Try.prog (subC (bodyOf Try.f121) [1, 1, 0, 1, 0, 0]) (kont Try.prog env spec_TermSame_h 46 (bodyOf Try.f121) [1, 1, 0, 1, 0, 0] (vRet env [.tmp 4] (.c .b) [] [] r O) (retKE (vRet env [.tmp 4] (.c .b) [] [] r O))).1 (kont Try.prog env spec_TermSame_h 46 (bodyOf Try.f121) [1, 1, 0, 1, 0, 0] (vRet env [.tmp 4] (.c .b) [] [] r O) (retKE (vRet env [.tmp 4] (.c .b) [] [] r O))).2 ⟨[(2, (.one (.op 1900 0))), (3, (.one (.op 1901 0))), (5, (Z i))], [(1900, (.var [(.d (.int .i64 a)), (.d (.int .i64 a1)), (.d (.sl a2))])), (1901, (.var [(.d (.int .i64 b)), (.d (.int .i64 b1)), (.d (.sl b2))]))]⟩
theorem spec_TermSame_L4_of {r : AV} {O : List (Nat × Ob)} {i : Int} {a : Int} {a1 : Int} {a2 : List (List Da)} {b : Int} {b1 : Int} {b2 : List (List Da)} (h : ifB (decide (i < (↑(List.length a2) : Int)))
  ((∃ (m : Nat), (i = ((↑m : Int)) ∧ (∃ (n : Int), (∃ (n1 : Int), (∃ (xs : List (List Da)), ((a2[m]?) = some [(.int .i64 n), (.int .i64 n1), (.sl xs)] ∧ (∃ (m1 : Nat), (i = ((↑m1 : Int)) ∧ (∃ (n2 : Int), (∃ (n3 : Int), (∃ (xs1 : List (List Da)), ((b2[m1]?) = some [(.int .i64 n2), (.int .i64 n3), (.sl xs1)] ∧ (∃ (b4 : Bool), (XC Try.prog 121 [(.dat [(.int .i64 n), (.int .i64 n1), (.sl xs)]), (.dat [(.int .i64 n2), (.int .i64 n3), (.sl xs1)])] [] (B b4) [] ∧ ifB (!b4)
  (((B (false)) = r ∧ [] = O))
  (spec_TermSame_L4 r O (IntKind.wrap IntKind.i64 (i + (1 : Int))) a a1 a2 b b1 b2))))))))))))))))
  (((B (true)) = r ∧ [] = O))) : spec_TermSame_L4 r O i a a1 a2 b b1 b2 := by
  unfold spec_TermSame_L4
  refine cl_of (E := env) (hs := spec_TermSame_h) envOk mixed ?_
  exact to_vc (by kernel_rfl) h
theorem spec_TermSame_of {a : Int} {a1 : Int} {a2 : List (List Da)} {b : Int} {b1 : Int} {b2 : List (List Da)} {r : AV} {O : List (Nat × Ob)} (h : ifB (decide (a ≠ b))
  (((B (false)) = r ∧ [] = O))
  (ifB (decide (a1 ≠ b1))
  (((B (false)) = r ∧ [] = O))
  (ifB (decide ((↑(List.length a2) : Int) ≠ (↑(List.length b2) : Int)))
  (((B (false)) = r ∧ [] = O))
  (spec_TermSame_L4 r O ((0 : Int)) a a1 a2 b b1 b2)))) : XC Try.prog 121 [(.dat [(.int .i64 a), (.int .i64 a1), (.sl a2)]), (.dat [(.int .i64 b), (.int .i64 b1), (.sl b2)])] [] r O :=
  xc_of (E := env) (hs := spec_TermSame_h) (c := (bodyOf Try.f121)) (n := 46) (res := [.tmp 4]) (rs := .c .b) (ks := []) (dir := []) envOk mixed rfl Try.func121 (by kernel_rfl) (by kernel_rfl) (by kernel_rfl) (by kernel_rfl) (to_vc (by kernel_rfl) h)

/-- loop.example/g00461/impl.SigOk -/
def impl_SigOk_h : Hints := ⟨[(2, ⟨[0, 5, 6, 7], [], [], []⟩)], []⟩
def impl_SigOk_L2 (r : AV) (O : List (Nat × Ob)) (s : List (List Da)) (s5 : List (List Da)) (s6 : Int) (s7 : Int) : Prop := CL 57 Try.prog (subC (bodyOf Try.f122) [1, 0, 1, 0, 0]) (kont Try.prog env impl_SigOk_h 57 (bodyOf Try.f122) [1, 0, 1, 0, 0] (vRet env [.tmp 2] (.c .b) [] [] r O) (retKE (vRet env [.tmp 2] (.c .b) [] [] r O))).1 (kont Try.prog env impl_SigOk_h 57 (bodyOf Try.f122) [1, 0, 1, 0, 0] (vRet env [.tmp 2] (.c .b) [] [] r O) (retKE (vRet env [.tmp 2] (.c .b) [] [] r O))).2 ⟨[(0, (L s)), (5, (L s5)), (6, (Z s6)), (7, (Z s7))], []⟩
theorem impl_SigOk_L2_of {r : AV} {O : List (Nat × Ob)} {s : List (List Da)} {s5 : List (List Da)} {s6 : Int} {s7 : Int} (h : ifB (decide (s7 < s6))
  ((∃ (m : Nat), (s7 = ((↑m : Int)) ∧ (∃ (q : ByteArray), (∃ (n : Int), (∃ (b : Bool), ((s5[m]?) = some [(.str q), (.int .i64 n), (.bool b)] ∧ (∃ (b1 : Bool), (XC Try.prog 146 [(T q)] [] (B b1) [] ∧ ifB (!b1)
  (((B (false)) = r ∧ [] = O))
  ((∃ (n1 : Int), (XC Try.prog 147 [(L s), (T q)] [] (Z n1) [] ∧ ifB (decide (n1 ≠ s7))
  (((B (false)) = r ∧ [] = O))
  ((∃ (b2 : Bool), (XC Try.prog 86 [(Z n), (Z ((0 : Int))), (Z ((3 : Int)))] [] (B b2) [] ∧ ifB (!b2)
  (((B (false)) = r ∧ [] = O))
  (ifB b
  (ifB (decide (n ≠ (2 : Int)))
  (((B (false)) = r ∧ [] = O))
  (impl_SigOk_L2 r O s s5 s6 (IntKind.wrap IntKind.i64 (s7 + (1 : Int)))))
  (impl_SigOk_L2 r O s s5 s6 (IntKind.wrap IntKind.i64 (s7 + (1 : Int))))))))))))))))))))
  ((∃ (b3 : Bool), (XC Try.prog 86 [(Z ((↑(List.length s) : Int))), (Z ((1 : Int))), (Z ((8 : Int)))] [] (B b3) [] ∧ ifB b3
  ((∃ (m1 : Nat), (((0 : Int)) = ((↑m1 : Int)) ∧ (∃ (q1 : ByteArray), (∃ (n2 : Int), (∃ (b4 : Bool), ((s[m1]?) = some [(.str q1), (.int .i64 n2), (.bool b4)] ∧ ifB (decide (q1 = { data := #[(116 : UInt8), (116 : UInt8)] }))
  ((∃ (m2 : Nat), (((0 : Int)) = ((↑m2 : Int)) ∧ (∃ (q2 : ByteArray), (∃ (n3 : Int), (∃ (b5 : Bool), ((s[m2]?) = some [(.str q2), (.int .i64 n3), (.bool b5)] ∧ ((B (decide (n3 = (0 : Int)))) = r ∧ [] = O))))))))
  (((B (false)) = r ∧ [] = O)))))))))
  (((B (false)) = r ∧ [] = O)))))) : impl_SigOk_L2 r O s s5 s6 s7 := by
  unfold impl_SigOk_L2
  refine cl_of (E := env) (hs := impl_SigOk_h) envOk mixed ?_
  exact to_vc (by kernel_rfl) h
theorem impl_SigOk_of {s : List (List Da)} {r : AV} {O : List (Nat × Ob)} (h : impl_SigOk_L2 r O s s ((↑(List.length s) : Int)) ((0 : Int))) : XC Try.prog 122 [(L s)] [] r O :=
  xc_of (E := env) (hs := impl_SigOk_h) (c := (bodyOf Try.f122)) (n := 57) (res := [.tmp 2]) (rs := .c .b) (ks := []) (dir := []) envOk mixed rfl Try.func122 (by kernel_rfl) (by kernel_rfl) (by kernel_rfl) (by kernel_rfl) (to_vc (by kernel_rfl) h)

/-- loop.example/g00461/impl.Parts -/
def impl_Parts_h : Hints := ⟨[], []⟩
theorem impl_Parts_of {t : Int} {t1 : Int} {t2 : List (List Da)} {r : AV} {O : List (Nat × Ob)} (h : (∃ (m : Int), (XC Try.prog 134 [(.dat [(.int .i64 t), (.int .i64 t1), (.sl t2)]), (.one (.clo 148 [(2000, 0)]))] [(2000, (.var [(.d (.int .i64 ((0 : Int))))]))] (.tup []) [(2000, (.var [(.d (.int .i64 m))]))] ∧ ((Z m) = r ∧ [] = O)))) : XC Try.prog 123 [(.dat [(.int .i64 t), (.int .i64 t1), (.sl t2)])] [] r O :=
  xc_of (E := env) (hs := impl_Parts_h) (c := (bodyOf Try.f123)) (n := 8) (res := [.tmp 2]) (rs := .c (.i .i64)) (ks := []) (dir := []) envOk mixed rfl Try.func123 (by kernel_rfl) (by kernel_rfl) (by kernel_rfl) (by kernel_rfl) (to_vc (by kernel_rfl) h)

/-- loop.example/g00461/impl.formOk -/
def impl_formOk_h : Hints := ⟨[(6, ⟨[0, 3, 64, 65, 66], [], [], []⟩)], []⟩
def impl_formOk_L6 (r : AV) (O : List (Nat × Ob)) (s0 : List (List Da)) (s64 : List (List Da)) (s65 : Int) (s66 : Int) (s3 : Int) (s31 : Int) (s32 : List (List Da)) : Prop := CL 105 Try.prog (subC (bodyOf Try.f124) [1, 1, 1, 0, 1, 0, 0]) (kont Try.prog env impl_formOk_h 105 (bodyOf Try.f124) [1, 1, 1, 0, 1, 0, 0] (vRet env [.tmp 4] (.c .b) [] [] r O) (retKE (vRet env [.tmp 4] (.c .b) [] [] r O))).1 (kont Try.prog env impl_formOk_h 105 (bodyOf Try.f124) [1, 1, 1, 0, 1, 0, 0] (vRet env [.tmp 4] (.c .b) [] [] r O) (retKE (vRet env [.tmp 4] (.c .b) [] [] r O))).2 ⟨[(0, (L s0)), (3, (.one (.op 1900 0))), (64, (L s64)), (65, (Z s65)), (66, (Z s66))], [(1900, (.var [(.d (.int .i64 s3)), (.d (.int .i64 s31)), (.d (.sl s32))]))]⟩
theorem impl_formOk_L6_of {r : AV} {O : List (Nat × Ob)} {s0 : List (List Da)} {s64 : List (List Da)} {s65 : Int} {s66 : Int} {s3 : Int} {s31 : Int} {s32 : List (List Da)} (h : ifB (decide (s66 < s65))
  ((∃ (m : Nat), (s66 = ((↑m : Int)) ∧ (∃ (n : Int), (∃ (n1 : Int), (∃ (xs : List (List Da)), ((s64[m]?) = some [(.int .i64 n), (.int .i64 n1), (.sl xs)] ∧ (∃ (b : Bool), (XC Try.prog 124 [(L s0), (.dat [(.int .i64 n), (.int .i64 n1), (.sl xs)])] [] (B b) [] ∧ ifB (!b)
  (((B (false)) = r ∧ [] = O))
  ((∃ (m1 : Nat), (s3 = ((↑m1 : Int)) ∧ (∃ (q : ByteArray), (∃ (n2 : Int), (∃ (b1 : Bool), ((s0[m1]?) = some [(.str q), (.int .i64 n2), (.bool b1)] ∧ ifB b1
  (ifB (decide (n = s3))
  (((B (false)) = r ∧ [] = O))
  (ifB (decide ((0 : Int) < s66))
  ((∃ (m2 : Nat), ((IntKind.wrap IntKind.i64 (s66 - (1 : Int))) = ((↑m2 : Int)) ∧ (∃ (n3 : Int), (∃ (n4 : Int), (∃ (xs1 : List (List Da)), ((s32[m2]?) = some [(.int .i64 n3), (.int .i64 n4), (.sl xs1)] ∧ (∃ (b2 : Bool), (XC Try.prog 79 [(.dat [(.int .i64 n), (.int .i64 n1), (.sl xs)]), (.dat [(.int .i64 n3), (.int .i64 n4), (.sl xs1)])] [] (B b2) [] ∧ ifB b2
  (((B (false)) = r ∧ [] = O))
  (impl_formOk_L6 r O s0 s64 s65 (IntKind.wrap IntKind.i64 (s66 + (1 : Int))) s3 s31 s32))))))))))
  (impl_formOk_L6 r O s0 s64 s65 (IntKind.wrap IntKind.i64 (s66 + (1 : Int))) s3 s31 s32)))
  (impl_formOk_L6 r O s0 s64 s65 (IntKind.wrap IntKind.i64 (s66 + (1 : Int))) s3 s31 s32)))))))))))))))))
  (((B (true)) = r ∧ [] = O))) : impl_formOk_L6 r O s0 s64 s65 s66 s3 s31 s32 := by
  unfold impl_formOk_L6
  refine cl_of (E := env) (hs := impl_formOk_h) envOk mixed ?_
  exact to_vc (by kernel_rfl) h
theorem impl_formOk_of {p : List (List Da)} {p1 : Int} {p2 : Int} {p3 : List (List Da)} {r : AV} {O : List (Nat × Ob)} (h : (∃ (b : Bool), (XC Try.prog 101 [(.dat [(.int .i64 p1), (.int .i64 p2), (.sl p3)])] [] (B b) [] ∧ ifB b
  ((∃ (b1 : Bool), (XC Try.prog 86 [(Z p2), (Z ((0 : Int))), (Z ((99 : Int)))] [] (B b1) [] ∧ ifB b1
  (((B (decide ((↑(List.length p3) : Int) = (0 : Int)))) = r ∧ [] = O))
  (((B (false)) = r ∧ [] = O)))))
  ((∃ (b2 : Bool), (XC Try.prog 116 [(L p), (Z p1)] [] (B b2) [] ∧ ifB (!b2)
  (((B (false)) = r ∧ [] = O))
  (ifB (decide (p2 ≠ (0 : Int)))
  (((B (false)) = r ∧ [] = O))
  ((∃ (m : Nat), (p1 = ((↑m : Int)) ∧ (∃ (q : ByteArray), (∃ (n : Int), (∃ (b3 : Bool), ((p[m]?) = some [(.str q), (.int .i64 n), (.bool b3)] ∧ ifB (!b3)
  ((∃ (m1 : Nat), (p1 = ((↑m1 : Int)) ∧ (∃ (q1 : ByteArray), (∃ (n1 : Int), (∃ (b4 : Bool), ((p[m1]?) = some [(.str q1), (.int .i64 n1), (.bool b4)] ∧ ifB (decide ((↑(List.length p3) : Int) ≠ n1))
  (((B (false)) = r ∧ [] = O))
  ((∃ (m2 : Nat), (p1 = ((↑m2 : Int)) ∧ (∃ (q2 : ByteArray), (∃ (n2 : Int), (∃ (b5 : Bool), ((p[m2]?) = some [(.str q2), (.int .i64 n2), (.bool b5)] ∧ ifB b5
  (ifB (decide ((↑(List.length p3) : Int) < (2 : Int)))
  (((B (false)) = r ∧ [] = O))
  (impl_formOk_L6 r O p p3 ((↑(List.length p3) : Int)) ((0 : Int)) p1 p2 p3))
  (impl_formOk_L6 r O p p3 ((↑(List.length p3) : Int)) ((0 : Int)) p1 p2 p3)))))))))))))))
  ((∃ (m3 : Nat), (p1 = ((↑m3 : Int)) ∧ (∃ (q3 : ByteArray), (∃ (n3 : Int), (∃ (b6 : Bool), ((p[m3]?) = some [(.str q3), (.int .i64 n3), (.bool b6)] ∧ ifB b6
  (ifB (decide ((↑(List.length p3) : Int) < (2 : Int)))
  (((B (false)) = r ∧ [] = O))
  (impl_formOk_L6 r O p p3 ((↑(List.length p3) : Int)) ((0 : Int)) p1 p2 p3))
  (impl_formOk_L6 r O p p3 ((↑(List.length p3) : Int)) ((0 : Int)) p1 p2 p3)))))))))))))))))))))) : XC Try.prog 124 [(L p), (.dat [(.int .i64 p1), (.int .i64 p2), (.sl p3)])] [] r O :=
  xc_of (E := env) (hs := impl_formOk_h) (c := (bodyOf Try.f124)) (n := 105) (res := [.tmp 4]) (rs := .c .b) (ks := []) (dir := []) envOk mixed rfl Try.func124 (by kernel_rfl) (by kernel_rfl) (by kernel_rfl) (by kernel_rfl) (to_vc (by kernel_rfl) h)

/-- loop.example/g00461/impl.compare -/
def impl_compare_h : Hints := ⟨[(2, ⟨[2, 3, 26, 27, 28], [], [], []⟩), (10, ⟨[2, 3, 47, 48], [], [], []⟩)], []⟩
def impl_compare_L2 (r : AV) (O : List (Nat × Ob)) (s27 : Int) (s28 : Int) (s2 : Int) (s21 : Int) (s22 : List (List Da)) (s3 : Int) (s31 : Int) (s32 : List (List Da)) (s26 : List (List Da)) : Prop := CL 66 Try.prog (subC (bodyOf Try.f125) [1, 0, 1, 0, 0]) (kont Try.prog env impl_compare_h 66 (bodyOf Try.f125) [1, 0, 1, 0, 0] (vRet env [.tmp 4] (.c (.i .i64)) [] [] r O) (retKE (vRet env [.tmp 4] (.c (.i .i64)) [] [] r O))).1 (kont Try.prog env impl_compare_h 66 (bodyOf Try.f125) [1, 0, 1, 0, 0] (vRet env [.tmp 4] (.c (.i .i64)) [] [] r O) (retKE (vRet env [.tmp 4] (.c (.i .i64)) [] [] r O))).2 ⟨[(2, (.one (.op 1900 0))), (3, (.one (.op 1901 0))), (26, (.one (.ol 1902))), (27, (Z s27)), (28, (Z s28))], [(1900, (.var [(.d (.int .i64 s2)), (.d (.int .i64 s21)), (.d (.sl s22))])), (1901, (.var [(.d (.int .i64 s3)), (.d (.int .i64 s31)), (.d (.sl s32))])), (1902, (.lst 178 2 s26))]⟩
def impl_compare_L10 (r : AV) (O : List (Nat × Ob)) (s47 : Int) (s48 : Int) (s2 : Int) (s21 : Int) (s22 : List (List Da)) (s3 : Int) (s31 : Int) (s32 : List (List Da)) : Prop := CL 66 Try.prog (subC (bodyOf Try.f125) [1, 1, 0, 1, 0, 0]) (kont Try.prog env impl_compare_h 66 (bodyOf Try.f125) [1, 1, 0, 1, 0, 0] (vRet env [.tmp 4] (.c (.i .i64)) [] [] r O) (retKE (vRet env [.tmp 4] (.c (.i .i64)) [] [] r O))).1 (kont Try.prog env impl_compare_h 66 (bodyOf Try.f125) [1, 1, 0, 1, 0, 0] (vRet env [.tmp 4] (.c (.i .i64)) [] [] r O) (retKE (vRet env [.tmp 4] (.c (.i .i64)) [] [] r O))).2 ⟨[(2, (.one (.op 1900 0))), (3, (.one (.op 1901 0))), (47, (Z s47)), (48, (Z s48))], [(1900, (.var [(.d (.int .i64 s2)), (.d (.int .i64 s21)), (.d (.sl s22))])), (1901, (.var [(.d (.int .i64 s3)), (.d (.int .i64 s31)), (.d (.sl s32))]))]⟩
theorem impl_compare_L2_of {r : AV} {O : List (Nat × Ob)} {s27 : Int} {s28 : Int} {s2 : Int} {s21 : Int} {s22 : List (List Da)} {s3 : Int} {s31 : Int} {s32 : List (List Da)} {s26 : List (List Da)} (h : ifB (decide (s28 < s27))
  ((∃ (m : Nat), (s28 = ((↑m : Int)) ∧ (Do (m < List.length s26) ∧ (∃ (n : Nat), ((m * (2 : Nat)) = (n * (2 : Nat)) ∧ (∃ (n1 : Int), (∃ (n2 : Int), ((s26[n]?) = some [(.int .i64 n1), (.int .i64 n2)] ∧ ifB (decide (n1 < n2))
  (((Z ((-1 : Int))) = r ∧ [] = O))
  (ifB (decide (n2 < n1))
  (((Z ((1 : Int))) = r ∧ [] = O))
  (impl_compare_L2 r O s27 (IntKind.wrap IntKind.i64 (s28 + (1 : Int))) s2 s21 s22 s3 s31 s32 s26)))))))))))
  (impl_compare_L10 r O ((↑(List.length s22) : Int)) ((0 : Int)) s2 s21 s22 s3 s31 s32)) : impl_compare_L2 r O s27 s28 s2 s21 s22 s3 s31 s32 s26 := by
  unfold impl_compare_L2
  refine cl_of (E := env) (hs := impl_compare_h) envOk mixed ?_
  exact to_vc (by kernel_rfl) h
theorem impl_compare_L10_of {r : AV} {O : List (Nat × Ob)} {s47 : Int} {s48 : Int} {s2 : Int} {s21 : Int} {s22 : List (List Da)} {s3 : Int} {s31 : Int} {s32 : List (List Da)} (h : ifB (decide (s48 < s47))
  ((∃ (m : Nat), (s48 = ((↑m : Int)) ∧ (∃ (n : Int), (∃ (n1 : Int), (∃ (xs : List (List Da)), ((s22[m]?) = some [(.int .i64 n), (.int .i64 n1), (.sl xs)] ∧ (∃ (m1 : Nat), (s48 = ((↑m1 : Int)) ∧ (∃ (n2 : Int), (∃ (n3 : Int), (∃ (xs1 : List (List Da)), ((s32[m1]?) = some [(.int .i64 n2), (.int .i64 n3), (.sl xs1)] ∧ (∃ (n4 : Int), (XC Try.prog 125 [(.dat [(.int .i64 n), (.int .i64 n1), (.sl xs)]), (.dat [(.int .i64 n2), (.int .i64 n3), (.sl xs1)])] [] (Z n4) [] ∧ ifB (decide (n4 ≠ (0 : Int)))
  (((Z n4) = r ∧ [] = O))
  (impl_compare_L10 r O s47 (IntKind.wrap IntKind.i64 (s48 + (1 : Int))) s2 s21 s22 s3 s31 s32))))))))))))))))
  (((Z ((0 : Int))) = r ∧ [] = O))) : impl_compare_L10 r O s47 s48 s2 s21 s22 s3 s31 s32 := by
  unfold impl_compare_L10
  refine cl_of (E := env) (hs := impl_compare_h) envOk mixed ?_
  exact to_vc (by kernel_rfl) h
theorem impl_compare_of {p : Int} {p1 : Int} {p2 : List (List Da)} {p3 : Int} {p4 : Int} {p5 : List (List Da)} {r : AV} {O : List (Nat × Ob)} (h : impl_compare_L2 r O ((↑(List.length [[Da.int IntKind.i64 p, Da.int IntKind.i64 p3], [Da.int IntKind.i64 p1, Da.int IntKind.i64 p4], [Da.int IntKind.i64 (↑(List.length p2) : Int), Da.int IntKind.i64 (↑(List.length p5) : Int)]]) : Int)) ((0 : Int)) p p1 p2 p3 p4 p5 [[(.int .i64 p), (.int .i64 p3)], [(.int .i64 p1), (.int .i64 p4)], [(.int .i64 ((↑(List.length p2) : Int))), (.int .i64 ((↑(List.length p5) : Int)))]]) : XC Try.prog 125 [(.dat [(.int .i64 p), (.int .i64 p1), (.sl p2)]), (.dat [(.int .i64 p3), (.int .i64 p4), (.sl p5)])] [] r O :=
  xc_of (E := env) (hs := impl_compare_h) (c := (bodyOf Try.f125)) (n := 66) (res := [.tmp 4]) (rs := .c (.i .i64)) (ks := []) (dir := []) envOk mixed rfl Try.func125 (by kernel_rfl) (by kernel_rfl) (by kernel_rfl) (by kernel_rfl) (to_vc (by kernel_rfl) h)

/-- loop.example/g00461/laws.szBind -/
def laws_szBind_h : Hints := ⟨[], []⟩
theorem laws_szBind_of {a : Int} {a1 : Int} {a2 : Int} {a3 : List (List Da)} {left : Int} {r : AV} {O : List (Nat × Ob)} (h : (∃ (n : Int), (XC Try.prog 69 [(.dat [(.int .i64 a1), (.int .i64 a2), (.sl a3)]), (Z left)] [] (Z n) [] ∧ ifB (decide (n < (0 : Int)))
  (((Z ((-1 : Int))) = r ∧ [] = O))
  (((Z n) = r ∧ [] = O))))) : XC Try.prog 126 [(.dat [(.int .i64 a), (.int .i64 a1), (.int .i64 a2), (.sl a3)]), (Z left)] [] r O :=
  xc_of (E := env) (hs := laws_szBind_h) (c := (bodyOf Try.f126)) (n := 12) (res := [.tmp 4]) (rs := .c (.i .i64)) (ks := []) (dir := []) envOk mixed rfl Try.func126 (by kernel_rfl) (by kernel_rfl) (by kernel_rfl) (by kernel_rfl) (to_vc (by kernel_rfl) h)

/-- loop.example/g00461/laws.toBind -/
def laws_toBind_h : Hints := ⟨[], []⟩
theorem laws_toBind_of {a : Int} {a1 : Int} {a2 : Int} {a3 : List (List Da)} {r : AV} {O : List (Nat × Ob)} (h : (∃ (n : Int), (∃ (n1 : Int), (∃ (xs : List (List Da)), (XC Try.prog 72 [(.dat [(.int .i64 a1), (.int .i64 a2), (.sl a3)])] [] (.dat [(.int .i64 n), (.int .i64 n1), (.sl xs)]) [] ∧ ((.dat [(.int .i64 a), (.int .i64 n), (.int .i64 n1), (.sl xs)]) = r ∧ [] = O)))))) : XC Try.prog 127 [(.dat [(.int .i64 a), (.int .i64 a1), (.int .i64 a2), (.sl a3)])] [] r O :=
  xc_of (E := env) (hs := laws_toBind_h) (c := (bodyOf Try.f127)) (n := 12) (res := [.cell 2 156]) (rs := .d [(.i .i64), (.i .i64), (.i .i64), .l]) (ks := []) (dir := []) envOk mixed rfl Try.func127 (by kernel_rfl) (by kernel_rfl) (by kernel_rfl) (by kernel_rfl) (to_vc (by kernel_rfl) h)

/-- loop.example/g00461/laws.eqBind -/
def laws_eqBind_h : Hints := ⟨[], []⟩
theorem laws_eqBind_of {a : Int} {a1 : Int} {a2 : Int} {a3 : List (List Da)} {b : Int} {b1 : Int} {b2 : Int} {b3 : List (List Da)} {r : AV} {O : List (Nat × Ob)} (h : ifB (decide (a ≠ b))
  (((B (false)) = r ∧ [] = O))
  ((∃ (b4 : Bool), (XC Try.prog 75 [(.dat [(.int .i64 a1), (.int .i64 a2), (.sl a3)]), (.dat [(.int .i64 b1), (.int .i64 b2), (.sl b3)])] [] (B b4) [] ∧ ifB (!b4)
  (((B (false)) = r ∧ [] = O))
  (((B (true)) = r ∧ [] = O)))))) : XC Try.prog 128 [(.dat [(.int .i64 a), (.int .i64 a1), (.int .i64 a2), (.sl a3)]), (.dat [(.int .i64 b), (.int .i64 b1), (.int .i64 b2), (.sl b3)])] [] r O :=
  xc_of (E := env) (hs := laws_eqBind_h) (c := (bodyOf Try.f128)) (n := 16) (res := [.tmp 4]) (rs := .c .b) (ks := []) (dir := []) envOk mixed rfl Try.func128 (by kernel_rfl) (by kernel_rfl) (by kernel_rfl) (by kernel_rfl) (to_vc (by kernel_rfl) h)

/-- loop.example/g00461/impl.Refuted$1 -/
def impl_Refuted_1_h : Hints := ⟨[], []⟩
theorem impl_Refuted_1_of {p : Int} {p1 : Int} {p2 : Int} {p3 : Int} {p4 : Int} {p5 : Bool} {p6 : Bool} {p7 : List (List Da)} {p8 : Bool} {p9 : List (List Da)} {p10 : List (List Da)} {r : AV} {O : List (Nat × Ob)} (h : ((B (decide ((↑(List.length p10) : Int) = (0 : Int)))) = r ∧ [] = O)) : XC Try.prog 90 [(.dat [(.int .i64 p), (.int .i64 p1), (.int .i64 p2), (.int .i64 p3), (.int .i64 p4), (.bool p5), (.bool p6), (.sl p7), (.bool p8), (.sl p9), (.sl p10)])] [] r O :=
  xc_of (E := env) (hs := impl_Refuted_1_h) (c := (bodyOf Try.f90)) (n := 8) (res := [.tmp 2]) (rs := .c .b) (ks := []) (dir := []) envOk mixed rfl Try.func90 (by kernel_rfl) (by kernel_rfl) (by kernel_rfl) (by kernel_rfl) (to_vc (by kernel_rfl) h)

/-- loop.example/g00461/impl.compareLits -/
def impl_compareLits_h : Hints := ⟨[], []⟩
theorem impl_compareLits_of {a : Bool} {a1 : Int} {a2 : Int} {a3 : List (List Da)} {a4 : Int} {a5 : Int} {a6 : List (List Da)} {b : Bool} {b1 : Int} {b2 : Int} {b3 : List (List Da)} {b4 : Int} {b5 : Int} {b6 : List (List Da)} {r : AV} {O : List (Nat × Ob)} (h : ifB (!a)
  (ifB b
  (((Z ((-1 : Int))) = r ∧ [] = O))
  (ifB a
  (ifB (!b)
  (((Z ((1 : Int))) = r ∧ [] = O))
  ((∃ (n : Int), (XC Try.prog 125 [(.dat [(.int .i64 a1), (.int .i64 a2), (.sl a3)]), (.dat [(.int .i64 b1), (.int .i64 b2), (.sl b3)])] [] (Z n) [] ∧ ifB (decide (n ≠ (0 : Int)))
  (((Z n) = r ∧ [] = O))
  ((∃ (n1 : Int), (XC Try.prog 125 [(.dat [(.int .i64 a4), (.int .i64 a5), (.sl a6)]), (.dat [(.int .i64 b4), (.int .i64 b5), (.sl b6)])] [] (Z n1) [] ∧ ((Z n1) = r ∧ [] = O))))))))
  ((∃ (n2 : Int), (XC Try.prog 125 [(.dat [(.int .i64 a1), (.int .i64 a2), (.sl a3)]), (.dat [(.int .i64 b1), (.int .i64 b2), (.sl b3)])] [] (Z n2) [] ∧ ifB (decide (n2 ≠ (0 : Int)))
  (((Z n2) = r ∧ [] = O))
  ((∃ (n3 : Int), (XC Try.prog 125 [(.dat [(.int .i64 a4), (.int .i64 a5), (.sl a6)]), (.dat [(.int .i64 b4), (.int .i64 b5), (.sl b6)])] [] (Z n3) [] ∧ ((Z n3) = r ∧ [] = O)))))))))
  (ifB a
  (ifB (!b)
  (((Z ((1 : Int))) = r ∧ [] = O))
  ((∃ (n4 : Int), (XC Try.prog 125 [(.dat [(.int .i64 a1), (.int .i64 a2), (.sl a3)]), (.dat [(.int .i64 b1), (.int .i64 b2), (.sl b3)])] [] (Z n4) [] ∧ ifB (decide (n4 ≠ (0 : Int)))
  (((Z n4) = r ∧ [] = O))
  ((∃ (n5 : Int), (XC Try.prog 125 [(.dat [(.int .i64 a4), (.int .i64 a5), (.sl a6)]), (.dat [(.int .i64 b4), (.int .i64 b5), (.sl b6)])] [] (Z n5) [] ∧ ((Z n5) = r ∧ [] = O))))))))
  ((∃ (n6 : Int), (XC Try.prog 125 [(.dat [(.int .i64 a1), (.int .i64 a2), (.sl a3)]), (.dat [(.int .i64 b1), (.int .i64 b2), (.sl b3)])] [] (Z n6) [] ∧ ifB (decide (n6 ≠ (0 : Int)))
  (((Z n6) = r ∧ [] = O))
  ((∃ (n7 : Int), (XC Try.prog 125 [(.dat [(.int .i64 a4), (.int .i64 a5), (.sl a6)]), (.dat [(.int .i64 b4), (.int .i64 b5), (.sl b6)])] [] (Z n7) [] ∧ ((Z n7) = r ∧ [] = O))))))))) : XC Try.prog 132 [(.dat [(.bool a), (.int .i64 a1), (.int .i64 a2), (.sl a3), (.int .i64 a4), (.int .i64 a5), (.sl a6)]), (.dat [(.bool b), (.int .i64 b1), (.int .i64 b2), (.sl b3), (.int .i64 b4), (.int .i64 b5), (.sl b6)])] [] r O :=
  xc_of (E := env) (hs := impl_compareLits_h) (c := (bodyOf Try.f132)) (n := 35) (res := [.tmp 4]) (rs := .c (.i .i64)) (ks := []) (dir := []) envOk mixed rfl Try.func132 (by kernel_rfl) (by kernel_rfl) (by kernel_rfl) (by kernel_rfl) (to_vc (by kernel_rfl) h)

/-- loop.example/g00461/spec.l3Vars -/
def spec_l3Vars_h : Hints := ⟨[(4, ⟨[1, 2, 5], [], [], []⟩)], []⟩
def spec_l3Vars_L4 (r : AV) (O : List (Nat × Ob)) (out : List (List Da)) (i : Int) (t : Int) (t1 : Int) (t2 : List (List Da)) : Prop := CL 28 Try.prog (subC (bodyOf Try.f106) [1, 1, 0, 1, 0, 0]) (kont Try.prog env spec_l3Vars_h 28 (bodyOf Try.f106) [1, 1, 0, 1, 0, 0] (vRet env [.tmp 4] (.c .l) [] [] r O) (retKE (vRet env [.tmp 4] (.c .l) [] [] r O))).1 (kont Try.prog env spec_l3Vars_h 28 (bodyOf Try.f106) [1, 1, 0, 1, 0, 0] (vRet env [.tmp 4] (.c .l) [] [] r O) (retKE (vRet env [.tmp 4] (.c .l) [] [] r O))).2 ⟨[(1, (L out)), (2, (.one (.op 1900 0))), (5, (Z i))], [(1900, (.var [(.d (.int .i64 t)), (.d (.int .i64 t1)), (.d (.sl t2))]))]⟩
theorem spec_l3Vars_L4_of {r : AV} {O : List (Nat × Ob)} {out : List (List Da)} {i : Int} {t : Int} {t1 : Int} {t2 : List (List Da)} (h : ifB (decide (i < (↑(List.length t2) : Int)))
  ((∃ (m : Nat), (i = ((↑m : Int)) ∧ (∃ (n : Int), (∃ (n1 : Int), (∃ (xs : List (List Da)), ((t2[m]?) = some [(.int .i64 n), (.int .i64 n1), (.sl xs)] ∧ (∃ (xs1 : List (List Da)), (XC Try.prog 106 [(.dat [(.int .i64 n), (.int .i64 n1), (.sl xs)]), (L out)] [] (L xs1) [] ∧ spec_l3Vars_L4 r O xs1 (IntKind.wrap IntKind.i64 (i + (1 : Int))) t t1 t2)))))))))
  (((L out) = r ∧ [] = O))) : spec_l3Vars_L4 r O out i t t1 t2 := by
  unfold spec_l3Vars_L4
  refine cl_of (E := env) (hs := spec_l3Vars_h) envOk mixed ?_
  exact to_vc (by kernel_rfl) h
theorem spec_l3Vars_of {t : Int} {t1 : Int} {t2 : List (List Da)} {out : List (List Da)} {r : AV} {O : List (Nat × Ob)} (h : ifB (decide (t = (-1 : Int)))
  ((∃ (xs : List (List Da)), (XC Try.prog 111 [(L out), (Z t1)] [] (L xs) [] ∧ spec_l3Vars_L4 r O xs ((0 : Int)) t t1 t2)))
  (spec_l3Vars_L4 r O out ((0 : Int)) t t1 t2)) : XC Try.prog 106 [(.dat [(.int .i64 t), (.int .i64 t1), (.sl t2)]), (L out)] [] r O :=
  xc_of (E := env) (hs := spec_l3Vars_h) (c := (bodyOf Try.f106)) (n := 28) (res := [.tmp 4]) (rs := .c .l) (ks := []) (dir := []) envOk mixed rfl Try.func106 (by kernel_rfl) (by kernel_rfl) (by kernel_rfl) (by kernel_rfl) (to_vc (by kernel_rfl) h)

/-- loop.example/g00461/spec.l1Bit -/
def spec_l1Bit_h : Hints := ⟨[], []⟩
theorem spec_l1Bit_of {on : Bool} {r : AV} {O : List (Nat × Ob)} (h : ifB on
  (((Z ((1 : Int))) = r ∧ [] = O))
  (((Z ((0 : Int))) = r ∧ [] = O))) : XC Try.prog 133 [(B on)] [] r O :=
  xc_of (E := env) (hs := spec_l1Bit_h) (c := (bodyOf Try.f133)) (n := 4) (res := [.tmp 2]) (rs := .c (.i .i64)) (ks := []) (dir := []) envOk mixed rfl Try.func133 (by kernel_rfl) (by kernel_rfl) (by kernel_rfl) (by kernel_rfl) (to_vc (by kernel_rfl) h)

/-- slices.IndexFunc[[]int,int] -/
def slices_IndexFunc_int_impl_RuleOk_1_h : Hints := ⟨[(2, ⟨[0, 1, 7, 8], [], [], []⟩)], []⟩
def slices_IndexFunc_int_impl_RuleOk_1_L2 (r : AV) (O : List (Nat × Ob)) (s : List (List Da)) (s7 : Int) (s8 : Int) : Prop := CL 19 Try.prog (subC (bodyOf Try.f136) [1, 0, 1, 0, 0]) (kont Try.prog env slices_IndexFunc_int_impl_RuleOk_1_h 19 (bodyOf Try.f136) [1, 0, 1, 0, 0] (vRet env [.tmp 4] (.c (.i .i64)) [] [] r O) (retKE (vRet env [.tmp 4] (.c (.i .i64)) [] [] r O))).1 (kont Try.prog env slices_IndexFunc_int_impl_RuleOk_1_h 19 (bodyOf Try.f136) [1, 0, 1, 0, 0] (vRet env [.tmp 4] (.c (.i .i64)) [] [] r O) (retKE (vRet env [.tmp 4] (.c (.i .i64)) [] [] r O))).2 ⟨[(0, (L s)), (1, (.one (.d (.fn 103)))), (7, (Z s7)), (8, (Z s8))], []⟩
theorem slices_IndexFunc_int_impl_RuleOk_1_L2_of {r : AV} {O : List (Nat × Ob)} {s : List (List Da)} {s7 : Int} {s8 : Int} (h : ifB (decide (s8 < s7))
  ((∃ (m : Nat), (s8 = ((↑m : Int)) ∧ (∃ (n : Int), ((s[m]?) = some [(.int .i64 n)] ∧ (∃ (b : Bool), (XC Try.prog 103 [(Z n)] [] (B b) [] ∧ ifB b
  (((Z s8) = r ∧ [] = O))
  (slices_IndexFunc_int_impl_RuleOk_1_L2 r O s s7 (IntKind.wrap IntKind.i64 (s8 + (1 : Int)))))))))))
  (((Z ((-1 : Int))) = r ∧ [] = O))) : slices_IndexFunc_int_impl_RuleOk_1_L2 r O s s7 s8 := by
  unfold slices_IndexFunc_int_impl_RuleOk_1_L2
  refine cl_of (E := env) (hs := slices_IndexFunc_int_impl_RuleOk_1_h) envOk mixed ?_
  exact to_vc (by kernel_rfl) h
theorem slices_IndexFunc_int_impl_RuleOk_1_of {s : List (List Da)} {r : AV} {O : List (Nat × Ob)} (h : slices_IndexFunc_int_impl_RuleOk_1_L2 r O s ((↑(List.length s) : Int)) ((0 : Int))) : XC Try.prog 136 [(L s), (.one (.d (.fn 103)))] [] r O :=
  xc_of (E := env) (hs := slices_IndexFunc_int_impl_RuleOk_1_h) (c := (bodyOf Try.f136)) (n := 19) (res := [.tmp 4]) (rs := .c (.i .i64)) (ks := []) (dir := []) envOk mixed rfl Try.func136 (by kernel_rfl) (by kernel_rfl) (by kernel_rfl) (by kernel_rfl) (to_vc (by kernel_rfl) h)

/-- slices.IndexFunc[[]int,int] -/
def slices_IndexFunc_int_impl_RuleOk_2_h : Hints := ⟨[(2, ⟨[0, 1, 7, 8], [], [], []⟩)], []⟩
def slices_IndexFunc_int_impl_RuleOk_2_L2 (r : AV) (O : List (Nat × Ob)) (s : List (List Da)) (s7 : Int) (s8 : Int) (o2000 : List (List Da)) : Prop := CL 19 Try.prog (subC (bodyOf Try.f136) [1, 0, 1, 0, 0]) (kont Try.prog env slices_IndexFunc_int_impl_RuleOk_2_h 19 (bodyOf Try.f136) [1, 0, 1, 0, 0] (vRet env [.tmp 4] (.c (.i .i64)) [(2000, (true))] [2000] r O) (retKE (vRet env [.tmp 4] (.c (.i .i64)) [(2000, (true))] [2000] r O))).1 (kont Try.prog env slices_IndexFunc_int_impl_RuleOk_2_h 19 (bodyOf Try.f136) [1, 0, 1, 0, 0] (vRet env [.tmp 4] (.c (.i .i64)) [(2000, (true))] [2000] r O) (retKE (vRet env [.tmp 4] (.c (.i .i64)) [(2000, (true))] [2000] r O))).2 ⟨[(0, (L s)), (1, (.one (.clo 104 [(2000, 0)]))), (7, (Z s7)), (8, (Z s8))], [(2000, (.var [(.d (.sl o2000))]))]⟩
theorem slices_IndexFunc_int_impl_RuleOk_2_L2_of {r : AV} {O : List (Nat × Ob)} {s : List (List Da)} {s7 : Int} {s8 : Int} {o2000 : List (List Da)} (h : ifB (decide (s8 < s7))
  ((∃ (m : Nat), (s8 = ((↑m : Int)) ∧ (∃ (n : Int), ((s[m]?) = some [(.int .i64 n)] ∧ (∃ (b : Bool), (∃ (xs : List (List Da)), (XC Try.prog 104 [(Z n), (.one (.op 2000 0))] [(2000, (.var [(.d (.sl o2000))]))] (B b) [(2000, (.var [(.d (.sl xs))]))] ∧ ifB b
  (((Z s8) = r ∧ [(2000, (.var [(.d (.sl xs))]))] = O))
  (slices_IndexFunc_int_impl_RuleOk_2_L2 r O s s7 (IntKind.wrap IntKind.i64 (s8 + (1 : Int))) xs)))))))))
  (((Z ((-1 : Int))) = r ∧ [(2000, (.var [(.d (.sl o2000))]))] = O))) : slices_IndexFunc_int_impl_RuleOk_2_L2 r O s s7 s8 o2000 := by
  unfold slices_IndexFunc_int_impl_RuleOk_2_L2
  refine cl_of (E := env) (hs := slices_IndexFunc_int_impl_RuleOk_2_h) envOk mixed ?_
  exact to_vc (by kernel_rfl) h
theorem slices_IndexFunc_int_impl_RuleOk_2_of {s : List (List Da)} {o2000 : List (List Da)} {r : AV} {O : List (Nat × Ob)} (h : slices_IndexFunc_int_impl_RuleOk_2_L2 r O s ((↑(List.length s) : Int)) ((0 : Int)) o2000) : XC Try.prog 136 [(L s), (.one (.clo 104 [(2000, 0)]))] [(2000, (.var [(.d (.sl o2000))]))] r O :=
  xc_of (E := env) (hs := slices_IndexFunc_int_impl_RuleOk_2_h) (c := (bodyOf Try.f136)) (n := 19) (res := [.tmp 4]) (rs := .c (.i .i64)) (ks := [(2000, (true))]) (dir := [2000]) envOk mixed rfl Try.func136 (by kernel_rfl) (by kernel_rfl) (by kernel_rfl) (by kernel_rfl) (to_vc (by kernel_rfl) h)

/-- slices.Contains[[]int,int] -/
def slices_Contains_int_h : Hints := ⟨[], []⟩
theorem slices_Contains_int_of {s : List (List Da)} {v : Int} {r : AV} {O : List (Nat × Ob)} (h : (∃ (n : Int), (XC Try.prog 151 [(L s), (Z v)] [] (Z n) [] ∧ ((B (decide ((0 : Int) ≤ n))) = r ∧ [] = O)))) : XC Try.prog 137 [(L s), (Z v)] [] r O :=
  xc_of (E := env) (hs := slices_Contains_int_h) (c := (bodyOf Try.f137)) (n := 9) (res := [.tmp 4]) (rs := .c .b) (ks := []) (dir := []) envOk mixed rfl Try.func137 (by kernel_rfl) (by kernel_rfl) (by kernel_rfl) (by kernel_rfl) (to_vc (by kernel_rfl) h)

/-- loop.example/g00461/impl.usesB -/
def impl_usesB_h : Hints := ⟨[], []⟩
theorem impl_usesB_of {p : Int} {p1 : Int} {p2 : Int} {p3 : Int} {p4 : Int} {p5 : Bool} {p6 : Bool} {p7 : List (List Da)} {p8 : Bool} {p9 : List (List Da)} {p10 : List (List Da)} {r : AV} {O : List (Nat × Ob)} (h : ifB (decide (p = (4 : Int)))
  (((B (true)) = r ∧ [] = O))
  (((B (decide (p = (5 : Int)))) = r ∧ [] = O))) : XC Try.prog 143 [(.dat [(.int .i64 p), (.int .i64 p1), (.int .i64 p2), (.int .i64 p3), (.int .i64 p4), (.bool p5), (.bool p6), (.sl p7), (.bool p8), (.sl p9), (.sl p10)])] [] r O :=
  xc_of (E := env) (hs := impl_usesB_h) (c := (bodyOf Try.f143)) (n := 11) (res := [.tmp 2]) (rs := .c .b) (ks := []) (dir := []) envOk mixed rfl Try.func143 (by kernel_rfl) (by kernel_rfl) (by kernel_rfl) (by kernel_rfl) (to_vc (by kernel_rfl) h)

/-- slices.Clone[[]int,int] -/
def slices_Clone_int_h : Hints := ⟨[], []⟩
theorem slices_Clone_int_of {s : List (List Da)} {r : AV} {O : List (Nat × Ob)} (h : Stop 1 1) : XC Try.prog 139 [(L s)] [] r O :=
  xc_of (E := env) (hs := slices_Clone_int_h) (c := (bodyOf Try.f139)) (n := 8) (res := [.tmp 2]) (rs := .c .l) (ks := []) (dir := []) envOk mixed rfl Try.func139 (by kernel_rfl) (by kernel_rfl) (by kernel_rfl) (by kernel_rfl) (to_vc (by kernel_rfl) h)

/-- slices.IndexFunc[[]int,int] -/
def slices_IndexFunc_int_impl_NumAdd_1_h : Hints := ⟨[(2, ⟨[0, 1, 7, 8], [], [], []⟩)], []⟩
def slices_IndexFunc_int_impl_NumAdd_1_L2 (r : AV) (O : List (Nat × Ob)) (s : List (List Da)) (s7 : Int) (s8 : Int) (o2000 : Int) : Prop := CL 19 Try.prog (subC (bodyOf Try.f136) [1, 0, 1, 0, 0]) (kont Try.prog env slices_IndexFunc_int_impl_NumAdd_1_h 19 (bodyOf Try.f136) [1, 0, 1, 0, 0] (vRet env [.tmp 4] (.c (.i .i64)) [(2000, (true))] [2000] r O) (retKE (vRet env [.tmp 4] (.c (.i .i64)) [(2000, (true))] [2000] r O))).1 (kont Try.prog env slices_IndexFunc_int_impl_NumAdd_1_h 19 (bodyOf Try.f136) [1, 0, 1, 0, 0] (vRet env [.tmp 4] (.c (.i .i64)) [(2000, (true))] [2000] r O) (retKE (vRet env [.tmp 4] (.c (.i .i64)) [(2000, (true))] [2000] r O))).2 ⟨[(0, (L s)), (1, (.one (.clo 140 [(2000, 0)]))), (7, (Z s7)), (8, (Z s8))], [(2000, (.var [(.d (.int .i64 o2000))]))]⟩
theorem slices_IndexFunc_int_impl_NumAdd_1_L2_of {r : AV} {O : List (Nat × Ob)} {s : List (List Da)} {s7 : Int} {s8 : Int} {o2000 : Int} (h : ifB (decide (s8 < s7))
  ((∃ (m : Nat), (s8 = ((↑m : Int)) ∧ (∃ (n : Int), ((s[m]?) = some [(.int .i64 n)] ∧ (∃ (b : Bool), (∃ (m1 : Int), (XC Try.prog 140 [(Z n), (.one (.op 2000 0))] [(2000, (.var [(.d (.int .i64 o2000))]))] (B b) [(2000, (.var [(.d (.int .i64 m1))]))] ∧ ifB b
  (((Z s8) = r ∧ [(2000, (.var [(.d (.int .i64 m1))]))] = O))
  (slices_IndexFunc_int_impl_NumAdd_1_L2 r O s s7 (IntKind.wrap IntKind.i64 (s8 + (1 : Int))) m1)))))))))
  (((Z ((-1 : Int))) = r ∧ [(2000, (.var [(.d (.int .i64 o2000))]))] = O))) : slices_IndexFunc_int_impl_NumAdd_1_L2 r O s s7 s8 o2000 := by
  unfold slices_IndexFunc_int_impl_NumAdd_1_L2
  refine cl_of (E := env) (hs := slices_IndexFunc_int_impl_NumAdd_1_h) envOk mixed ?_
  exact to_vc (by kernel_rfl) h
theorem slices_IndexFunc_int_impl_NumAdd_1_of {s : List (List Da)} {o2000 : Int} {r : AV} {O : List (Nat × Ob)} (h : slices_IndexFunc_int_impl_NumAdd_1_L2 r O s ((↑(List.length s) : Int)) ((0 : Int)) o2000) : XC Try.prog 136 [(L s), (.one (.clo 140 [(2000, 0)]))] [(2000, (.var [(.d (.int .i64 o2000))]))] r O :=
  xc_of (E := env) (hs := slices_IndexFunc_int_impl_NumAdd_1_h) (c := (bodyOf Try.f136)) (n := 19) (res := [.tmp 4]) (rs := .c (.i .i64)) (ks := [(2000, (true))]) (dir := [2000]) envOk mixed rfl Try.func136 (by kernel_rfl) (by kernel_rfl) (by kernel_rfl) (by kernel_rfl) (to_vc (by kernel_rfl) h)

/-- slices.Insert[[]int,int] -/
def slices_Insert_int_h : Hints := ⟨[], []⟩
theorem slices_Insert_int_of {p : List (List Da)} {p1 : Int} {p2 : List (List Da)} {r : AV} {O : List (Nat × Ob)} (h : (∃ (n : Nat), (p1 = ((↑n : Int)) ∧ (Do (n ≤ List.length p ∧ List.length p ≤ List.length p) ∧ (Do (∀ (c : List Da), c ∈ p → List.length c = TI.n { agg := false, n := (1 : Nat), b := (8 : Nat), el := none, fs := [], pr := (3 : Nat), ik := some IntKind.i64 }) ∧ ifB (decide ((↑(List.length p2) : Int) = (0 : Int)))
  (((L p) = r ∧ [] = O))
  (ifB (decide (p1 = (↑(List.length p) : Int)))
  (Stop 7 2)
  (Stop 8 4))))))) : XC Try.prog 141 [(L p), (Z p1), (L p2)] [] r O :=
  xc_of (E := env) (hs := slices_Insert_int_h) (c := (bodyOf Try.f141)) (n := 95) (res := [.tmp 6]) (rs := .c .l) (ks := []) (dir := []) envOk mixed rfl Try.func141 (by kernel_rfl) (by kernel_rfl) (by kernel_rfl) (by kernel_rfl) (to_vc (by kernel_rfl) h)

/-- loop.example/g00461/spec.NameOk -/
def spec_NameOk_h : Hints := ⟨[(2, ⟨[0, 3], [], [], []⟩)], []⟩
def spec_NameOk_L2 (r : AV) (O : List (Nat × Ob)) (s : ByteArray) (i : Int) : Prop := CL 40 Try.prog (subC (bodyOf Try.f144) [1, 0, 1, 0, 0]) (kont Try.prog env spec_NameOk_h 40 (bodyOf Try.f144) [1, 0, 1, 0, 0] (vRet env [.tmp 2] (.c .b) [] [] r O) (retKE (vRet env [.tmp 2] (.c .b) [] [] r O))).1 (kont Try.prog env spec_NameOk_h 40 (bodyOf Try.f144) [1, 0, 1, 0, 0] (vRet env [.tmp 2] (.c .b) [] [] r O) (retKE (vRet env [.tmp 2] (.c .b) [] [] r O))).2 ⟨[(0, (T s)), (3, (Z i))], []⟩
theorem spec_NameOk_L2_of {r : AV} {O : List (Nat × Ob)} {s : ByteArray} {i : Int} (h : ifB (decide (i < (↑(ByteArray.size s) : Int)))
  ((∃ (n : Nat), (∃ (b : UInt8), (i = ((↑n : Int)) ∧ ((s[n]?) = some b ∧ ifB (decide ((97 : Int) ≤ (↑(UInt8.toNat b) : Int)))
  ((∃ (n1 : Nat), (∃ (b1 : UInt8), (i = ((↑n1 : Int)) ∧ ((s[n1]?) = some b1 ∧ ifB (decide ((↑(UInt8.toNat b1) : Int) ≤ (122 : Int)))
  (spec_NameOk_L2 r O s (IntKind.wrap IntKind.i64 (i + (1 : Int))))
  (ifB (decide ((0 : Int) < i))
  ((∃ (n2 : Nat), (∃ (b2 : UInt8), (i = ((↑n2 : Int)) ∧ ((s[n2]?) = some b2 ∧ ifB (decide ((48 : Int) ≤ (↑(UInt8.toNat b2) : Int)))
  ((∃ (n3 : Nat), (∃ (b3 : UInt8), (i = ((↑n3 : Int)) ∧ ((s[n3]?) = some b3 ∧ ifB (!decide ((↑(UInt8.toNat b3) : Int) ≤ (57 : Int)))
  (((B (false)) = r ∧ [] = O))
  (spec_NameOk_L2 r O s (IntKind.wrap IntKind.i64 (i + (1 : Int)))))))))
  (((B (false)) = r ∧ [] = O)))))))
  (((B (false)) = r ∧ [] = O))))))))
  (ifB (decide ((0 : Int) < i))
  ((∃ (n4 : Nat), (∃ (b4 : UInt8), (i = ((↑n4 : Int)) ∧ ((s[n4]?) = some b4 ∧ ifB (decide ((48 : Int) ≤ (↑(UInt8.toNat b4) : Int)))
  ((∃ (n5 : Nat), (∃ (b5 : UInt8), (i = ((↑n5 : Int)) ∧ ((s[n5]?) = some b5 ∧ ifB (!decide ((↑(UInt8.toNat b5) : Int) ≤ (57 : Int)))
  (((B (false)) = r ∧ [] = O))
  (spec_NameOk_L2 r O s (IntKind.wrap IntKind.i64 (i + (1 : Int)))))))))
  (((B (false)) = r ∧ [] = O)))))))
  (((B (false)) = r ∧ [] = O))))))))
  ((∃ (b6 : Bool), (XC Try.prog 82 [(Z ((↑(ByteArray.size s) : Int))), (Z ((1 : Int))), (Z ((8 : Int)))] [] (B b6) [] ∧ ((B b6) = r ∧ [] = O))))) : spec_NameOk_L2 r O s i := by
  unfold spec_NameOk_L2
  refine cl_of (E := env) (hs := spec_NameOk_h) envOk mixed ?_
  exact to_vc (by kernel_rfl) h
theorem spec_NameOk_of {s : ByteArray} {r : AV} {O : List (Nat × Ob)} (h : spec_NameOk_L2 r O s ((0 : Int))) : XC Try.prog 144 [(T s)] [] r O :=
  xc_of (E := env) (hs := spec_NameOk_h) (c := (bodyOf Try.f144)) (n := 40) (res := [.tmp 2]) (rs := .c .b) (ks := []) (dir := []) envOk mixed rfl Try.func144 (by kernel_rfl) (by kernel_rfl) (by kernel_rfl) (by kernel_rfl) (to_vc (by kernel_rfl) h)

/-- loop.example/g00461/spec.SymOf -/
def spec_SymOf_h : Hints := ⟨[(2, ⟨[0, 1, 5], [], [], []⟩)], []⟩
def spec_SymOf_L2 (r : AV) (O : List (Nat × Ob)) (s : List (List Da)) (name : ByteArray) (i : Int) : Prop := CL 20 Try.prog (subC (bodyOf Try.f145) [1, 0, 1, 0, 0]) (kont Try.prog env spec_SymOf_h 20 (bodyOf Try.f145) [1, 0, 1, 0, 0] (vRet env [.tmp 4] (.c (.i .i64)) [] [] r O) (retKE (vRet env [.tmp 4] (.c (.i .i64)) [] [] r O))).1 (kont Try.prog env spec_SymOf_h 20 (bodyOf Try.f145) [1, 0, 1, 0, 0] (vRet env [.tmp 4] (.c (.i .i64)) [] [] r O) (retKE (vRet env [.tmp 4] (.c (.i .i64)) [] [] r O))).2 ⟨[(0, (L s)), (1, (T name)), (5, (Z i))], []⟩
theorem spec_SymOf_L2_of {r : AV} {O : List (Nat × Ob)} {s : List (List Da)} {name : ByteArray} {i : Int} (h : ifB (decide (i < (↑(List.length s) : Int)))
  ((∃ (m : Nat), (i = ((↑m : Int)) ∧ (∃ (q : ByteArray), (∃ (n : Int), (∃ (b : Bool), ((s[m]?) = some [(.str q), (.int .i64 n), (.bool b)] ∧ ifB (decide (q = name))
  (((Z i) = r ∧ [] = O))
  (spec_SymOf_L2 r O s name (IntKind.wrap IntKind.i64 (i + (1 : Int)))))))))))
  (((Z ((-1 : Int))) = r ∧ [] = O))) : spec_SymOf_L2 r O s name i := by
  unfold spec_SymOf_L2
  refine cl_of (E := env) (hs := spec_SymOf_h) envOk mixed ?_
  exact to_vc (by kernel_rfl) h
theorem spec_SymOf_of {s : List (List Da)} {name : ByteArray} {r : AV} {O : List (Nat × Ob)} (h : spec_SymOf_L2 r O s name ((0 : Int))) : XC Try.prog 145 [(L s), (T name)] [] r O :=
  xc_of (E := env) (hs := spec_SymOf_h) (c := (bodyOf Try.f145)) (n := 20) (res := [.tmp 4]) (rs := .c (.i .i64)) (ks := []) (dir := []) envOk mixed rfl Try.func145 (by kernel_rfl) (by kernel_rfl) (by kernel_rfl) (by kernel_rfl) (to_vc (by kernel_rfl) h)

/-- loop.example/g00461/impl.NameOk -/
def impl_NameOk_h : Hints := ⟨[(2, ⟨[0, 5, 6], [], [], []⟩)], []⟩
def impl_NameOk_L2 (r : AV) (O : List (Nat × Ob)) (s : ByteArray) (s5 : Int) (s6 : Int) : Prop := CL 30 Try.prog (subC (bodyOf Try.f146) [1, 0, 1, 0, 0]) (kont Try.prog env impl_NameOk_h 30 (bodyOf Try.f146) [1, 0, 1, 0, 0] (vRet env [.tmp 2] (.c .b) [] [] r O) (retKE (vRet env [.tmp 2] (.c .b) [] [] r O))).1 (kont Try.prog env impl_NameOk_h 30 (bodyOf Try.f146) [1, 0, 1, 0, 0] (vRet env [.tmp 2] (.c .b) [] [] r O) (retKE (vRet env [.tmp 2] (.c .b) [] [] r O))).2 ⟨[(0, (T s)), (5, (Z s5)), (6, (Z s6))], []⟩
theorem impl_NameOk_L2_of {r : AV} {O : List (Nat × Ob)} {s : ByteArray} {s5 : Int} {s6 : Int} (h : ifB (decide (s6 < s5))
  ((∃ (n : Nat), (∃ (b : UInt8), (s6 = ((↑n : Int)) ∧ ((s[n]?) = some b ∧ (∃ (b1 : Bool), (XC Try.prog 154 [(I .u8 ((↑(UInt8.toNat b) : Int)))] [] (B b1) [] ∧ ifB (!b1)
  ((∃ (n1 : Nat), (∃ (b2 : UInt8), (s6 = ((↑n1 : Int)) ∧ ((s[n1]?) = some b2 ∧ (∃ (b3 : Bool), (XC Try.prog 155 [(I .u8 ((↑(UInt8.toNat b2) : Int)))] [] (B b3) [] ∧ ifB (!b3)
  (((B (false)) = r ∧ [] = O))
  (impl_NameOk_L2 r O s s5 (IntKind.wrap IntKind.i64 (s6 + (1 : Int)))))))))))
  (impl_NameOk_L2 r O s s5 (IntKind.wrap IntKind.i64 (s6 + (1 : Int)))))))))))
  ((∃ (b4 : Bool), (XC Try.prog 86 [(Z ((↑(ByteArray.size s) : Int))), (Z ((1 : Int))), (Z ((8 : Int)))] [] (B b4) [] ∧ ifB b4
  ((∃ (n2 : Nat), (∃ (b5 : UInt8), (((0 : Int)) = ((↑n2 : Int)) ∧ ((s[n2]?) = some b5 ∧ (∃ (b6 : Bool), (XC Try.prog 154 [(I .u8 ((↑(UInt8.toNat b5) : Int)))] [] (B b6) [] ∧ ((B b6) = r ∧ [] = O))))))))
  (((B (false)) = r ∧ [] = O)))))) : impl_NameOk_L2 r O s s5 s6 := by
  unfold impl_NameOk_L2
  refine cl_of (E := env) (hs := impl_NameOk_h) envOk mixed ?_
  exact to_vc (by kernel_rfl) h
theorem impl_NameOk_of {s : ByteArray} {r : AV} {O : List (Nat × Ob)} (h : impl_NameOk_L2 r O s ((↑(ByteArray.size s) : Int)) ((0 : Int))) : XC Try.prog 146 [(T s)] [] r O :=
  xc_of (E := env) (hs := impl_NameOk_h) (c := (bodyOf Try.f146)) (n := 30) (res := [.tmp 2]) (rs := .c .b) (ks := []) (dir := []) envOk mixed rfl Try.func146 (by kernel_rfl) (by kernel_rfl) (by kernel_rfl) (by kernel_rfl) (to_vc (by kernel_rfl) h)

/-- loop.example/g00461/impl.SymOf -/
def impl_SymOf_h : Hints := ⟨[], []⟩
theorem impl_SymOf_of {s : List (List Da)} {name : ByteArray} {r : AV} {O : List (Nat × Ob)} (h : (∃ (n : Int), (∃ (q : ByteArray), (XC Try.prog 156 [(L s), (.one (.clo 157 [(2000, 0)]))] [(2000, (.var [(.d (.str name))]))] (Z n) [(2000, (.var [(.d (.str q))]))] ∧ ((Z n) = r ∧ [] = O))))) : XC Try.prog 147 [(L s), (T name)] [] r O :=
  xc_of (E := env) (hs := impl_SymOf_h) (c := (bodyOf Try.f147)) (n := 8) (res := [.tmp 4]) (rs := .c (.i .i64)) (ks := []) (dir := []) envOk mixed rfl Try.func147 (by kernel_rfl) (by kernel_rfl) (by kernel_rfl) (by kernel_rfl) (to_vc (by kernel_rfl) h)

/-- loop.example/g00461/impl.each -/
def impl_each_impl_Parts_1_h : Hints := ⟨[(3, ⟨[1, 10, 11, 12], [], [], []⟩)], []⟩
def impl_each_impl_Parts_1_L3 (r : AV) (O : List (Nat × Ob)) (s10 : List (List Da)) (s11 : Int) (s12 : Int) (o2000 : Int) : Prop := CL 20 Try.prog (subC (bodyOf Try.f134) [1, 1, 1, 0, 0]) (kont Try.prog env impl_each_impl_Parts_1_h 20 (bodyOf Try.f134) [1, 1, 1, 0, 0] (vRet env [] (.t []) [(2000, (true))] [2000] r O) (retKE (vRet env [] (.t []) [(2000, (true))] [2000] r O))).1 (kont Try.prog env impl_each_impl_Parts_1_h 20 (bodyOf Try.f134) [1, 1, 1, 0, 0] (vRet env [] (.t []) [(2000, (true))] [2000] r O) (retKE (vRet env [] (.t []) [(2000, (true))] [2000] r O))).2 ⟨[(1, (.one (.clo 148 [(2000, 0)]))), (10, (L s10)), (11, (Z s11)), (12, (Z s12))], [(2000, (.var [(.d (.int .i64 o2000))]))]⟩
theorem impl_each_impl_Parts_1_L3_of {r : AV} {O : List (Nat × Ob)} {s10 : List (List Da)} {s11 : Int} {s12 : Int} {o2000 : Int} (h : ifB (decide (s12 < s11))
  ((∃ (m : Nat), (s12 = ((↑m : Int)) ∧ (∃ (n : Int), (∃ (n1 : Int), (∃ (xs : List (List Da)), ((s10[m]?) = some [(.int .i64 n), (.int .i64 n1), (.sl xs)] ∧ (∃ (m1 : Int), (XC Try.prog 134 [(.dat [(.int .i64 n), (.int .i64 n1), (.sl xs)]), (.one (.clo 148 [(2000, 0)]))] [(2000, (.var [(.d (.int .i64 o2000))]))] (.tup []) [(2000, (.var [(.d (.int .i64 m1))]))] ∧ impl_each_impl_Parts_1_L3 r O s10 s11 (IntKind.wrap IntKind.i64 (s12 + (1 : Int))) m1)))))))))
  (((.tup []) = r ∧ [(2000, (.var [(.d (.int .i64 o2000))]))] = O))) : impl_each_impl_Parts_1_L3 r O s10 s11 s12 o2000 := by
  unfold impl_each_impl_Parts_1_L3
  refine cl_of (E := env) (hs := impl_each_impl_Parts_1_h) envOk mixed ?_
  exact to_vc (by kernel_rfl) h
theorem impl_each_impl_Parts_1_of {t : Int} {t1 : Int} {t2 : List (List Da)} {o2000 : Int} {r : AV} {O : List (Nat × Ob)} (h : (∃ (m : Int), (XC Try.prog 148 [(.dat [(.int .i64 t), (.int .i64 t1), (.sl t2)]), (.one (.op 2000 0))] [(2000, (.var [(.d (.int .i64 o2000))]))] (.tup []) [(2000, (.var [(.d (.int .i64 m))]))] ∧ impl_each_impl_Parts_1_L3 r O t2 ((↑(List.length t2) : Int)) ((0 : Int)) m))) : XC Try.prog 134 [(.dat [(.int .i64 t), (.int .i64 t1), (.sl t2)]), (.one (.clo 148 [(2000, 0)]))] [(2000, (.var [(.d (.int .i64 o2000))]))] r O :=
  xc_of (E := env) (hs := impl_each_impl_Parts_1_h) (c := (bodyOf Try.f134)) (n := 20) (res := []) (rs := .t []) (ks := [(2000, (true))]) (dir := [2000]) envOk mixed rfl Try.func134 (by kernel_rfl) (by kernel_rfl) (by kernel_rfl) (by kernel_rfl) (to_vc (by kernel_rfl) h)

/-- loop.example/g00461/impl.RuleOk$1 -/
def impl_RuleOk_1_h : Hints := ⟨[], []⟩
theorem impl_RuleOk_1_of {v : Int} {r : AV} {O : List (Nat × Ob)} (h : ((B (decide ((60 : Int) ≤ v))) = r ∧ [] = O)) : XC Try.prog 103 [(Z v)] [] r O :=
  xc_of (E := env) (hs := impl_RuleOk_1_h) (c := (bodyOf Try.f103)) (n := 5) (res := [.tmp 2]) (rs := .c .b) (ks := []) (dir := []) envOk mixed rfl Try.func103 (by kernel_rfl) (by kernel_rfl) (by kernel_rfl) (by kernel_rfl) (to_vc (by kernel_rfl) h)

/-- loop.example/g00461/impl.RuleOk$2 -/
def impl_RuleOk_2_h : Hints := ⟨[], []⟩
theorem impl_RuleOk_2_of {v : Int} {o2000 : List (List Da)} {r : AV} {O : List (Nat × Ob)} (h : (∃ (b : Bool), (XC Try.prog 105 [(L o2000), (Z v)] [] (B b) [] ∧ ((B (!b)) = r ∧ [(2000, (.var [(.d (.sl o2000))]))] = O)))) : XC Try.prog 104 [(Z v), (.one (.op 2000 0))] [(2000, (.var [(.d (.sl o2000))]))] r O :=
  xc_of (E := env) (hs := impl_RuleOk_2_h) (c := (bodyOf Try.f104)) (n := 8) (res := [.tmp 3]) (rs := .c .b) (ks := [(2000, (true))]) (dir := [2000]) envOk mixed rfl Try.func104 (by kernel_rfl) (by kernel_rfl) (by kernel_rfl) (by kernel_rfl) (to_vc (by kernel_rfl) h)

/-- slices.Index[[]int,int] -/
def slices_Index_int_h : Hints := ⟨[(2, ⟨[0, 1, 7, 8], [], [], []⟩)], []⟩
def slices_Index_int_L2 (r : AV) (O : List (Nat × Ob)) (s : List (List Da)) (v : Int) (s7 : Int) (s8 : Int) : Prop := CL 19 Try.prog (subC (bodyOf Try.f151) [1, 0, 1, 0, 0]) (kont Try.prog env slices_Index_int_h 19 (bodyOf Try.f151) [1, 0, 1, 0, 0] (vRet env [.tmp 4] (.c (.i .i64)) [] [] r O) (retKE (vRet env [.tmp 4] (.c (.i .i64)) [] [] r O))).1 (kont Try.prog env slices_Index_int_h 19 (bodyOf Try.f151) [1, 0, 1, 0, 0] (vRet env [.tmp 4] (.c (.i .i64)) [] [] r O) (retKE (vRet env [.tmp 4] (.c (.i .i64)) [] [] r O))).2 ⟨[(0, (L s)), (1, (Z v)), (7, (Z s7)), (8, (Z s8))], []⟩
theorem slices_Index_int_L2_of {r : AV} {O : List (Nat × Ob)} {s : List (List Da)} {v : Int} {s7 : Int} {s8 : Int} (h : ifB (decide (s8 < s7))
  ((∃ (m : Nat), (s8 = ((↑m : Int)) ∧ (∃ (n : Int), ((s[m]?) = some [(.int .i64 n)] ∧ ifB (decide (v = n))
  (((Z s8) = r ∧ [] = O))
  (slices_Index_int_L2 r O s v s7 (IntKind.wrap IntKind.i64 (s8 + (1 : Int)))))))))
  (((Z ((-1 : Int))) = r ∧ [] = O))) : slices_Index_int_L2 r O s v s7 s8 := by
  unfold slices_Index_int_L2
  refine cl_of (E := env) (hs := slices_Index_int_h) envOk mixed ?_
  exact to_vc (by kernel_rfl) h
theorem slices_Index_int_of {s : List (List Da)} {v : Int} {r : AV} {O : List (Nat × Ob)} (h : slices_Index_int_L2 r O s v ((↑(List.length s) : Int)) ((0 : Int))) : XC Try.prog 151 [(L s), (Z v)] [] r O :=
  xc_of (E := env) (hs := slices_Index_int_h) (c := (bodyOf Try.f151)) (n := 19) (res := [.tmp 4]) (rs := .c (.i .i64)) (ks := []) (dir := []) envOk mixed rfl Try.func151 (by kernel_rfl) (by kernel_rfl) (by kernel_rfl) (by kernel_rfl) (to_vc (by kernel_rfl) h)

/-- loop.example/g00461/impl.NumAdd$1 -/
def impl_NumAdd_1_h : Hints := ⟨[], []⟩
theorem impl_NumAdd_1_of {x : Int} {o2000 : Int} {r : AV} {O : List (Nat × Ob)} (h : ((B (decide (o2000 < x))) = r ∧ [(2000, (.var [(.d (.int .i64 o2000))]))] = O)) : XC Try.prog 140 [(Z x), (.one (.op 2000 0))] [(2000, (.var [(.d (.int .i64 o2000))]))] r O :=
  xc_of (E := env) (hs := impl_NumAdd_1_h) (c := (bodyOf Try.f140)) (n := 7) (res := [.tmp 3]) (rs := .c .b) (ks := [(2000, (true))]) (dir := [2000]) envOk mixed rfl Try.func140 (by kernel_rfl) (by kernel_rfl) (by kernel_rfl) (by kernel_rfl) (to_vc (by kernel_rfl) h)

/-- loop.example/g00461/impl.isSmall -/
def impl_isSmall_h : Hints := ⟨[], []⟩
theorem impl_isSmall_of {c : Int} {r : AV} {O : List (Nat × Ob)} (h : ifB (decide ((97 : Int) ≤ c))
  (((B (decide (c ≤ (122 : Int)))) = r ∧ [] = O))
  (((B (false)) = r ∧ [] = O))) : XC Try.prog 154 [(I .u8 c)] [] r O :=
  xc_of (E := env) (hs := impl_isSmall_h) (c := (bodyOf Try.f154)) (n := 9) (res := [.tmp 2]) (rs := .c .b) (ks := []) (dir := []) envOk mixed rfl Try.func154 (by kernel_rfl) (by kernel_rfl) (by kernel_rfl) (by kernel_rfl) (to_vc (by kernel_rfl) h)

/-- loop.example/g00461/impl.isDigit -/
def impl_isDigit_h : Hints := ⟨[], []⟩
theorem impl_isDigit_of {c : Int} {r : AV} {O : List (Nat × Ob)} (h : ifB (decide ((48 : Int) ≤ c))
  (((B (decide (c ≤ (57 : Int)))) = r ∧ [] = O))
  (((B (false)) = r ∧ [] = O))) : XC Try.prog 155 [(I .u8 c)] [] r O :=
  xc_of (E := env) (hs := impl_isDigit_h) (c := (bodyOf Try.f155)) (n := 9) (res := [.tmp 2]) (rs := .c .b) (ks := []) (dir := []) envOk mixed rfl Try.func155 (by kernel_rfl) (by kernel_rfl) (by kernel_rfl) (by kernel_rfl) (to_vc (by kernel_rfl) h)

/-- slices.IndexFunc[[]loop.example/g00461/impl.Sym,loop.example/g00461/impl.Sym] -/
def slices_IndexFunc_Sym_impl_SymOf_1_h : Hints := ⟨[(2, ⟨[0, 1, 7, 8], [], [], []⟩)], []⟩
def slices_IndexFunc_Sym_impl_SymOf_1_L2 (r : AV) (O : List (Nat × Ob)) (s : List (List Da)) (s7 : Int) (s8 : Int) (o2000 : ByteArray) : Prop := CL 19 Try.prog (subC (bodyOf Try.f156) [1, 0, 1, 0, 0]) (kont Try.prog env slices_IndexFunc_Sym_impl_SymOf_1_h 19 (bodyOf Try.f156) [1, 0, 1, 0, 0] (vRet env [.tmp 4] (.c (.i .i64)) [(2000, (true))] [2000] r O) (retKE (vRet env [.tmp 4] (.c (.i .i64)) [(2000, (true))] [2000] r O))).1 (kont Try.prog env slices_IndexFunc_Sym_impl_SymOf_1_h 19 (bodyOf Try.f156) [1, 0, 1, 0, 0] (vRet env [.tmp 4] (.c (.i .i64)) [(2000, (true))] [2000] r O) (retKE (vRet env [.tmp 4] (.c (.i .i64)) [(2000, (true))] [2000] r O))).2 ⟨[(0, (L s)), (1, (.one (.clo 157 [(2000, 0)]))), (7, (Z s7)), (8, (Z s8))], [(2000, (.var [(.d (.str o2000))]))]⟩
theorem slices_IndexFunc_Sym_impl_SymOf_1_L2_of {r : AV} {O : List (Nat × Ob)} {s : List (List Da)} {s7 : Int} {s8 : Int} {o2000 : ByteArray} (h : ifB (decide (s8 < s7))
  ((∃ (m : Nat), (s8 = ((↑m : Int)) ∧ (∃ (q : ByteArray), (∃ (n : Int), (∃ (b : Bool), ((s[m]?) = some [(.str q), (.int .i64 n), (.bool b)] ∧ (∃ (b1 : Bool), (∃ (q1 : ByteArray), (XC Try.prog 157 [(.dat [(.str q), (.int .i64 n), (.bool b)]), (.one (.op 2000 0))] [(2000, (.var [(.d (.str o2000))]))] (B b1) [(2000, (.var [(.d (.str q1))]))] ∧ ifB b1
  (((Z s8) = r ∧ [(2000, (.var [(.d (.str q1))]))] = O))
  (slices_IndexFunc_Sym_impl_SymOf_1_L2 r O s s7 (IntKind.wrap IntKind.i64 (s8 + (1 : Int))) q1)))))))))))
  (((Z ((-1 : Int))) = r ∧ [(2000, (.var [(.d (.str o2000))]))] = O))) : slices_IndexFunc_Sym_impl_SymOf_1_L2 r O s s7 s8 o2000 := by
  unfold slices_IndexFunc_Sym_impl_SymOf_1_L2
  refine cl_of (E := env) (hs := slices_IndexFunc_Sym_impl_SymOf_1_h) envOk mixed ?_
  exact to_vc (by kernel_rfl) h
theorem slices_IndexFunc_Sym_impl_SymOf_1_of {s : List (List Da)} {o2000 : ByteArray} {r : AV} {O : List (Nat × Ob)} (h : slices_IndexFunc_Sym_impl_SymOf_1_L2 r O s ((↑(List.length s) : Int)) ((0 : Int)) o2000) : XC Try.prog 156 [(L s), (.one (.clo 157 [(2000, 0)]))] [(2000, (.var [(.d (.str o2000))]))] r O :=
  xc_of (E := env) (hs := slices_IndexFunc_Sym_impl_SymOf_1_h) (c := (bodyOf Try.f156)) (n := 19) (res := [.tmp 4]) (rs := .c (.i .i64)) (ks := [(2000, (true))]) (dir := [2000]) envOk mixed rfl Try.func156 (by kernel_rfl) (by kernel_rfl) (by kernel_rfl) (by kernel_rfl) (to_vc (by kernel_rfl) h)

/-- loop.example/g00461/impl.Parts$1 -/
def impl_Parts_1_h : Hints := ⟨[], []⟩
theorem impl_Parts_1_of {x : Int} {x1 : Int} {x2 : List (List Da)} {o2000 : Int} {r : AV} {O : List (Nat × Ob)} (h : ((.tup []) = r ∧ [(2000, (.var [(.d (.int .i64 (IntKind.wrap IntKind.i64 (o2000 + (1 : Int)))))]))] = O)) : XC Try.prog 148 [(.dat [(.int .i64 x), (.int .i64 x1), (.sl x2)]), (.one (.op 2000 0))] [(2000, (.var [(.d (.int .i64 o2000))]))] r O :=
  xc_of (E := env) (hs := impl_Parts_1_h) (c := (bodyOf Try.f148)) (n := 5) (res := []) (rs := .t []) (ks := [(2000, (true))]) (dir := [2000]) envOk mixed rfl Try.func148 (by kernel_rfl) (by kernel_rfl) (by kernel_rfl) (by kernel_rfl) (to_vc (by kernel_rfl) h)

/-- loop.example/g00461/impl.SymOf$1 -/
def impl_SymOf_1_h : Hints := ⟨[], []⟩
theorem impl_SymOf_1_of {x : ByteArray} {x1 : Int} {x2 : Bool} {o2000 : ByteArray} {r : AV} {O : List (Nat × Ob)} (h : ((B (decide (x = o2000))) = r ∧ [(2000, (.var [(.d (.str o2000))]))] = O)) : XC Try.prog 157 [(.dat [(.str x), (.int .i64 x1), (.bool x2)]), (.one (.op 2000 0))] [(2000, (.var [(.d (.str o2000))]))] r O :=
  xc_of (E := env) (hs := impl_SymOf_1_h) (c := (bodyOf Try.f157)) (n := 8) (res := [.tmp 3]) (rs := .c .b) (ks := [(2000, (true))]) (dir := [2000]) envOk mixed rfl Try.func157 (by kernel_rfl) (by kernel_rfl) (by kernel_rfl) (by kernel_rfl) (to_vc (by kernel_rfl) h)

end AM
end Go.Proofs.Ytbgpofimflnabaa
