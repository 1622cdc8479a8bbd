/- What functions of the program ask, printed by a program of this session's and held against the loaded text by the kernel; no conditions. -/
import Derived.Test.YtfcmmpmdofejeaaEn
set_option linter.unusedVariables false
set_option maxRecDepth 100000
namespace Go.Proofs.Ytfcmmpmdofejeaa
namespace AM
open Go
attribute [local irreducible] vC

/-- loop.example/g00461/laws.FnWords -/
def laws_FnWords_h : Hints := ⟨[(10, ⟨[3, 4, 5, 6, 8, 9], [], [], [], [], [], []⟩), (14, ⟨[3, 4, 5, 6, 8, 9], [], [], [], [], [], []⟩)], []⟩
def laws_FnWords_L10 (r : AV) (O : List (Nat × Ob)) (s3 : ByteArray) (s5 : Int) (s8 : Int) (s9 : Int) (s4 : List (List Da)) (s6 : List (List Da)) : Prop := CL 115 Try.prog (subC (bodyOf Try.f3) [1, 1, 1, 1, 1, 1, 1, 0, 1, 0, 0]) (kont Try.prog env laws_FnWords_h 115 (bodyOf Try.f3) [1, 1, 1, 1, 1, 1, 1, 0, 1, 0, 0] (vRet env [.tmp 2] (.c .b) [] [] r O) (retKE (vRet env [.tmp 2] (.c .b) [] [] r O))).1 (kont Try.prog env laws_FnWords_h 115 (bodyOf Try.f3) [1, 1, 1, 1, 1, 1, 1, 0, 1, 0, 0] (vRet env [.tmp 2] (.c .b) [] [] r O) (retKE (vRet env [.tmp 2] (.c .b) [] [] r O))).2 ⟨[(3, (T s3)), (4, (.one (.ol 1900))), (5, (Z s5)), (6, (.one (.ol 1901))), (8, (Z s8)), (9, (Z s9))], [(1900, (.tr 9 1 s4)), (1901, (.tr 9 1 s6))]⟩
def laws_FnWords_L14 (r : AV) (O : List (Nat × Ob)) (s3 : ByteArray) (s5 : Int) (s8 : Int) (s9 : Int) (s4 : List (List Da)) (s6 : List (List Da)) : Prop := CL 115 Try.prog (subC (bodyOf Try.f3) [1, 1, 1, 1, 1, 1, 1, 0, 1, 0, 0, 1, 0, 0, 1, 0, 0, 0]) (kont Try.prog env laws_FnWords_h 115 (bodyOf Try.f3) [1, 1, 1, 1, 1, 1, 1, 0, 1, 0, 0, 1, 0, 0, 1, 0, 0, 0] (vRet env [.tmp 2] (.c .b) [] [] r O) (retKE (vRet env [.tmp 2] (.c .b) [] [] r O))).1 (kont Try.prog env laws_FnWords_h 115 (bodyOf Try.f3) [1, 1, 1, 1, 1, 1, 1, 0, 1, 0, 0, 1, 0, 0, 1, 0, 0, 0] (vRet env [.tmp 2] (.c .b) [] [] r O) (retKE (vRet env [.tmp 2] (.c .b) [] [] r O))).2 ⟨[(3, (T s3)), (4, (.one (.ol 1900))), (5, (Z s5)), (6, (.one (.ol 1901))), (8, (Z s8)), (9, (Z s9))], [(1900, (.tr 9 1 s4)), (1901, (.tr 9 1 s6))]⟩
theorem laws_FnWords_L10_of {r : AV} {O : List (Nat × Ob)} {s3 : ByteArray} {s5 : Int} {s8 : Int} {s9 : Int} {s4 : List (List Da)} {s6 : List (List Da)} (h : ifB (decide (s9 < (↑(List.length s4) : Int)))
  ((∃ (m : Nat), (s9 = ((↑m : Int)) ∧ (Do (m < List.length s4) ∧ (∃ (n : Nat), ((m * (1 : Nat)) = (n * (1 : Nat)) ∧ (∃ (q : ByteArray), ((s4[n]?) = some [(.str q)] ∧ (∃ (m1 : Nat), (s9 = ((↑m1 : Int)) ∧ (Do (m1 < List.length s6) ∧ (∃ (n1 : Nat), ((m1 * (1 : Nat)) = (n1 * (1 : Nat)) ∧ (∃ (q1 : ByteArray), ((s6[n1]?) = some [(.str q1)] ∧ ifB (decide (q ≠ q1))
  (((B (false)) = r ∧ [] = O))
  ((∃ (m2 : Nat), (s9 = ((↑m2 : Int)) ∧ (Do (m2 < List.length s4) ∧ (∃ (n2 : Nat), ((m2 * (1 : Nat)) = (n2 * (1 : Nat)) ∧ (∃ (q2 : ByteArray), ((s4[n2]?) = some [(.str q2)] ∧ ifB (decide (q2 = { data := #[] }))
  (((B (false)) = r ∧ [] = O))
  (laws_FnWords_L14 r O s3 s5 s8 s9 s4 s6))))))))))))))))))))))))
  (ifB (decide (s5 < (0 : Int)))
  (((B (true)) = r ∧ [] = O))
  (((B (decide ((↑(List.length s4) : Int) = (0 : Int)))) = r ∧ [] = O)))) : laws_FnWords_L10 r O s3 s5 s8 s9 s4 s6 := by
  unfold laws_FnWords_L10
  refine cl_of (E := env) (hs := laws_FnWords_h) envOk mixed ?_
  exact to_vc (by kernel_rfl) h
theorem laws_FnWords_L14_of {r : AV} {O : List (Nat × Ob)} {s3 : ByteArray} {s5 : Int} {s8 : Int} {s9 : Int} {s4 : List (List Da)} {s6 : List (List Da)} (h : ifB (decide (s8 < (↑(ByteArray.size s3) : Int)))
  ((∃ (n : Nat), (∃ (b : UInt8), (s8 = ((↑n : Int)) ∧ ((s3[n]?) = some b ∧ ifB (decide ((↑(UInt8.toNat b) : Int) = (32 : Int)))
  (laws_FnWords_L14 r O s3 s5 (IntKind.wrap IntKind.i64 (s8 + (1 : Int))) s9 s4 s6)
  ((∃ (n1 : Nat), (∃ (b1 : UInt8), (s8 = ((↑n1 : Int)) ∧ ((s3[n1]?) = some b1 ∧ ifB (decide ((↑(UInt8.toNat b1) : Int) = (10 : Int)))
  (laws_FnWords_L14 r O s3 s5 (IntKind.wrap IntKind.i64 (s8 + (1 : Int))) s9 s4 s6)
  ((∃ (m : Nat), (s9 = ((↑m : Int)) ∧ (Do (m < List.length s4) ∧ (∃ (n2 : Nat), ((m * (1 : Nat)) = (n2 * (1 : Nat)) ∧ (∃ (q : ByteArray), ((s4[n2]?) = some [(.str q)] ∧ ifB (decide ((↑(ByteArray.size s3) : Int) < IntKind.wrap IntKind.i64 (s8 + (↑(ByteArray.size q) : Int))))
  (((B (false)) = r ∧ [] = O))
  ((∃ (m1 : Nat), (s9 = ((↑m1 : Int)) ∧ (Do (m1 < List.length s4) ∧ (∃ (n3 : Nat), ((m1 * (1 : Nat)) = (n3 * (1 : Nat)) ∧ (∃ (q1 : ByteArray), ((s4[n3]?) = some [(.str q1)] ∧ (∃ (n4 : Nat), (s8 = ((↑n4 : Int)) ∧ (∃ (n5 : Nat), ((IntKind.wrap IntKind.i64 (s8 + (↑(ByteArray.size q1) : Int))) = ((↑n5 : Int)) ∧ (Do (n4 ≤ n5 ∧ n5 ≤ ByteArray.size s3) ∧ (∃ (m2 : Nat), (s9 = ((↑m2 : Int)) ∧ (Do (m2 < List.length s4) ∧ (∃ (n6 : Nat), ((m2 * (1 : Nat)) = (n6 * (1 : Nat)) ∧ (∃ (q2 : ByteArray), ((s4[n6]?) = some [(.str q2)] ∧ ifB (decide (ByteArray.extract s3 n4 n5 ≠ q2))
  (((B (false)) = r ∧ [] = O))
  ((∃ (m3 : Nat), (s9 = ((↑m3 : Int)) ∧ (Do (m3 < List.length s4) ∧ (∃ (n7 : Nat), ((m3 * (1 : Nat)) = (n7 * (1 : Nat)) ∧ (∃ (q3 : ByteArray), ((s4[n7]?) = some [(.str q3)] ∧ laws_FnWords_L10 r O s3 s5 (IntKind.wrap IntKind.i64 (s8 + (↑(ByteArray.size q3) : Int))) (IntKind.wrap IntKind.i64 (s9 + (1 : Int))) s4 s6))))))))))))))))))))))))))))))))))))))))))))))
  ((∃ (m4 : Nat), (s9 = ((↑m4 : Int)) ∧ (Do (m4 < List.length s4) ∧ (∃ (n8 : Nat), ((m4 * (1 : Nat)) = (n8 * (1 : Nat)) ∧ (∃ (q4 : ByteArray), ((s4[n8]?) = some [(.str q4)] ∧ ifB (decide ((↑(ByteArray.size s3) : Int) < IntKind.wrap IntKind.i64 (s8 + (↑(ByteArray.size q4) : Int))))
  (((B (false)) = r ∧ [] = O))
  ((∃ (m5 : Nat), (s9 = ((↑m5 : Int)) ∧ (Do (m5 < List.length s4) ∧ (∃ (n9 : Nat), ((m5 * (1 : Nat)) = (n9 * (1 : Nat)) ∧ (∃ (q5 : ByteArray), ((s4[n9]?) = some [(.str q5)] ∧ (∃ (n10 : Nat), (s8 = ((↑n10 : Int)) ∧ (∃ (n11 : Nat), ((IntKind.wrap IntKind.i64 (s8 + (↑(ByteArray.size q5) : Int))) = ((↑n11 : Int)) ∧ (Do (n10 ≤ n11 ∧ n11 ≤ ByteArray.size s3) ∧ (∃ (m6 : Nat), (s9 = ((↑m6 : Int)) ∧ (Do (m6 < List.length s4) ∧ (∃ (n12 : Nat), ((m6 * (1 : Nat)) = (n12 * (1 : Nat)) ∧ (∃ (q6 : ByteArray), ((s4[n12]?) = some [(.str q6)] ∧ ifB (decide (ByteArray.extract s3 n10 n11 ≠ q6))
  (((B (false)) = r ∧ [] = O))
  ((∃ (m7 : Nat), (s9 = ((↑m7 : Int)) ∧ (Do (m7 < List.length s4) ∧ (∃ (n13 : Nat), ((m7 * (1 : Nat)) = (n13 * (1 : Nat)) ∧ (∃ (q7 : ByteArray), ((s4[n13]?) = some [(.str q7)] ∧ laws_FnWords_L10 r O s3 s5 (IntKind.wrap IntKind.i64 (s8 + (↑(ByteArray.size q7) : Int))) (IntKind.wrap IntKind.i64 (s9 + (1 : Int))) s4 s6))))))))))))))))))))))))))))))))))))) : laws_FnWords_L14 r O s3 s5 s8 s9 s4 s6 := by
  unfold laws_FnWords_L14
  refine cl_of (E := env) (hs := laws_FnWords_h) envOk mixed ?_
  exact to_vc (by kernel_rfl) h
theorem laws_FnWords_of {p : List (List Da)} {r : AV} {O : List (Nat × Ob)} (h : (∃ (b : Bool), (XC Try.prog 4 [(L p)] [] (B b) [] ∧ ifB b
  (((B (true)) = r ∧ [] = O))
  ((∃ (q : ByteArray), (XC Try.prog 5 [(L p)] [] (T q) [] ∧ (∃ (xs : List (List Da)), (∃ (n : Int), (XC Try.prog 6 [(T q)] [] (.tup [(.one (.ol 0)), (Z n)]) [(0, (.tr 9 1 xs))] ∧ (∃ (xs1 : List (List Da)), (∃ (n1 : Int), (XC Try.prog 7 [(T q)] [] (.tup [(.one (.ol 0)), (Z n1)]) [(0, (.tr 9 1 xs1))] ∧ ifB (decide (n ≠ n1))
  (((B (false)) = r ∧ [] = O))
  (ifB (decide ((↑(List.length xs) : Int) ≠ (↑(List.length xs1) : Int)))
  (((B (false)) = r ∧ [] = O))
  (laws_FnWords_L10 r O q n ((0 : Int)) ((0 : Int)) xs xs1)))))))))))))) : XC Try.prog 3 [.one (.d (.sl p))] [] r O :=
  xc_of (E := env) (hs := laws_FnWords_h) (c := (bodyOf Try.f3)) (n := 115) (res := [.tmp 2]) (rs := .c .b) (ks := []) (dir := []) envOk mixed rfl Try.func3 (by kernel_rfl) (by kernel_rfl) (by kernel_rfl) (by kernel_rfl) (to_vc (by kernel_rfl) h)

/-- loop.example/g00461/laws.big -/
def laws_big_h : Hints := ⟨[], []⟩
theorem laws_big_of {code : List (List Da)} {r : AV} {O : List (Nat × Ob)} (h : ((B (decide ((1048576 : Int) < (↑(List.length code) : Int)))) = r ∧ [] = O)) : XC Try.prog 4 [(L code)] [] r O :=
  xc_of (E := env) (hs := laws_big_h) (c := (bodyOf Try.f4)) (n := 6) (res := [.tmp 2]) (rs := .c .b) (ks := []) (dir := []) envOk mixed rfl Try.func4 (by kernel_rfl) (by kernel_rfl) (by kernel_rfl) (by kernel_rfl) (to_vc (by kernel_rfl) h)

/-- loop.example/g00461/spec.DrawWords -/
def spec_DrawWords_h : Hints := ⟨[], []⟩
theorem spec_DrawWords_of {code : List (List Da)} {r : AV} {O : List (Nat × Ob)} (h : (∃ (xs : List (List Da)), (∃ (n : Int), (∃ (n1 : Int), (XC Try.prog 8 [(L code)] [] (.one (.op 0 0)) [(0, (.var [(.d (.sl xs)), (.d (.int .i64 n)), (.d (.int .i64 n1))]))] ∧ (∃ (q : ByteArray), (∃ (xs1 : List (List Da)), (∃ (m : Int), (∃ (m1 : Int), (XC Try.prog 9 [(.one (.op 2000 0))] [(2000, (.var [(.d (.sl xs)), (.d (.int .i64 n)), (.d (.int .i64 n1))]))] (T q) [(2000, (.var [(.d (.sl xs1)), (.d (.int .i64 m)), (.d (.int .i64 m1))]))] ∧ (∃ (n2 : Int), (∃ (xs2 : List (List Da)), (∃ (m2 : Int), (∃ (m3 : Int), (XC Try.prog 10 [(.one (.op 2000 0)), (Z (IntKind.wrap IntKind.i64 ((↑(ByteArray.size q) : Int) + (1 : Int))))] [(2000, (.var [(.d (.sl xs1)), (.d (.int .i64 m)), (.d (.int .i64 m1))]))] (Z n2) [(2000, (.var [(.d (.sl xs2)), (.d (.int .i64 m2)), (.d (.int .i64 m3))]))] ∧ (∃ (b : Bool), (∃ (xs3 : List (List Da)), (∃ (m4 : Int), (∃ (m5 : Int), (XC Try.prog 11 [(.one (.op 2000 0)), (Z ((3 : Int)))] [(2000, (.var [(.d (.sl xs2)), (.d (.int .i64 m2)), (.d (.int .i64 m3))]))] (B b) [(2000, (.var [(.d (.sl xs3)), (.d (.int .i64 m4)), (.d (.int .i64 m5))]))] ∧ ifB b
  ((∃ (n3 : Nat), (n2 = ((↑n3 : Int)) ∧ (Do ((0 : Nat) ≤ n3 ∧ n3 ≤ ByteArray.size q) ∧ (∃ (q1 : ByteArray), (∃ (xs4 : List (List Da)), (∃ (m6 : Int), (∃ (m7 : Int), (XC Try.prog 12 [(.one (.op 2000 0)), (L [[(.str ({ data := #[(33 : UInt8)] }))], [(.str ({ data := #[(95 : UInt8)] }))], [(.str ({ data := #[(33 : UInt8), (61 : UInt8)] }))], [(.str ({ data := #[(126 : UInt8)] }))], [(.str ({ data := #[(40 : UInt8)] }))], [(.str ({ data := #[(57 : UInt8)] }))]])] [(2000, (.var [(.d (.sl xs3)), (.d (.int .i64 m4)), (.d (.int .i64 m5))]))] (T q1) [(2000, (.var [(.d (.sl xs4)), (.d (.int .i64 m6)), (.d (.int .i64 m7))]))] ∧ (Do (ByteArray.size (ByteArray.extract q (0 : Nat) n3 ++ q1) ≤ (281474976710656 : Nat)) ∧ (∃ (n4 : Nat), (n2 = ((↑n4 : Int)) ∧ (Do (n4 ≤ ByteArray.size q ∧ ByteArray.size q ≤ ByteArray.size q) ∧ (Do (ByteArray.size (ByteArray.extract q (0 : Nat) n3 ++ q1 ++ ByteArray.extract q n4 (ByteArray.size q)) ≤ (281474976710656 : Nat)) ∧ ((T (ByteArray.extract q (0 : Nat) n3 ++ q1 ++ ByteArray.extract q n4 (ByteArray.size q))) = r ∧ [] = O)))))))))))))))
  (((T q) = r ∧ [] = O)))))))))))))))))))))) : XC Try.prog 5 [(L code)] [] r O :=
  xc_of (E := env) (hs := spec_DrawWords_h) (c := (bodyOf Try.f5)) (n := 29) (res := [.tmp 2]) (rs := .c .s) (ks := []) (dir := []) envOk mixed rfl Try.func5 (by kernel_rfl) (by kernel_rfl) (by kernel_rfl) (by kernel_rfl) (to_vc (by kernel_rfl) h)

/-- loop.example/g00461/impl.Words -/
def impl_Words_h : Hints := ⟨[(5, ⟨[0, 4, 5], [], [], [], [], [], []⟩), (12, ⟨[0, 4, 5, 6], [], [], [], [], [], []⟩)], []⟩
def impl_Words_L5 (r : AV) (O : List (Nat × Ob)) (s0 : ByteArray) (s5 : Int) (s4 : List (List Da)) : Prop := CL 74 Try.prog (subC (bodyOf Try.f6) [1, 1, 1, 0, 1, 0, 0]) (kont Try.prog env impl_Words_h 74 (bodyOf Try.f6) [1, 1, 1, 0, 1, 0, 0] (vRet env [.tmp 2, .tmp 3] (.t [.o 9 1, .c (.i .i64)]) [] [] r O) (retKE (vRet env [.tmp 2, .tmp 3] (.t [.o 9 1, .c (.i .i64)]) [] [] r O))).1 (kont Try.prog env impl_Words_h 74 (bodyOf Try.f6) [1, 1, 1, 0, 1, 0, 0] (vRet env [.tmp 2, .tmp 3] (.t [.o 9 1, .c (.i .i64)]) [] [] r O) (retKE (vRet env [.tmp 2, .tmp 3] (.t [.o 9 1, .c (.i .i64)]) [] [] r O))).2 ⟨[(0, (T s0)), (4, (.one (.ol 1900))), (5, (Z s5))], [(1900, (.tr 9 1 s4))]⟩
def impl_Words_L12 (r : AV) (O : List (Nat × Ob)) (s0 : ByteArray) (s5 : Int) (s6 : Int) (s4 : List (List Da)) : Prop := CL 74 Try.prog (subC (bodyOf Try.f6) [1, 1, 1, 0, 1, 0, 0, 1, 0, 1, 0, 0, 1, 1, 1, 1, 1, 0, 0, 0]) (kont Try.prog env impl_Words_h 74 (bodyOf Try.f6) [1, 1, 1, 0, 1, 0, 0, 1, 0, 1, 0, 0, 1, 1, 1, 1, 1, 0, 0, 0] (vRet env [.tmp 2, .tmp 3] (.t [.o 9 1, .c (.i .i64)]) [] [] r O) (retKE (vRet env [.tmp 2, .tmp 3] (.t [.o 9 1, .c (.i .i64)]) [] [] r O))).1 (kont Try.prog env impl_Words_h 74 (bodyOf Try.f6) [1, 1, 1, 0, 1, 0, 0, 1, 0, 1, 0, 0, 1, 1, 1, 1, 1, 0, 0, 0] (vRet env [.tmp 2, .tmp 3] (.t [.o 9 1, .c (.i .i64)]) [] [] r O) (retKE (vRet env [.tmp 2, .tmp 3] (.t [.o 9 1, .c (.i .i64)]) [] [] r O))).2 ⟨[(0, (T s0)), (4, (.one (.ol 1900))), (5, (Z s5)), (6, (Z s6))], [(1900, (.tr 9 1 s4))]⟩
theorem impl_Words_L5_of {r : AV} {O : List (Nat × Ob)} {s0 : ByteArray} {s5 : Int} {s4 : List (List Da)} (h : ifB (decide (s5 < (↑(ByteArray.size s0) : Int)))
  ((∃ (n : Nat), (∃ (b : UInt8), (s5 = ((↑n : Int)) ∧ ((s0[n]?) = some b ∧ ifB (decide ((↑(UInt8.toNat b) : Int) = (32 : Int)))
  (impl_Words_L5 r O s0 (IntKind.wrap IntKind.i64 (s5 + (1 : Int))) s4)
  ((∃ (n1 : Nat), (∃ (b1 : UInt8), (s5 = ((↑n1 : Int)) ∧ ((s0[n1]?) = some b1 ∧ ifB (decide ((↑(UInt8.toNat b1) : Int) = (10 : Int)))
  (impl_Words_L5 r O s0 (IntKind.wrap IntKind.i64 (s5 + (1 : Int))) s4)
  ((∃ (n2 : Nat), (s5 = ((↑n2 : Int)) ∧ (Do (n2 ≤ ByteArray.size s0 ∧ ByteArray.size s0 ≤ ByteArray.size s0) ∧ (∃ (b2 : Bool), (XC Try.prog 13 [(T (ByteArray.extract s0 n2 (ByteArray.size s0))), (T ({ data := #[(33 : UInt8), (61 : UInt8)] }))] [] (B b2) [] ∧ ifB b2
  ((∃ (n3 : Nat), (s5 = ((↑n3 : Int)) ∧ (∃ (n4 : Nat), ((IntKind.wrap IntKind.i64 (s5 + (2 : Int))) = ((↑n4 : Int)) ∧ (Do (n3 ≤ n4 ∧ n4 ≤ ByteArray.size s0) ∧ (Do ((List.length s4 + List.length [[Da.str (ByteArray.extract s0 n3 n4)]]) * (16 : Nat) ≤ (140737488355328 : Nat)) ∧ impl_Words_L5 r O s0 (IntKind.wrap IntKind.i64 (s5 + (2 : Int))) (s4 ++ [[Da.str (ByteArray.extract s0 n3 n4)]]))))))))
  ((∃ (n5 : Nat), (∃ (b3 : UInt8), (s5 = ((↑n5 : Int)) ∧ ((s0[n5]?) = some b3 ∧ (∃ (b4 : Bool), (XC Try.prog 14 [(I .u8 ((↑(UInt8.toNat b3) : Int)))] [] (B b4) [] ∧ ifB b4
  (impl_Words_L12 r O s0 s5 ((1 : Int)) s4)
  ((∃ (n6 : Nat), (∃ (b5 : UInt8), (s5 = ((↑n6 : Int)) ∧ ((s0[n6]?) = some b5 ∧ (∃ (n7 : Int), (XC Try.prog 15 [(T ({ data := #[(40 : UInt8), (41 : UInt8), (44 : UInt8), (46 : UInt8), (61 : UInt8), (124 : UInt8), (126 : UInt8)] })), (I .u8 ((↑(UInt8.toNat b5) : Int)))] [] (Z n7) [] ∧ ifB (decide (n7 < (0 : Int)))
  (((.tup [(.one (.ol 0)), (Z s5)]) = r ∧ [(0, (.tr 9 1 []))] = O))
  ((∃ (n8 : Nat), (s5 = ((↑n8 : Int)) ∧ (∃ (n9 : Nat), ((IntKind.wrap IntKind.i64 (s5 + (1 : Int))) = ((↑n9 : Int)) ∧ (Do (n8 ≤ n9 ∧ n9 ≤ ByteArray.size s0) ∧ (Do ((List.length s4 + List.length [[Da.str (ByteArray.extract s0 n8 n9)]]) * (16 : Nat) ≤ (140737488355328 : Nat)) ∧ impl_Words_L5 r O s0 (IntKind.wrap IntKind.i64 (s5 + (1 : Int))) (s4 ++ [[Da.str (ByteArray.extract s0 n8 n9)]]))))))))))))))))))))))))))))))))))))))
  (((.tup [(.one (.ol 0)), (Z ((-1 : Int)))]) = r ∧ [(0, (.tr 9 1 s4))] = O))) : impl_Words_L5 r O s0 s5 s4 := by
  unfold impl_Words_L5
  refine cl_of (E := env) (hs := impl_Words_h) envOk mixed ?_
  exact to_vc (by kernel_rfl) h
theorem impl_Words_L12_of {r : AV} {O : List (Nat × Ob)} {s0 : ByteArray} {s5 : Int} {s6 : Int} {s4 : List (List Da)} (h : ifB (decide (IntKind.wrap IntKind.i64 (s5 + s6) < (↑(ByteArray.size s0) : Int)))
  ((∃ (n : Nat), (∃ (b : UInt8), ((IntKind.wrap IntKind.i64 (s5 + s6)) = ((↑n : Int)) ∧ ((s0[n]?) = some b ∧ (∃ (b1 : Bool), (XC Try.prog 14 [(I .u8 ((↑(UInt8.toNat b) : Int)))] [] (B b1) [] ∧ ifB b1
  (impl_Words_L12 r O s0 s5 (IntKind.wrap IntKind.i64 (s6 + (1 : Int))) s4)
  ((∃ (n1 : Nat), (s5 = ((↑n1 : Int)) ∧ (∃ (n2 : Nat), ((IntKind.wrap IntKind.i64 (s5 + s6)) = ((↑n2 : Int)) ∧ (Do (n1 ≤ n2 ∧ n2 ≤ ByteArray.size s0) ∧ (Do ((List.length s4 + List.length [[Da.str (ByteArray.extract s0 n1 n2)]]) * (16 : Nat) ≤ (140737488355328 : Nat)) ∧ impl_Words_L5 r O s0 (IntKind.wrap IntKind.i64 (s5 + s6)) (s4 ++ [[Da.str (ByteArray.extract s0 n1 n2)]])))))))))))))))
  ((∃ (n3 : Nat), (s5 = ((↑n3 : Int)) ∧ (∃ (n4 : Nat), ((IntKind.wrap IntKind.i64 (s5 + s6)) = ((↑n4 : Int)) ∧ (Do (n3 ≤ n4 ∧ n4 ≤ ByteArray.size s0) ∧ (Do ((List.length s4 + List.length [[Da.str (ByteArray.extract s0 n3 n4)]]) * (16 : Nat) ≤ (140737488355328 : Nat)) ∧ impl_Words_L5 r O s0 (IntKind.wrap IntKind.i64 (s5 + s6)) (s4 ++ [[Da.str (ByteArray.extract s0 n3 n4)]]))))))))) : impl_Words_L12 r O s0 s5 s6 s4 := by
  unfold impl_Words_L12
  refine cl_of (E := env) (hs := impl_Words_h) envOk mixed ?_
  exact to_vc (by kernel_rfl) h
theorem impl_Words_of {p : ByteArray} {r : AV} {O : List (Nat × Ob)} (h : ifB (decide ((3000 : Int) < (↑(ByteArray.size p) : Int)))
  (((.tup [(.one (.ol 0)), (Z ((0 : Int)))]) = r ∧ [(0, (.tr 9 1 []))] = O))
  (impl_Words_L5 r O p ((0 : Int)) [])) : XC Try.prog 6 [(T p)] [] r O :=
  xc_of (E := env) (hs := impl_Words_h) (c := (bodyOf Try.f6)) (n := 74) (res := [.tmp 2, .tmp 3]) (rs := .t [.o 9 1, .c (.i .i64)]) (ks := []) (dir := []) envOk mixed rfl Try.func6 (by kernel_rfl) (by kernel_rfl) (by kernel_rfl) (by kernel_rfl) (to_vc (by kernel_rfl) h)

/-- loop.example/g00461/spec.Words -/
def spec_Words_h : Hints := ⟨[(6, ⟨[0, 4, 5, 6], [], [], [], [], [], []⟩), (17, ⟨[0, 4, 5, 6, 8], [], [], [], [], [], []⟩)], []⟩
def spec_Words_L6 (r : AV) (O : List (Nat × Ob)) (s0 : ByteArray) (s6 : Int) (s4 : List (List Da)) (s5 : List (List Da)) : Prop := CL 117 Try.prog (subC (bodyOf Try.f7) [1, 1, 1, 1, 0, 1, 0, 0]) (kont Try.prog env spec_Words_h 117 (bodyOf Try.f7) [1, 1, 1, 1, 0, 1, 0, 0] (vRet env [.tmp 2, .tmp 3] (.t [.o 9 1, .c (.i .i64)]) [] [] r O) (retKE (vRet env [.tmp 2, .tmp 3] (.t [.o 9 1, .c (.i .i64)]) [] [] r O))).1 (kont Try.prog env spec_Words_h 117 (bodyOf Try.f7) [1, 1, 1, 1, 0, 1, 0, 0] (vRet env [.tmp 2, .tmp 3] (.t [.o 9 1, .c (.i .i64)]) [] [] r O) (retKE (vRet env [.tmp 2, .tmp 3] (.t [.o 9 1, .c (.i .i64)]) [] [] r O))).2 ⟨[(0, (T s0)), (4, (.one (.ol 1900))), (5, (.one (.ol 1901))), (6, (Z s6))], [(1900, (.tr 9 1 s4)), (1901, (.tr 9 1 s5))]⟩
def spec_Words_L17 (r : AV) (O : List (Nat × Ob)) (s0 : ByteArray) (s6 : Int) (s8 : Int) (s4 : List (List Da)) (s5 : List (List Da)) : Prop := CL 117 Try.prog (subC (bodyOf Try.f7) [1, 1, 1, 1, 0, 1, 0, 0, 1, 0, 1, 1, 1, 0, 0, 0]) (kont Try.prog env spec_Words_h 117 (bodyOf Try.f7) [1, 1, 1, 1, 0, 1, 0, 0, 1, 0, 1, 1, 1, 0, 0, 0] (vRet env [.tmp 2, .tmp 3] (.t [.o 9 1, .c (.i .i64)]) [] [] r O) (retKE (vRet env [.tmp 2, .tmp 3] (.t [.o 9 1, .c (.i .i64)]) [] [] r O))).1 (kont Try.prog env spec_Words_h 117 (bodyOf Try.f7) [1, 1, 1, 1, 0, 1, 0, 0, 1, 0, 1, 1, 1, 0, 0, 0] (vRet env [.tmp 2, .tmp 3] (.t [.o 9 1, .c (.i .i64)]) [] [] r O) (retKE (vRet env [.tmp 2, .tmp 3] (.t [.o 9 1, .c (.i .i64)]) [] [] r O))).2 ⟨[(0, (T s0)), (4, (.one (.ol 1900))), (5, (.one (.ol 1901))), (6, (Z s6)), (8, (Z s8))], [(1900, (.tr 9 1 s4)), (1901, (.tr 9 1 s5))]⟩
theorem spec_Words_L6_of {r : AV} {O : List (Nat × Ob)} {s0 : ByteArray} {s6 : Int} {s4 : List (List Da)} {s5 : List (List Da)} (h : ifB (decide (s6 < (↑(ByteArray.size s0) : Int)))
  ((∃ (n : Nat), (∃ (b : UInt8), (s6 = ((↑n : Int)) ∧ ((s0[n]?) = some b ∧ ifB (decide ((↑(UInt8.toNat b) : Int) = (32 : Int)))
  (spec_Words_L6 r O s0 (IntKind.wrap IntKind.i64 (s6 + (1 : Int))) s4 s5)
  (ifB (decide ((↑(UInt8.toNat b) : Int) = (10 : Int)))
  (spec_Words_L6 r O s0 (IntKind.wrap IntKind.i64 (s6 + (1 : Int))) s4 s5)
  (ifB (decide ((↑(UInt8.toNat b) : Int) = (40 : Int)))
  ((∃ (n1 : Nat), (s6 = ((↑n1 : Int)) ∧ (∃ (n2 : Nat), ((IntKind.wrap IntKind.i64 (s6 + (1 : Int))) = ((↑n2 : Int)) ∧ (Do (n1 ≤ n2 ∧ n2 ≤ ByteArray.size s0) ∧ (Do ((List.length s5 + List.length [[Da.str (ByteArray.extract s0 n1 n2)]]) * (16 : Nat) ≤ (140737488355328 : Nat)) ∧ spec_Words_L6 r O s0 (IntKind.wrap IntKind.i64 (s6 + (1 : Int))) s4 (s5 ++ [[Da.str (ByteArray.extract s0 n1 n2)]]))))))))
  (ifB (decide ((↑(UInt8.toNat b) : Int) = (41 : Int)))
  ((∃ (n3 : Nat), (s6 = ((↑n3 : Int)) ∧ (∃ (n4 : Nat), ((IntKind.wrap IntKind.i64 (s6 + (1 : Int))) = ((↑n4 : Int)) ∧ (Do (n3 ≤ n4 ∧ n4 ≤ ByteArray.size s0) ∧ (Do ((List.length s5 + List.length [[Da.str (ByteArray.extract s0 n3 n4)]]) * (16 : Nat) ≤ (140737488355328 : Nat)) ∧ spec_Words_L6 r O s0 (IntKind.wrap IntKind.i64 (s6 + (1 : Int))) s4 (s5 ++ [[Da.str (ByteArray.extract s0 n3 n4)]]))))))))
  (ifB (decide ((↑(UInt8.toNat b) : Int) = (44 : Int)))
  ((∃ (n5 : Nat), (s6 = ((↑n5 : Int)) ∧ (∃ (n6 : Nat), ((IntKind.wrap IntKind.i64 (s6 + (1 : Int))) = ((↑n6 : Int)) ∧ (Do (n5 ≤ n6 ∧ n6 ≤ ByteArray.size s0) ∧ (Do ((List.length s5 + List.length [[Da.str (ByteArray.extract s0 n5 n6)]]) * (16 : Nat) ≤ (140737488355328 : Nat)) ∧ spec_Words_L6 r O s0 (IntKind.wrap IntKind.i64 (s6 + (1 : Int))) s4 (s5 ++ [[Da.str (ByteArray.extract s0 n5 n6)]]))))))))
  (ifB (decide ((↑(UInt8.toNat b) : Int) = (46 : Int)))
  ((∃ (n7 : Nat), (s6 = ((↑n7 : Int)) ∧ (∃ (n8 : Nat), ((IntKind.wrap IntKind.i64 (s6 + (1 : Int))) = ((↑n8 : Int)) ∧ (Do (n7 ≤ n8 ∧ n8 ≤ ByteArray.size s0) ∧ (Do ((List.length s5 + List.length [[Da.str (ByteArray.extract s0 n7 n8)]]) * (16 : Nat) ≤ (140737488355328 : Nat)) ∧ spec_Words_L6 r O s0 (IntKind.wrap IntKind.i64 (s6 + (1 : Int))) s4 (s5 ++ [[Da.str (ByteArray.extract s0 n7 n8)]]))))))))
  (ifB (decide ((↑(UInt8.toNat b) : Int) = (61 : Int)))
  ((∃ (n9 : Nat), (s6 = ((↑n9 : Int)) ∧ (∃ (n10 : Nat), ((IntKind.wrap IntKind.i64 (s6 + (1 : Int))) = ((↑n10 : Int)) ∧ (Do (n9 ≤ n10 ∧ n10 ≤ ByteArray.size s0) ∧ (Do ((List.length s5 + List.length [[Da.str (ByteArray.extract s0 n9 n10)]]) * (16 : Nat) ≤ (140737488355328 : Nat)) ∧ spec_Words_L6 r O s0 (IntKind.wrap IntKind.i64 (s6 + (1 : Int))) s4 (s5 ++ [[Da.str (ByteArray.extract s0 n9 n10)]]))))))))
  (ifB (decide ((↑(UInt8.toNat b) : Int) = (124 : Int)))
  ((∃ (n11 : Nat), (s6 = ((↑n11 : Int)) ∧ (∃ (n12 : Nat), ((IntKind.wrap IntKind.i64 (s6 + (1 : Int))) = ((↑n12 : Int)) ∧ (Do (n11 ≤ n12 ∧ n12 ≤ ByteArray.size s0) ∧ (Do ((List.length s5 + List.length [[Da.str (ByteArray.extract s0 n11 n12)]]) * (16 : Nat) ≤ (140737488355328 : Nat)) ∧ spec_Words_L6 r O s0 (IntKind.wrap IntKind.i64 (s6 + (1 : Int))) s4 (s5 ++ [[Da.str (ByteArray.extract s0 n11 n12)]]))))))))
  (ifB (decide ((↑(UInt8.toNat b) : Int) = (126 : Int)))
  ((∃ (n13 : Nat), (s6 = ((↑n13 : Int)) ∧ (∃ (n14 : Nat), ((IntKind.wrap IntKind.i64 (s6 + (1 : Int))) = ((↑n14 : Int)) ∧ (Do (n13 ≤ n14 ∧ n14 ≤ ByteArray.size s0) ∧ (Do ((List.length s5 + List.length [[Da.str (ByteArray.extract s0 n13 n14)]]) * (16 : Nat) ≤ (140737488355328 : Nat)) ∧ spec_Words_L6 r O s0 (IntKind.wrap IntKind.i64 (s6 + (1 : Int))) s4 (s5 ++ [[Da.str (ByteArray.extract s0 n13 n14)]]))))))))
  (ifB (decide ((↑(UInt8.toNat b) : Int) = (33 : Int)))
  (ifB (decide (IntKind.wrap IntKind.i64 (s6 + (1 : Int)) < (↑(ByteArray.size s0) : Int)))
  ((∃ (n15 : Nat), (∃ (b1 : UInt8), ((IntKind.wrap IntKind.i64 (s6 + (1 : Int))) = ((↑n15 : Int)) ∧ ((s0[n15]?) = some b1 ∧ ifB (decide ((↑(UInt8.toNat b1) : Int) = (61 : Int)))
  ((Do ((List.length s5 + List.length [[Da.str { data := #[(33 : UInt8), (61 : UInt8)] }]]) * (16 : Nat) ≤ (140737488355328 : Nat)) ∧ spec_Words_L6 r O s0 (IntKind.wrap IntKind.i64 (s6 + (2 : Int))) s4 (s5 ++ [[Da.str { data := #[(33 : UInt8), (61 : UInt8)] }]])))
  (spec_Words_L17 r O s0 s6 s6 s4 s5))))))
  (spec_Words_L17 r O s0 s6 s6 s4 s5))
  (spec_Words_L17 r O s0 s6 s6 s4 s5)))))))))))))))
  (((.tup [(.one (.ol 0)), (Z ((-1 : Int)))]) = r ∧ [(0, (.tr 9 1 s5))] = O))) : spec_Words_L6 r O s0 s6 s4 s5 := by
  unfold spec_Words_L6
  refine cl_of (E := env) (hs := spec_Words_h) envOk mixed ?_
  exact to_vc (by kernel_rfl) h
theorem spec_Words_L17_of {r : AV} {O : List (Nat × Ob)} {s0 : ByteArray} {s6 : Int} {s8 : Int} {s4 : List (List Da)} {s5 : List (List Da)} (h : ifB (decide (s8 < (↑(ByteArray.size s0) : Int)))
  ((∃ (n : Nat), (∃ (b : UInt8), (s8 = ((↑n : Int)) ∧ ((s0[n]?) = some b ∧ (∃ (b1 : Bool), (XC Try.prog 16 [(I .u8 ((↑(UInt8.toNat b) : Int)))] [] (B b1) [] ∧ ifB b1
  (spec_Words_L17 r O s0 s6 (IntKind.wrap IntKind.i64 (s8 + (1 : Int))) s4 s5)
  (ifB (decide (s8 = s6))
  (((.tup [(.one (.ol 0)), (Z s6)]) = r ∧ [(0, (.tr 9 1 s4))] = O))
  ((∃ (n1 : Nat), (s6 = ((↑n1 : Int)) ∧ (∃ (n2 : Nat), (s8 = ((↑n2 : Int)) ∧ (Do (n1 ≤ n2 ∧ n2 ≤ ByteArray.size s0) ∧ (Do ((List.length s5 + List.length [[Da.str (ByteArray.extract s0 n1 n2)]]) * (16 : Nat) ≤ (140737488355328 : Nat)) ∧ spec_Words_L6 r O s0 s8 s4 (s5 ++ [[Da.str (ByteArray.extract s0 n1 n2)]]))))))))))))))))
  (ifB (decide (s8 = s6))
  (((.tup [(.one (.ol 0)), (Z s6)]) = r ∧ [(0, (.tr 9 1 s4))] = O))
  ((∃ (n3 : Nat), (s6 = ((↑n3 : Int)) ∧ (∃ (n4 : Nat), (s8 = ((↑n4 : Int)) ∧ (Do (n3 ≤ n4 ∧ n4 ≤ ByteArray.size s0) ∧ (Do ((List.length s5 + List.length [[Da.str (ByteArray.extract s0 n3 n4)]]) * (16 : Nat) ≤ (140737488355328 : Nat)) ∧ spec_Words_L6 r O s0 s8 s4 (s5 ++ [[Da.str (ByteArray.extract s0 n3 n4)]])))))))))) : spec_Words_L17 r O s0 s6 s8 s4 s5 := by
  unfold spec_Words_L17
  refine cl_of (E := env) (hs := spec_Words_h) envOk mixed ?_
  exact to_vc (by kernel_rfl) h
theorem spec_Words_of {p : ByteArray} {r : AV} {O : List (Nat × Ob)} (h : ifB (decide ((3000 : Int) < (↑(ByteArray.size p) : Int)))
  (((.tup [(.one (.ol 0)), (Z ((0 : Int)))]) = r ∧ [(0, (.tr 9 1 []))] = O))
  (spec_Words_L6 r O p ((0 : Int)) [] [])) : XC Try.prog 7 [(T p)] [] r O :=
  xc_of (E := env) (hs := spec_Words_h) (c := (bodyOf Try.f7)) (n := 117) (res := [.tmp 2, .tmp 3]) (rs := .t [.o 9 1, .c (.i .i64)]) (ks := []) (dir := []) envOk mixed rfl Try.func7 (by kernel_rfl) (by kernel_rfl) (by kernel_rfl) (by kernel_rfl) (to_vc (by kernel_rfl) h)

/-- loop.example/g00461/spec.l1New -/
def spec_l1New_h : Hints := ⟨[(3, ⟨[0, 3, 4], [], [], [], [], [], []⟩)], []⟩
def spec_l1New_L3 (r : AV) (O : List (Nat × Ob)) (code : List (List Da)) (h_ : Int) (i : Int) : Prop := CL 32 Try.prog (subC (bodyOf Try.f8) [1, 1, 0, 1, 0, 0]) (kont Try.prog env spec_l1New_h 32 (bodyOf Try.f8) [1, 1, 0, 1, 0, 0] (vRet env [.tmp 2] (.p [.k .l, .k (.i .i64), .k (.i .i64)]) [] [] r O) (retKE (vRet env [.tmp 2] (.p [.k .l, .k (.i .i64), .k (.i .i64)]) [] [] r O))).1 (kont Try.prog env spec_l1New_h 32 (bodyOf Try.f8) [1, 1, 0, 1, 0, 0] (vRet env [.tmp 2] (.p [.k .l, .k (.i .i64), .k (.i .i64)]) [] [] r O) (retKE (vRet env [.tmp 2] (.p [.k .l, .k (.i .i64), .k (.i .i64)]) [] [] r O))).2 ⟨[(0, (L code)), (3, (Z h_)), (4, (Z i))], []⟩
theorem spec_l1New_L3_of {r : AV} {O : List (Nat × Ob)} {code : List (List Da)} {h_ : Int} {i : Int} (h : ifB (decide (i < (↑(List.length code) : Int)))
  (ifB (decide (i < (4000 : Int)))
  ((∃ (m : Nat), (i = ((↑m : Int)) ∧ (∃ (n : Int), ((code[m]?) = some [(.int .u8 n)] ∧ spec_l1New_L3 r O code (bits BinOp.and IntKind.i64 (IntKind.wrap IntKind.i64 (IntKind.wrap IntKind.i64 (IntKind.wrap IntKind.i64 (h_ * (131 : Int)) + IntKind.wrap IntKind.i64 n) + (7 : Int))) (1073741823 : Int)) (IntKind.wrap IntKind.i64 (i + (1 : Int))))))))
  (((.one (.op 0 0)) = r ∧ [(0, (.var [(.d (.sl code)), (.d (.int .i64 ((0 : Int)))), (.d (.int .i64 h_))]))] = O)))
  (((.one (.op 0 0)) = r ∧ [(0, (.var [(.d (.sl code)), (.d (.int .i64 ((0 : Int)))), (.d (.int .i64 h_))]))] = O))) : spec_l1New_L3 r O code h_ i := by
  unfold spec_l1New_L3
  refine cl_of (E := env) (hs := spec_l1New_h) envOk mixed ?_
  exact to_vc (by kernel_rfl) h
theorem spec_l1New_of {code : List (List Da)} {r : AV} {O : List (Nat × Ob)} (h : spec_l1New_L3 r O code (IntKind.wrap IntKind.i64 ((27064 : Int) + (↑(List.length code) : Int))) ((0 : Int))) : XC Try.prog 8 [(L code)] [] r O :=
  xc_of (E := env) (hs := spec_l1New_h) (c := (bodyOf Try.f8)) (n := 32) (res := [.tmp 2]) (rs := .p [.k .l, .k (.i .i64), .k (.i .i64)]) (ks := []) (dir := []) envOk mixed rfl Try.func8 (by kernel_rfl) (by kernel_rfl) (by kernel_rfl) (by kernel_rfl) (to_vc (by kernel_rfl) h)

/-- loop.example/g00461/spec.l12DrawText -/
def spec_l12DrawText_h : Hints := ⟨[], []⟩
theorem spec_l12DrawText_of {o2000 : List (List Da)} {o20001 : Int} {o20002 : Int} {r : AV} {O : List (Nat × Ob)} (h : (∃ (xs : List (List Da)), (XC Try.prog 17 [] [] (L xs) [] ∧ (∃ (q : ByteArray), (∃ (xs1 : List (List Da)), (∃ (m : Int), (∃ (m1 : Int), (XC Try.prog 12 [(.one (.op 2000 0)), (L xs)] [(2000, (.var [(.d (.sl o2000)), (.d (.int .i64 o20001)), (.d (.int .i64 o20002))]))] (T q) [(2000, (.var [(.d (.sl xs1)), (.d (.int .i64 m)), (.d (.int .i64 m1))]))] ∧ ((T q) = r ∧ [(2000, (.var [(.d (.sl xs1)), (.d (.int .i64 m)), (.d (.int .i64 m1))]))] = O))))))))) : XC Try.prog 9 [(.one (.op 2000 0))] [(2000, (.var [(.d (.sl o2000)), (.d (.int .i64 o20001)), (.d (.int .i64 o20002))]))] r O :=
  xc_of (E := env) (hs := spec_l12DrawText_h) (c := (bodyOf Try.f9)) (n := 6) (res := [.tmp 2]) (rs := .c .s) (ks := [(2000, (true))]) (dir := [2000]) envOk mixed rfl Try.func9 (by kernel_rfl) (by kernel_rfl) (by kernel_rfl) (by kernel_rfl) (to_vc (by kernel_rfl) h)

/-- loop.example/g00461/spec.l1Below -/
def spec_l1Below_h : Hints := ⟨[], []⟩
theorem spec_l1Below_of {n : Int} {o2000 : List (List Da)} {o20001 : Int} {o20002 : Int} {r : AV} {O : List (Nat × Ob)} (h : ifB (decide (n ≤ (0 : Int)))
  (((Z ((0 : Int))) = r ∧ [(2000, (.var [(.d (.sl o2000)), (.d (.int .i64 o20001)), (.d (.int .i64 o20002))]))] = O))
  (ifB (decide (n ≤ (256 : Int)))
  ((∃ (n1 : Int), (∃ (xs : List (List Da)), (∃ (m : Int), (∃ (m1 : Int), (XC Try.prog 18 [(.one (.op 2000 0))] [(2000, (.var [(.d (.sl o2000)), (.d (.int .i64 o20001)), (.d (.int .i64 o20002))]))] (Z n1) [(2000, (.var [(.d (.sl xs)), (.d (.int .i64 m)), (.d (.int .i64 m1))]))] ∧ (Do (n ≠ (0 : Int)) ∧ ((Z (Int.tmod n1 n)) = r ∧ [(2000, (.var [(.d (.sl xs)), (.d (.int .i64 m)), (.d (.int .i64 m1))]))] = O))))))))
  ((∃ (n2 : Int), (∃ (xs1 : List (List Da)), (∃ (m2 : Int), (∃ (m3 : Int), (XC Try.prog 18 [(.one (.op 2000 0))] [(2000, (.var [(.d (.sl o2000)), (.d (.int .i64 o20001)), (.d (.int .i64 o20002))]))] (Z n2) [(2000, (.var [(.d (.sl xs1)), (.d (.int .i64 m2)), (.d (.int .i64 m3))]))] ∧ (∃ (n3 : Int), (∃ (xs2 : List (List Da)), (∃ (m4 : Int), (∃ (m5 : Int), (XC Try.prog 18 [(.one (.op 2000 0))] [(2000, (.var [(.d (.sl xs1)), (.d (.int .i64 m2)), (.d (.int .i64 m3))]))] (Z n3) [(2000, (.var [(.d (.sl xs2)), (.d (.int .i64 m4)), (.d (.int .i64 m5))]))] ∧ (∃ (n4 : Int), (∃ (xs3 : List (List Da)), (∃ (m6 : Int), (∃ (m7 : Int), (XC Try.prog 18 [(.one (.op 2000 0))] [(2000, (.var [(.d (.sl xs2)), (.d (.int .i64 m4)), (.d (.int .i64 m5))]))] (Z n4) [(2000, (.var [(.d (.sl xs3)), (.d (.int .i64 m6)), (.d (.int .i64 m7))]))] ∧ (∃ (n5 : Int), (∃ (xs4 : List (List Da)), (∃ (m8 : Int), (∃ (m9 : Int), (XC Try.prog 18 [(.one (.op 2000 0))] [(2000, (.var [(.d (.sl xs3)), (.d (.int .i64 m6)), (.d (.int .i64 m7))]))] (Z n5) [(2000, (.var [(.d (.sl xs4)), (.d (.int .i64 m8)), (.d (.int .i64 m9))]))] ∧ (Do (n ≠ (0 : Int)) ∧ ((Z (Int.tmod (IntKind.wrap IntKind.i64 (IntKind.wrap IntKind.i64 (IntKind.wrap IntKind.i64 (IntKind.wrap IntKind.i64 (n2 * (16777216 : Int)) + IntKind.wrap IntKind.i64 (n3 * (65536 : Int))) + IntKind.wrap IntKind.i64 (n4 * (256 : Int))) + n5)) n)) = r ∧ [(2000, (.var [(.d (.sl xs4)), (.d (.int .i64 m8)), (.d (.int .i64 m9))]))] = O))))))))))))))))))))))))) : XC Try.prog 10 [(.one (.op 2000 0)), (Z n)] [(2000, (.var [(.d (.sl o2000)), (.d (.int .i64 o20001)), (.d (.int .i64 o20002))]))] r O :=
  xc_of (E := env) (hs := spec_l1Below_h) (c := (bodyOf Try.f10)) (n := 37) (res := [.tmp 4]) (rs := .c (.i .i64)) (ks := [(2000, (true))]) (dir := [2000]) envOk mixed rfl Try.func10 (by kernel_rfl) (by kernel_rfl) (by kernel_rfl) (by kernel_rfl) (to_vc (by kernel_rfl) h)

/-- loop.example/g00461/spec.l1Once -/
def spec_l1Once_h : Hints := ⟨[], []⟩
theorem spec_l1Once_of {n : Int} {o2000 : List (List Da)} {o20001 : Int} {o20002 : Int} {r : AV} {O : List (Nat × Ob)} (h : (∃ (n1 : Int), (∃ (xs : List (List Da)), (∃ (m : Int), (∃ (m1 : Int), (XC Try.prog 10 [(.one (.op 2000 0)), (Z n)] [(2000, (.var [(.d (.sl o2000)), (.d (.int .i64 o20001)), (.d (.int .i64 o20002))]))] (Z n1) [(2000, (.var [(.d (.sl xs)), (.d (.int .i64 m)), (.d (.int .i64 m1))]))] ∧ ((B (decide (n1 = (0 : Int)))) = r ∧ [(2000, (.var [(.d (.sl xs)), (.d (.int .i64 m)), (.d (.int .i64 m1))]))] = O))))))) : XC Try.prog 11 [(.one (.op 2000 0)), (Z n)] [(2000, (.var [(.d (.sl o2000)), (.d (.int .i64 o20001)), (.d (.int .i64 o20002))]))] r O :=
  xc_of (E := env) (hs := spec_l1Once_h) (c := (bodyOf Try.f11)) (n := 9) (res := [.tmp 4]) (rs := .c .b) (ks := [(2000, (true))]) (dir := [2000]) envOk mixed rfl Try.func11 (by kernel_rfl) (by kernel_rfl) (by kernel_rfl) (by kernel_rfl) (to_vc (by kernel_rfl) h)

/-- loop.example/g00461/spec.l1Pick -/
def spec_l1Pick_h : Hints := ⟨[], []⟩
theorem spec_l1Pick_of {list : List (List Da)} {o2000 : List (List Da)} {o20001 : Int} {o20002 : Int} {r : AV} {O : List (Nat × Ob)} (h : (∃ (n : Int), (∃ (xs : List (List Da)), (∃ (m : Int), (∃ (m1 : Int), (XC Try.prog 10 [(.one (.op 2000 0)), (Z ((↑(List.length list) : Int)))] [(2000, (.var [(.d (.sl o2000)), (.d (.int .i64 o20001)), (.d (.int .i64 o20002))]))] (Z n) [(2000, (.var [(.d (.sl xs)), (.d (.int .i64 m)), (.d (.int .i64 m1))]))] ∧ (∃ (m2 : Nat), (n = ((↑m2 : Int)) ∧ (∃ (q : ByteArray), ((list[m2]?) = some [(.str q)] ∧ ((T q) = r ∧ [(2000, (.var [(.d (.sl xs)), (.d (.int .i64 m)), (.d (.int .i64 m1))]))] = O))))))))))) : XC Try.prog 12 [(.one (.op 2000 0)), (L list)] [(2000, (.var [(.d (.sl o2000)), (.d (.int .i64 o20001)), (.d (.int .i64 o20002))]))] r O :=
  xc_of (E := env) (hs := spec_l1Pick_h) (c := (bodyOf Try.f12)) (n := 12) (res := [.tmp 4]) (rs := .c .s) (ks := [(2000, (true))]) (dir := [2000]) envOk mixed rfl Try.func12 (by kernel_rfl) (by kernel_rfl) (by kernel_rfl) (by kernel_rfl) (to_vc (by kernel_rfl) h)

/-- strings.HasPrefix -/
def strings_HasPrefix_h : Hints := ⟨[], []⟩
theorem strings_HasPrefix_of {s : ByteArray} {prefix_ : ByteArray} {r : AV} {O : List (Nat × Ob)} (h : (∃ (b : Bool), (XC Try.prog 19 [(T s), (T prefix_)] [] (B b) [] ∧ ((B b) = r ∧ [] = O)))) : XC Try.prog 13 [(T s), (T prefix_)] [] r O :=
  xc_of (E := env) (hs := strings_HasPrefix_h) (c := (bodyOf Try.f13)) (n := 8) (res := [.tmp 4]) (rs := .c .b) (ks := []) (dir := []) envOk mixed rfl Try.func13 (by kernel_rfl) (by kernel_rfl) (by kernel_rfl) (by kernel_rfl) (to_vc (by kernel_rfl) h)

/-- loop.example/g00461/impl.isWordByte -/
def impl_isWordByte_h : Hints := ⟨[], []⟩
theorem impl_isWordByte_of {c : Int} {r : AV} {O : List (Nat × Ob)} (h : (∃ (b : Bool), (XC Try.prog 20 [(I .u8 c)] [] (B b) [] ∧ ifB b
  (((B (true)) = r ∧ [] = O))
  ((∃ (b1 : Bool), (XC Try.prog 21 [(I .u8 c)] [] (B b1) [] ∧ ifB b1
  (((B (true)) = r ∧ [] = O))
  (ifB (decide ((65 : Int) ≤ c))
  (((B (decide (c ≤ (90 : Int)))) = r ∧ [] = O))
  (((B (false)) = r ∧ [] = O))))))))) : XC Try.prog 14 [(I .u8 c)] [] r O :=
  xc_of (E := env) (hs := impl_isWordByte_h) (c := (bodyOf Try.f14)) (n := 17) (res := [.tmp 2]) (rs := .c .b) (ks := []) (dir := []) envOk mixed rfl Try.func14 (by kernel_rfl) (by kernel_rfl) (by kernel_rfl) (by kernel_rfl) (to_vc (by kernel_rfl) h)

/-- strings.IndexByte -/
def strings_IndexByte_h : Hints := ⟨[], []⟩
theorem strings_IndexByte_of {s : ByteArray} {c : Int} {r : AV} {O : List (Nat × Ob)} (h : (∃ (n : Int), (XC Try.prog 22 [(T s), (I .u8 c)] [] (Z n) [] ∧ ((Z n) = r ∧ [] = O)))) : XC Try.prog 15 [(T s), (I .u8 c)] [] r O :=
  xc_of (E := env) (hs := strings_IndexByte_h) (c := (bodyOf Try.f15)) (n := 8) (res := [.tmp 4]) (rs := .c (.i .i64)) (ks := []) (dir := []) envOk mixed rfl Try.func15 (by kernel_rfl) (by kernel_rfl) (by kernel_rfl) (by kernel_rfl) (to_vc (by kernel_rfl) h)

/-- loop.example/g00461/spec.l12Letter -/
def spec_l12Letter_h : Hints := ⟨[], []⟩
theorem spec_l12Letter_of {b : Int} {r : AV} {O : List (Nat × Ob)} (h : ifB (decide ((97 : Int) ≤ b))
  (ifB (decide (b ≤ (122 : Int)))
  (((B (true)) = r ∧ [] = O))
  (ifB (decide ((65 : Int) ≤ b))
  (ifB (decide (b ≤ (90 : Int)))
  (((B (true)) = r ∧ [] = O))
  (ifB (decide ((48 : Int) ≤ b))
  (((B (decide (b ≤ (57 : Int)))) = r ∧ [] = O))
  (((B (false)) = r ∧ [] = O))))
  (ifB (decide ((48 : Int) ≤ b))
  (((B (decide (b ≤ (57 : Int)))) = r ∧ [] = O))
  (((B (false)) = r ∧ [] = O)))))
  (ifB (decide ((65 : Int) ≤ b))
  (ifB (decide (b ≤ (90 : Int)))
  (((B (true)) = r ∧ [] = O))
  (ifB (decide ((48 : Int) ≤ b))
  (((B (decide (b ≤ (57 : Int)))) = r ∧ [] = O))
  (((B (false)) = r ∧ [] = O))))
  (ifB (decide ((48 : Int) ≤ b))
  (((B (decide (b ≤ (57 : Int)))) = r ∧ [] = O))
  (((B (false)) = r ∧ [] = O))))) : XC Try.prog 16 [(I .u8 b)] [] r O :=
  xc_of (E := env) (hs := spec_l12Letter_h) (c := (bodyOf Try.f16)) (n := 25) (res := [.tmp 2]) (rs := .c .b) (ks := []) (dir := []) envOk mixed rfl Try.func16 (by kernel_rfl) (by kernel_rfl) (by kernel_rfl) (by kernel_rfl) (to_vc (by kernel_rfl) h)

/-- loop.example/g00461/spec.l12Problems -/
def spec_l12Problems_h : Hints := ⟨[], []⟩
theorem spec_l12Problems_of {r : AV} {O : List (Nat × Ob)} (h : ((L [[(.str ({ data := #[(97 : UInt8), (99 : UInt8), (32 : UInt8), (102 : UInt8), (46 : UInt8), (32 : UInt8), (102 : UInt8), (40 : UInt8), (88 : UInt8), (48 : UInt8), (44 : UInt8), (122 : UInt8), (101 : UInt8), (114 : UInt8), (111 : UInt8), (41 : UInt8), (32 : UInt8), (61 : UInt8), (32 : UInt8), (88 : UInt8), (48 : UInt8), (46 : UInt8), (32 : UInt8), (102 : UInt8), (40 : UInt8), (88 : UInt8), (48 : UInt8), (44 : UInt8), (105 : UInt8), (110 : UInt8), (118 : UInt8), (40 : UInt8), (88 : UInt8), (48 : UInt8), (41 : UInt8), (41 : UInt8), (32 : UInt8), (61 : UInt8), (32 : UInt8), (122 : UInt8), (101 : UInt8), (114 : UInt8), (111 : UInt8), (46 : UInt8), (32 : UInt8), (102 : UInt8), (40 : UInt8), (97 : UInt8), (44 : UInt8), (98 : UInt8), (41 : UInt8), (32 : UInt8), (33 : UInt8), (61 : UInt8), (32 : UInt8), (102 : UInt8), (40 : UInt8), (98 : UInt8), (44 : UInt8), (97 : UInt8), (41 : UInt8), (46 : UInt8)] }))], [(.str ({ data := #[(97 : UInt8), (99 : UInt8), (32 : UInt8), (102 : UInt8), (46 : UInt8), (32 : UInt8), (102 : UInt8), (40 : UInt8), (97 : UInt8), (44 : UInt8), (97 : UInt8), (41 : UInt8), (32 : UInt8), (61 : UInt8), (32 : UInt8), (98 : UInt8), (46 : UInt8), (32 : UInt8), (102 : UInt8), (40 : UInt8), (98 : UInt8), (44 : UInt8), (97 : UInt8), (41 : UInt8), (32 : UInt8), (61 : UInt8), (32 : UInt8), (99 : UInt8), (46 : UInt8), (32 : UInt8), (102 : UInt8), (40 : UInt8), (97 : UInt8), (44 : UInt8), (102 : UInt8), (40 : UInt8), (97 : UInt8), (44 : UInt8), (97 : UInt8), (41 : UInt8), (41 : UInt8), (32 : UInt8), (33 : UInt8), (61 : UInt8), (32 : UInt8), (99 : UInt8), (46 : UInt8)] }))], [(.str ({ data := #[(112 : UInt8), (40 : UInt8), (97 : UInt8), (41 : UInt8), (46 : UInt8), (32 : UInt8), (126 : UInt8), (32 : UInt8), (112 : UInt8), (40 : UInt8), (88 : UInt8), (48 : UInt8), (41 : UInt8), (32 : UInt8), (124 : UInt8), (32 : UInt8), (113 : UInt8), (40 : UInt8), (88 : UInt8), (48 : UInt8), (41 : UInt8), (46 : UInt8), (32 : UInt8), (126 : UInt8), (32 : UInt8), (113 : UInt8), (40 : UInt8), (97 : UInt8), (41 : UInt8), (46 : UInt8)] }))], [(.str ({ data := #[(97 : UInt8), (32 : UInt8), (61 : UInt8), (32 : UInt8), (98 : UInt8), (32 : UInt8), (124 : UInt8), (32 : UInt8), (97 : UInt8), (32 : UInt8), (61 : UInt8), (32 : UInt8), (99 : UInt8), (46 : UInt8), (32 : UInt8), (97 : UInt8), (32 : UInt8), (33 : UInt8), (61 : UInt8), (32 : UInt8), (98 : UInt8), (46 : UInt8), (32 : UInt8), (97 : UInt8), (32 : UInt8), (33 : UInt8), (61 : UInt8), (32 : UInt8), (99 : UInt8), (46 : UInt8)] }))], [(.str ({ data := #[(97 : UInt8), (99 : UInt8), (32 : UInt8), (102 : UInt8), (32 : UInt8), (107 : UInt8), (46 : UInt8), (32 : UInt8), (102 : UInt8), (40 : UInt8), (97 : UInt8), (44 : UInt8), (98 : UInt8), (41 : UInt8), (32 : UInt8), (61 : UInt8), (32 : UInt8), (99 : UInt8), (46 : UInt8), (32 : UInt8), (107 : UInt8), (40 : UInt8), (99 : UInt8), (44 : UInt8), (97 : UInt8), (41 : UInt8), (32 : UInt8), (61 : UInt8), (32 : UInt8), (98 : UInt8), (46 : UInt8), (32 : UInt8), (107 : UInt8), (40 : UInt8), (102 : UInt8), (40 : UInt8), (98 : UInt8), (44 : UInt8), (97 : UInt8), (41 : UInt8), (44 : UInt8), (97 : UInt8), (41 : UInt8), (32 : UInt8), (33 : UInt8), (61 : UInt8), (32 : UInt8), (98 : UInt8), (46 : UInt8)] }))], [(.str ({ data := #[(103 : UInt8), (40 : UInt8), (103 : UInt8), (40 : UInt8), (88 : UInt8), (48 : UInt8), (41 : UInt8), (41 : UInt8), (32 : UInt8), (61 : UInt8), (32 : UInt8), (88 : UInt8), (48 : UInt8), (46 : UInt8), (32 : UInt8), (103 : UInt8), (40 : UInt8), (97 : UInt8), (41 : UInt8), (32 : UInt8), (61 : UInt8), (32 : UInt8), (98 : UInt8), (46 : UInt8), (32 : UInt8), (103 : UInt8), (40 : UInt8), (98 : UInt8), (41 : UInt8), (32 : UInt8), (33 : UInt8), (61 : UInt8), (32 : UInt8), (97 : UInt8), (46 : UInt8)] }))], [(.str ({ data := #[(97 : UInt8), (99 : UInt8), (32 : UInt8), (102 : UInt8), (46 : UInt8), (32 : UInt8), (102 : UInt8), (40 : UInt8), (88 : UInt8), (48 : UInt8), (44 : UInt8), (88 : UInt8), (49 : UInt8), (41 : UInt8), (32 : UInt8), (61 : UInt8), (32 : UInt8), (88 : UInt8), (48 : UInt8), (46 : UInt8), (32 : UInt8), (97 : UInt8), (32 : UInt8), (33 : UInt8), (61 : UInt8), (32 : UInt8), (98 : UInt8), (46 : UInt8)] }))], [(.str ({ data := #[(104 : UInt8), (40 : UInt8), (88 : UInt8), (48 : UInt8), (44 : UInt8), (88 : UInt8), (48 : UInt8), (41 : UInt8), (32 : UInt8), (61 : UInt8), (32 : UInt8), (97 : UInt8), (46 : UInt8), (32 : UInt8), (104 : UInt8), (40 : UInt8), (98 : UInt8), (44 : UInt8), (99 : UInt8), (41 : UInt8), (32 : UInt8), (33 : UInt8), (61 : UInt8), (32 : UInt8), (97 : UInt8), (32 : UInt8), (124 : UInt8), (32 : UInt8), (98 : UInt8), (32 : UInt8), (61 : UInt8), (32 : UInt8), (99 : UInt8), (46 : UInt8), (32 : UInt8), (98 : UInt8), (32 : UInt8), (33 : UInt8), (61 : UInt8), (32 : UInt8), (99 : UInt8), (46 : UInt8)] }))], [(.str ({ data := #[(112 : UInt8), (40 : UInt8), (88 : UInt8), (48 : UInt8), (41 : UInt8), (32 : UInt8), (124 : UInt8), (32 : UInt8), (112 : UInt8), (40 : UInt8), (103 : UInt8), (40 : UInt8), (88 : UInt8), (48 : UInt8), (41 : UInt8), (41 : UInt8), (46 : UInt8), (32 : UInt8), (126 : UInt8), (32 : UInt8), (112 : UInt8), (40 : UInt8), (88 : UInt8), (48 : UInt8), (41 : UInt8), (46 : UInt8)] }))], [(.str ({ data := #[(97 : UInt8), (32 : UInt8), (61 : UInt8), (32 : UInt8), (97 : UInt8), (46 : UInt8)] }))]]) = r ∧ [] = O)) : XC Try.prog 17 [] [] r O :=
  xc_of (E := env) (hs := spec_l12Problems_h) (c := (bodyOf Try.f17)) (n := 2) (res := [.tmp 0]) (rs := .c .l) (ks := []) (dir := []) envOk mixed rfl Try.func17 (by kernel_rfl) (by kernel_rfl) (by kernel_rfl) (by kernel_rfl) (to_vc (by kernel_rfl) h)

/-- loop.example/g00461/spec.l1Byte -/
def spec_l1Byte_h : Hints := ⟨[], []⟩
theorem spec_l1Byte_of {o2000 : List (List Da)} {o20001 : Int} {o20002 : Int} {r : AV} {O : List (Nat × Ob)} (h : (Do ((0 : Int) ≤ (33 : Int) ∧ (33 : Int) ≤ (↑(IntKind.bits IntKind.i64) : Int)) ∧ (Do ((0 : Int) ≤ (45 : Int) ∧ (45 : Int) ≤ (↑(IntKind.bits IntKind.i64) : Int)) ∧ ifB (decide (o20001 < (↑(List.length o2000) : Int)))
  ((∃ (m : Nat), (o20001 = ((↑m : Int)) ∧ (∃ (n : Int), ((o2000[m]?) = some [(.int .u8 n)] ∧ ((Z (bits BinOp.and IntKind.i64 (IntKind.wrap IntKind.i64 (bits BinOp.and IntKind.i64 (bits BinOp.xor IntKind.i64 (IntKind.wrap IntKind.i64 (IntKind.wrap IntKind.i64 (o20002 * (6364136223846793005 : Int)) + (1442695040888963407 : Int)) / (2 : Int) ^ Int.toNat (33 : Int)) (IntKind.wrap IntKind.i64 (IntKind.wrap IntKind.i64 (o20002 * (6364136223846793005 : Int)) + (1442695040888963407 : Int)) / (2 : Int) ^ Int.toNat (45 : Int))) (255 : Int) + IntKind.wrap IntKind.i64 n)) (255 : Int))) = r ∧ [(2000, (.var [(.d (.sl o2000)), (.d (.int .i64 (IntKind.wrap IntKind.i64 (o20001 + (1 : Int))))), (.d (.int .i64 (IntKind.wrap IntKind.i64 (IntKind.wrap IntKind.i64 (o20002 * (6364136223846793005 : Int)) + (1442695040888963407 : Int)))))]))] = O))))))
  (((Z (bits BinOp.and IntKind.i64 (bits BinOp.xor IntKind.i64 (IntKind.wrap IntKind.i64 (IntKind.wrap IntKind.i64 (o20002 * (6364136223846793005 : Int)) + (1442695040888963407 : Int)) / (2 : Int) ^ Int.toNat (33 : Int)) (IntKind.wrap IntKind.i64 (IntKind.wrap IntKind.i64 (o20002 * (6364136223846793005 : Int)) + (1442695040888963407 : Int)) / (2 : Int) ^ Int.toNat (45 : Int))) (255 : Int))) = r ∧ [(2000, (.var [(.d (.sl o2000)), (.d (.int .i64 o20001)), (.d (.int .i64 (IntKind.wrap IntKind.i64 (IntKind.wrap IntKind.i64 (o20002 * (6364136223846793005 : Int)) + (1442695040888963407 : Int)))))]))] = O))))) : XC Try.prog 18 [(.one (.op 2000 0))] [(2000, (.var [(.d (.sl o2000)), (.d (.int .i64 o20001)), (.d (.int .i64 o20002))]))] r O :=
  xc_of (E := env) (hs := spec_l1Byte_h) (c := (bodyOf Try.f18)) (n := 58) (res := [.tmp 2]) (rs := .c (.i .i64)) (ks := [(2000, (true))]) (dir := [2000]) envOk mixed rfl Try.func18 (by kernel_rfl) (by kernel_rfl) (by kernel_rfl) (by kernel_rfl) (to_vc (by kernel_rfl) h)

/-- internal/stringslite.HasPrefix -/
def stringslite_HasPrefix_h : Hints := ⟨[], []⟩
theorem stringslite_HasPrefix_of {s : ByteArray} {prefix_ : ByteArray} {r : AV} {O : List (Nat × Ob)} (h : ifB (decide ((↑(ByteArray.size prefix_) : Int) ≤ (↑(ByteArray.size s) : Int)))
  ((∃ (n : Nat), (((↑(ByteArray.size prefix_) : Int)) = ((↑n : Int)) ∧ (Do ((0 : Nat) ≤ n ∧ n ≤ ByteArray.size s) ∧ ((B (decide (ByteArray.extract s (0 : Nat) n = prefix_))) = r ∧ [] = O)))))
  (((B (false)) = r ∧ [] = O))) : XC Try.prog 19 [(T s), (T prefix_)] [] r O :=
  xc_of (E := env) (hs := stringslite_HasPrefix_h) (c := (bodyOf Try.f19)) (n := 18) (res := [.tmp 4]) (rs := .c .b) (ks := []) (dir := []) envOk mixed rfl Try.func19 (by kernel_rfl) (by kernel_rfl) (by kernel_rfl) (by kernel_rfl) (to_vc (by kernel_rfl) h)

/-- loop.example/g00461/impl.isSmall -/
def impl_isSmall_h : Hints := ⟨[], []⟩
theorem impl_isSmall_of {c : Int} {r : AV} {O : List (Nat × Ob)} (h : ifB (decide ((97 : Int) ≤ c))
  (((B (decide (c ≤ (122 : Int)))) = r ∧ [] = O))
  (((B (false)) = r ∧ [] = O))) : XC Try.prog 20 [(I .u8 c)] [] r O :=
  xc_of (E := env) (hs := impl_isSmall_h) (c := (bodyOf Try.f20)) (n := 9) (res := [.tmp 2]) (rs := .c .b) (ks := []) (dir := []) envOk mixed rfl Try.func20 (by kernel_rfl) (by kernel_rfl) (by kernel_rfl) (by kernel_rfl) (to_vc (by kernel_rfl) h)

/-- loop.example/g00461/impl.isDigit -/
def impl_isDigit_h : Hints := ⟨[], []⟩
theorem impl_isDigit_of {c : Int} {r : AV} {O : List (Nat × Ob)} (h : ifB (decide ((48 : Int) ≤ c))
  (((B (decide (c ≤ (57 : Int)))) = r ∧ [] = O))
  (((B (false)) = r ∧ [] = O))) : XC Try.prog 21 [(I .u8 c)] [] r O :=
  xc_of (E := env) (hs := impl_isDigit_h) (c := (bodyOf Try.f21)) (n := 9) (res := [.tmp 2]) (rs := .c .b) (ks := []) (dir := []) envOk mixed rfl Try.func21 (by kernel_rfl) (by kernel_rfl) (by kernel_rfl) (by kernel_rfl) (to_vc (by kernel_rfl) h)

/-- internal/stringslite.IndexByte -/
def stringslite_IndexByte_h : Hints := ⟨[], []⟩
theorem stringslite_IndexByte_of {s : ByteArray} {c : Int} {r : AV} {O : List (Nat × Ob)} (h : ((Z (firstIdx s (Nat.toUInt8 (Int.toNat c)))) = r ∧ [] = O)) : XC Try.prog 22 [(T s), (I .u8 c)] [] r O :=
  xc_of (E := env) (hs := stringslite_IndexByte_h) (c := (bodyOf Try.f22)) (n := 8) (res := [.tmp 4]) (rs := .c (.i .i64)) (ks := []) (dir := []) envOk mixed rfl Try.func22 (by kernel_rfl) (by kernel_rfl) (by kernel_rfl) (by kernel_rfl) (to_vc (by kernel_rfl) h)

end AM
end Go.Proofs.Ytfcmmpmdofejeaa
