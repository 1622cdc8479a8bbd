/- What functions of the program ask, printed by a program of this session's and held against the loaded text by the kernel; no conditions. -/
import Derived.Test.YthbbibeilmfheaaEn
set_option linter.unusedVariables false
set_option maxRecDepth 100000
namespace Go.Proofs.Ythbbibeilmfheaa
namespace AM
open Go
attribute [local irreducible] vC

/-- loop.example/g00461/laws.FnExactWords -/
def laws_FnExactWords_h : Hints := ⟨[], []⟩
theorem laws_FnExactWords_of {p : ByteArray} {r : AV} {O : List (Nat × Ob)} (h : ifB (decide ((1048576 : Int) < (↑(ByteArray.size p) : Int)))
  (((B (true)) = r ∧ [] = O))
  ((∃ (xs : List (List Da)), (∃ (n : Int), (XC Try.prog 42 [(T p)] [] (.tup [(.one (.ol 0)), (Z n)]) [(0, (.tr 9 1 xs))] ∧ (∃ (xs1 : List (List Da)), (∃ (n1 : Int), (XC Try.prog 43 [(T p)] [] (.tup [(.one (.ol 0)), (Z n1)]) [(0, (.tr 9 1 xs1))] ∧ (∃ (b : Bool), (XC Try.prog 44 [(L xs1), (L xs)] [] (B b) [] ∧ ifB (!b)
  (((B (false)) = r ∧ [] = O))
  (ifB (decide (n1 ≠ n))
  (((B (false)) = r ∧ [] = O))
  ((∃ (n2 : Int), (∃ (xs2 : List (List Da)), (XC Try.prog 45 [(.one (.ol 2000)), (Z ((1 : Int)))] [(2000, (.mt 9 1 xs1))] (Z n2) [(2000, (.mt 9 1 xs2))] ∧ (∃ (n3 : Int), (XC Try.prog 46 [(L xs2), (Z ((1 : Int)))] [] (Z n3) [] ∧ ifB (decide (n3 < (0 : Int)))
  (((B (false)) = r ∧ [] = O))
  (ifB (decide (n3 ≠ n2))
  (((B (false)) = r ∧ [] = O))
  ((∃ (xs3 : List (List Da)), (∃ (n4 : Int), (XC Try.prog 43 [(T p)] [] (.tup [(.one (.ol 0)), (Z n4)]) [(0, (.tr 9 1 xs3))] ∧ (∃ (b1 : Bool), (XC Try.prog 44 [(L xs3), (L xs)] [] (B b1) [] ∧ ifB (!b1)
  (((B (false)) = r ∧ [] = O))
  (ifB (decide (n4 ≠ n))
  (((B (false)) = r ∧ [] = O))
  ((∃ (n5 : Int), (XC Try.prog 46 [(L xs2), (Z ((1 : Int)))] [] (Z n5) [] ∧ ifB (decide (n5 < (0 : Int)))
  (((B (false)) = r ∧ [] = O))
  (ifB (decide (n5 ≠ n2))
  (((B (false)) = r ∧ [] = O))
  (((B (true)) = r ∧ [] = O))))))))))))))))))))))))))))))) : XC Try.prog 7 [.one (.d (.str p))] [] r O :=
  xc_of (E := envL) (hs := laws_FnExactWords_h) (c := (bodyOf Try.f7)) (n := 66) (res := [.tmp 2]) (rs := .c .b) (ks := []) (dir := []) envLOk mixed rfl Try.func7 (by kernel_rfl) (by kernel_rfl) (by kernel_rfl) (by kernel_rfl) (to_vc (by kernel_rfl) h)

/-- loop.example/g00461/spec.Words -/
def spec_Words_h : Hints := ⟨[(6, ⟨[0, 4, 5, 6], [], [], [], [], [], []⟩), (17, ⟨[0, 4, 5, 6, 8], [], [], [], [], [], []⟩)], []⟩
def spec_Words_L6 (r : AV) (O : List (Nat × Ob)) (s0 : ByteArray) (s6 : Int) (s4 : List (List Da)) (s5 : List (List Da)) : Prop := CL 117 Try.prog (subC (bodyOf Try.f42) [1, 1, 1, 1, 0, 1, 0, 0]) (kont Try.prog env spec_Words_h 117 (bodyOf Try.f42) [1, 1, 1, 1, 0, 1, 0, 0] (vRet env [.tmp 2, .tmp 3] (.t [.o 9 1, .c (.i .i64)]) [] [] r O) (retKE (vRet env [.tmp 2, .tmp 3] (.t [.o 9 1, .c (.i .i64)]) [] [] r O))).1 (kont Try.prog env spec_Words_h 117 (bodyOf Try.f42) [1, 1, 1, 1, 0, 1, 0, 0] (vRet env [.tmp 2, .tmp 3] (.t [.o 9 1, .c (.i .i64)]) [] [] r O) (retKE (vRet env [.tmp 2, .tmp 3] (.t [.o 9 1, .c (.i .i64)]) [] [] r O))).2 ⟨[(0, (T s0)), (4, (.one (.ol 1900))), (5, (.one (.ol 1901))), (6, (Z s6))], [(1900, (.tr 9 1 s4)), (1901, (.tr 9 1 s5))]⟩
def spec_Words_L17 (r : AV) (O : List (Nat × Ob)) (s0 : ByteArray) (s6 : Int) (s8 : Int) (s4 : List (List Da)) (s5 : List (List Da)) : Prop := CL 117 Try.prog (subC (bodyOf Try.f42) [1, 1, 1, 1, 0, 1, 0, 0, 1, 0, 1, 1, 1, 0, 0, 0]) (kont Try.prog env spec_Words_h 117 (bodyOf Try.f42) [1, 1, 1, 1, 0, 1, 0, 0, 1, 0, 1, 1, 1, 0, 0, 0] (vRet env [.tmp 2, .tmp 3] (.t [.o 9 1, .c (.i .i64)]) [] [] r O) (retKE (vRet env [.tmp 2, .tmp 3] (.t [.o 9 1, .c (.i .i64)]) [] [] r O))).1 (kont Try.prog env spec_Words_h 117 (bodyOf Try.f42) [1, 1, 1, 1, 0, 1, 0, 0, 1, 0, 1, 1, 1, 0, 0, 0] (vRet env [.tmp 2, .tmp 3] (.t [.o 9 1, .c (.i .i64)]) [] [] r O) (retKE (vRet env [.tmp 2, .tmp 3] (.t [.o 9 1, .c (.i .i64)]) [] [] r O))).2 ⟨[(0, (T s0)), (4, (.one (.ol 1900))), (5, (.one (.ol 1901))), (6, (Z s6)), (8, (Z s8))], [(1900, (.tr 9 1 s4)), (1901, (.tr 9 1 s5))]⟩
theorem spec_Words_L6_of {r : AV} {O : List (Nat × Ob)} {s0 : ByteArray} {s6 : Int} {s4 : List (List Da)} {s5 : List (List Da)} (h : ifB (decide (s6 < (↑(ByteArray.size s0) : Int)))
  ((∃ (n : Nat), (∃ (b : UInt8), (s6 = ((↑n : Int)) ∧ ((s0[n]?) = some b ∧ ifB (decide ((↑(UInt8.toNat b) : Int) = (32 : Int)))
  (spec_Words_L6 r O s0 (IntKind.wrap IntKind.i64 (s6 + (1 : Int))) s4 s5)
  (ifB (decide ((↑(UInt8.toNat b) : Int) = (10 : Int)))
  (spec_Words_L6 r O s0 (IntKind.wrap IntKind.i64 (s6 + (1 : Int))) s4 s5)
  (ifB (decide ((↑(UInt8.toNat b) : Int) = (40 : Int)))
  ((∃ (n1 : Nat), (s6 = ((↑n1 : Int)) ∧ (∃ (n2 : Nat), ((IntKind.wrap IntKind.i64 (s6 + (1 : Int))) = ((↑n2 : Int)) ∧ (Do (n1 ≤ n2 ∧ n2 ≤ ByteArray.size s0) ∧ (Do ((List.length s5 + List.length [[Da.str (ByteArray.extract s0 n1 n2)]]) * (16 : Nat) ≤ (140737488355328 : Nat)) ∧ spec_Words_L6 r O s0 (IntKind.wrap IntKind.i64 (s6 + (1 : Int))) s4 (s5 ++ [[Da.str (ByteArray.extract s0 n1 n2)]]))))))))
  (ifB (decide ((↑(UInt8.toNat b) : Int) = (41 : Int)))
  ((∃ (n3 : Nat), (s6 = ((↑n3 : Int)) ∧ (∃ (n4 : Nat), ((IntKind.wrap IntKind.i64 (s6 + (1 : Int))) = ((↑n4 : Int)) ∧ (Do (n3 ≤ n4 ∧ n4 ≤ ByteArray.size s0) ∧ (Do ((List.length s5 + List.length [[Da.str (ByteArray.extract s0 n3 n4)]]) * (16 : Nat) ≤ (140737488355328 : Nat)) ∧ spec_Words_L6 r O s0 (IntKind.wrap IntKind.i64 (s6 + (1 : Int))) s4 (s5 ++ [[Da.str (ByteArray.extract s0 n3 n4)]]))))))))
  (ifB (decide ((↑(UInt8.toNat b) : Int) = (44 : Int)))
  ((∃ (n5 : Nat), (s6 = ((↑n5 : Int)) ∧ (∃ (n6 : Nat), ((IntKind.wrap IntKind.i64 (s6 + (1 : Int))) = ((↑n6 : Int)) ∧ (Do (n5 ≤ n6 ∧ n6 ≤ ByteArray.size s0) ∧ (Do ((List.length s5 + List.length [[Da.str (ByteArray.extract s0 n5 n6)]]) * (16 : Nat) ≤ (140737488355328 : Nat)) ∧ spec_Words_L6 r O s0 (IntKind.wrap IntKind.i64 (s6 + (1 : Int))) s4 (s5 ++ [[Da.str (ByteArray.extract s0 n5 n6)]]))))))))
  (ifB (decide ((↑(UInt8.toNat b) : Int) = (46 : Int)))
  ((∃ (n7 : Nat), (s6 = ((↑n7 : Int)) ∧ (∃ (n8 : Nat), ((IntKind.wrap IntKind.i64 (s6 + (1 : Int))) = ((↑n8 : Int)) ∧ (Do (n7 ≤ n8 ∧ n8 ≤ ByteArray.size s0) ∧ (Do ((List.length s5 + List.length [[Da.str (ByteArray.extract s0 n7 n8)]]) * (16 : Nat) ≤ (140737488355328 : Nat)) ∧ spec_Words_L6 r O s0 (IntKind.wrap IntKind.i64 (s6 + (1 : Int))) s4 (s5 ++ [[Da.str (ByteArray.extract s0 n7 n8)]]))))))))
  (ifB (decide ((↑(UInt8.toNat b) : Int) = (61 : Int)))
  ((∃ (n9 : Nat), (s6 = ((↑n9 : Int)) ∧ (∃ (n10 : Nat), ((IntKind.wrap IntKind.i64 (s6 + (1 : Int))) = ((↑n10 : Int)) ∧ (Do (n9 ≤ n10 ∧ n10 ≤ ByteArray.size s0) ∧ (Do ((List.length s5 + List.length [[Da.str (ByteArray.extract s0 n9 n10)]]) * (16 : Nat) ≤ (140737488355328 : Nat)) ∧ spec_Words_L6 r O s0 (IntKind.wrap IntKind.i64 (s6 + (1 : Int))) s4 (s5 ++ [[Da.str (ByteArray.extract s0 n9 n10)]]))))))))
  (ifB (decide ((↑(UInt8.toNat b) : Int) = (124 : Int)))
  ((∃ (n11 : Nat), (s6 = ((↑n11 : Int)) ∧ (∃ (n12 : Nat), ((IntKind.wrap IntKind.i64 (s6 + (1 : Int))) = ((↑n12 : Int)) ∧ (Do (n11 ≤ n12 ∧ n12 ≤ ByteArray.size s0) ∧ (Do ((List.length s5 + List.length [[Da.str (ByteArray.extract s0 n11 n12)]]) * (16 : Nat) ≤ (140737488355328 : Nat)) ∧ spec_Words_L6 r O s0 (IntKind.wrap IntKind.i64 (s6 + (1 : Int))) s4 (s5 ++ [[Da.str (ByteArray.extract s0 n11 n12)]]))))))))
  (ifB (decide ((↑(UInt8.toNat b) : Int) = (126 : Int)))
  ((∃ (n13 : Nat), (s6 = ((↑n13 : Int)) ∧ (∃ (n14 : Nat), ((IntKind.wrap IntKind.i64 (s6 + (1 : Int))) = ((↑n14 : Int)) ∧ (Do (n13 ≤ n14 ∧ n14 ≤ ByteArray.size s0) ∧ (Do ((List.length s5 + List.length [[Da.str (ByteArray.extract s0 n13 n14)]]) * (16 : Nat) ≤ (140737488355328 : Nat)) ∧ spec_Words_L6 r O s0 (IntKind.wrap IntKind.i64 (s6 + (1 : Int))) s4 (s5 ++ [[Da.str (ByteArray.extract s0 n13 n14)]]))))))))
  (ifB (decide ((↑(UInt8.toNat b) : Int) = (33 : Int)))
  (ifB (decide (IntKind.wrap IntKind.i64 (s6 + (1 : Int)) < (↑(ByteArray.size s0) : Int)))
  ((∃ (n15 : Nat), (∃ (b1 : UInt8), ((IntKind.wrap IntKind.i64 (s6 + (1 : Int))) = ((↑n15 : Int)) ∧ ((s0[n15]?) = some b1 ∧ ifB (decide ((↑(UInt8.toNat b1) : Int) = (61 : Int)))
  ((Do ((List.length s5 + List.length [[Da.str { data := #[(33 : UInt8), (61 : UInt8)] }]]) * (16 : Nat) ≤ (140737488355328 : Nat)) ∧ spec_Words_L6 r O s0 (IntKind.wrap IntKind.i64 (s6 + (2 : Int))) s4 (s5 ++ [[Da.str { data := #[(33 : UInt8), (61 : UInt8)] }]])))
  (spec_Words_L17 r O s0 s6 s6 s4 s5))))))
  (spec_Words_L17 r O s0 s6 s6 s4 s5))
  (spec_Words_L17 r O s0 s6 s6 s4 s5)))))))))))))))
  (((.tup [(.one (.ol 0)), (Z ((-1 : Int)))]) = r ∧ [(0, (.tr 9 1 s5))] = O))) : spec_Words_L6 r O s0 s6 s4 s5 := by
  unfold spec_Words_L6
  refine cl_of (E := env) (hs := spec_Words_h) envOk mixed ?_
  exact to_vc (by kernel_rfl) h
theorem spec_Words_L17_of {r : AV} {O : List (Nat × Ob)} {s0 : ByteArray} {s6 : Int} {s8 : Int} {s4 : List (List Da)} {s5 : List (List Da)} (h : ifB (decide (s8 < (↑(ByteArray.size s0) : Int)))
  ((∃ (n : Nat), (∃ (b : UInt8), (s8 = ((↑n : Int)) ∧ ((s0[n]?) = some b ∧ (∃ (b1 : Bool), (XC Try.prog 118 [(I .u8 ((↑(UInt8.toNat b) : Int)))] [] (B b1) [] ∧ ifB b1
  (spec_Words_L17 r O s0 s6 (IntKind.wrap IntKind.i64 (s8 + (1 : Int))) s4 s5)
  (ifB (decide (s8 = s6))
  (((.tup [(.one (.ol 0)), (Z s6)]) = r ∧ [(0, (.tr 9 1 s4))] = O))
  ((∃ (n1 : Nat), (s6 = ((↑n1 : Int)) ∧ (∃ (n2 : Nat), (s8 = ((↑n2 : Int)) ∧ (Do (n1 ≤ n2 ∧ n2 ≤ ByteArray.size s0) ∧ (Do ((List.length s5 + List.length [[Da.str (ByteArray.extract s0 n1 n2)]]) * (16 : Nat) ≤ (140737488355328 : Nat)) ∧ spec_Words_L6 r O s0 s8 s4 (s5 ++ [[Da.str (ByteArray.extract s0 n1 n2)]]))))))))))))))))
  (ifB (decide (s8 = s6))
  (((.tup [(.one (.ol 0)), (Z s6)]) = r ∧ [(0, (.tr 9 1 s4))] = O))
  ((∃ (n3 : Nat), (s6 = ((↑n3 : Int)) ∧ (∃ (n4 : Nat), (s8 = ((↑n4 : Int)) ∧ (Do (n3 ≤ n4 ∧ n4 ≤ ByteArray.size s0) ∧ (Do ((List.length s5 + List.length [[Da.str (ByteArray.extract s0 n3 n4)]]) * (16 : Nat) ≤ (140737488355328 : Nat)) ∧ spec_Words_L6 r O s0 s8 s4 (s5 ++ [[Da.str (ByteArray.extract s0 n3 n4)]])))))))))) : spec_Words_L17 r O s0 s6 s8 s4 s5 := by
  unfold spec_Words_L17
  refine cl_of (E := env) (hs := spec_Words_h) envOk mixed ?_
  exact to_vc (by kernel_rfl) h
theorem spec_Words_of {p : ByteArray} {r : AV} {O : List (Nat × Ob)} (h : ifB (decide ((3000 : Int) < (↑(ByteArray.size p) : Int)))
  (((.tup [(.one (.ol 0)), (Z ((0 : Int)))]) = r ∧ [(0, (.tr 9 1 []))] = O))
  (spec_Words_L6 r O p ((0 : Int)) [] [])) : XC Try.prog 42 [(T p)] [] r O :=
  xc_of (E := env) (hs := spec_Words_h) (c := (bodyOf Try.f42)) (n := 117) (res := [.tmp 2, .tmp 3]) (rs := .t [.o 9 1, .c (.i .i64)]) (ks := []) (dir := []) envOk mixed rfl Try.func42 (by kernel_rfl) (by kernel_rfl) (by kernel_rfl) (by kernel_rfl) (to_vc (by kernel_rfl) h)

/-- loop.example/g00461/impl.Words -/
def impl_Words_h : Hints := ⟨[(5, ⟨[0, 4, 5], [], [], [], [], [], []⟩), (12, ⟨[0, 4, 5, 6], [], [], [], [], [], []⟩)], []⟩
def impl_Words_L5 (r : AV) (O : List (Nat × Ob)) (s0 : ByteArray) (s5 : Int) (s4 : List (List Da)) : Prop := CL 74 Try.prog (subC (bodyOf Try.f43) [1, 1, 1, 0, 1, 0, 0]) (kont Try.prog env impl_Words_h 74 (bodyOf Try.f43) [1, 1, 1, 0, 1, 0, 0] (vRet env [.tmp 2, .tmp 3] (.t [.o 9 1, .c (.i .i64)]) [] [] r O) (retKE (vRet env [.tmp 2, .tmp 3] (.t [.o 9 1, .c (.i .i64)]) [] [] r O))).1 (kont Try.prog env impl_Words_h 74 (bodyOf Try.f43) [1, 1, 1, 0, 1, 0, 0] (vRet env [.tmp 2, .tmp 3] (.t [.o 9 1, .c (.i .i64)]) [] [] r O) (retKE (vRet env [.tmp 2, .tmp 3] (.t [.o 9 1, .c (.i .i64)]) [] [] r O))).2 ⟨[(0, (T s0)), (4, (.one (.ol 1900))), (5, (Z s5))], [(1900, (.tr 9 1 s4))]⟩
def impl_Words_L12 (r : AV) (O : List (Nat × Ob)) (s0 : ByteArray) (s5 : Int) (s6 : Int) (s4 : List (List Da)) : Prop := CL 74 Try.prog (subC (bodyOf Try.f43) [1, 1, 1, 0, 1, 0, 0, 1, 0, 1, 0, 0, 1, 1, 1, 1, 1, 0, 0, 0]) (kont Try.prog env impl_Words_h 74 (bodyOf Try.f43) [1, 1, 1, 0, 1, 0, 0, 1, 0, 1, 0, 0, 1, 1, 1, 1, 1, 0, 0, 0] (vRet env [.tmp 2, .tmp 3] (.t [.o 9 1, .c (.i .i64)]) [] [] r O) (retKE (vRet env [.tmp 2, .tmp 3] (.t [.o 9 1, .c (.i .i64)]) [] [] r O))).1 (kont Try.prog env impl_Words_h 74 (bodyOf Try.f43) [1, 1, 1, 0, 1, 0, 0, 1, 0, 1, 0, 0, 1, 1, 1, 1, 1, 0, 0, 0] (vRet env [.tmp 2, .tmp 3] (.t [.o 9 1, .c (.i .i64)]) [] [] r O) (retKE (vRet env [.tmp 2, .tmp 3] (.t [.o 9 1, .c (.i .i64)]) [] [] r O))).2 ⟨[(0, (T s0)), (4, (.one (.ol 1900))), (5, (Z s5)), (6, (Z s6))], [(1900, (.tr 9 1 s4))]⟩
theorem impl_Words_L5_of {r : AV} {O : List (Nat × Ob)} {s0 : ByteArray} {s5 : Int} {s4 : List (List Da)} (h : ifB (decide (s5 < (↑(ByteArray.size s0) : Int)))
  ((∃ (n : Nat), (∃ (b : UInt8), (s5 = ((↑n : Int)) ∧ ((s0[n]?) = some b ∧ ifB (decide ((↑(UInt8.toNat b) : Int) = (32 : Int)))
  (impl_Words_L5 r O s0 (IntKind.wrap IntKind.i64 (s5 + (1 : Int))) s4)
  ((∃ (n1 : Nat), (∃ (b1 : UInt8), (s5 = ((↑n1 : Int)) ∧ ((s0[n1]?) = some b1 ∧ ifB (decide ((↑(UInt8.toNat b1) : Int) = (10 : Int)))
  (impl_Words_L5 r O s0 (IntKind.wrap IntKind.i64 (s5 + (1 : Int))) s4)
  ((∃ (n2 : Nat), (s5 = ((↑n2 : Int)) ∧ (Do (n2 ≤ ByteArray.size s0 ∧ ByteArray.size s0 ≤ ByteArray.size s0) ∧ (∃ (b2 : Bool), (XC Try.prog 119 [(T (ByteArray.extract s0 n2 (ByteArray.size s0))), (T ({ data := #[(33 : UInt8), (61 : UInt8)] }))] [] (B b2) [] ∧ ifB b2
  ((∃ (n3 : Nat), (s5 = ((↑n3 : Int)) ∧ (∃ (n4 : Nat), ((IntKind.wrap IntKind.i64 (s5 + (2 : Int))) = ((↑n4 : Int)) ∧ (Do (n3 ≤ n4 ∧ n4 ≤ ByteArray.size s0) ∧ (Do ((List.length s4 + List.length [[Da.str (ByteArray.extract s0 n3 n4)]]) * (16 : Nat) ≤ (140737488355328 : Nat)) ∧ impl_Words_L5 r O s0 (IntKind.wrap IntKind.i64 (s5 + (2 : Int))) (s4 ++ [[Da.str (ByteArray.extract s0 n3 n4)]]))))))))
  ((∃ (n5 : Nat), (∃ (b3 : UInt8), (s5 = ((↑n5 : Int)) ∧ ((s0[n5]?) = some b3 ∧ (∃ (b4 : Bool), (XC Try.prog 120 [(I .u8 ((↑(UInt8.toNat b3) : Int)))] [] (B b4) [] ∧ ifB b4
  (impl_Words_L12 r O s0 s5 ((1 : Int)) s4)
  ((∃ (n6 : Nat), (∃ (b5 : UInt8), (s5 = ((↑n6 : Int)) ∧ ((s0[n6]?) = some b5 ∧ (∃ (n7 : Int), (XC Try.prog 121 [(T ({ data := #[(40 : UInt8), (41 : UInt8), (44 : UInt8), (46 : UInt8), (61 : UInt8), (124 : UInt8), (126 : UInt8)] })), (I .u8 ((↑(UInt8.toNat b5) : Int)))] [] (Z n7) [] ∧ ifB (decide (n7 < (0 : Int)))
  (((.tup [(.one (.ol 0)), (Z s5)]) = r ∧ [(0, (.tr 9 1 []))] = O))
  ((∃ (n8 : Nat), (s5 = ((↑n8 : Int)) ∧ (∃ (n9 : Nat), ((IntKind.wrap IntKind.i64 (s5 + (1 : Int))) = ((↑n9 : Int)) ∧ (Do (n8 ≤ n9 ∧ n9 ≤ ByteArray.size s0) ∧ (Do ((List.length s4 + List.length [[Da.str (ByteArray.extract s0 n8 n9)]]) * (16 : Nat) ≤ (140737488355328 : Nat)) ∧ impl_Words_L5 r O s0 (IntKind.wrap IntKind.i64 (s5 + (1 : Int))) (s4 ++ [[Da.str (ByteArray.extract s0 n8 n9)]]))))))))))))))))))))))))))))))))))))))
  (((.tup [(.one (.ol 0)), (Z ((-1 : Int)))]) = r ∧ [(0, (.tr 9 1 s4))] = O))) : impl_Words_L5 r O s0 s5 s4 := by
  unfold impl_Words_L5
  refine cl_of (E := env) (hs := impl_Words_h) envOk mixed ?_
  exact to_vc (by kernel_rfl) h
theorem impl_Words_L12_of {r : AV} {O : List (Nat × Ob)} {s0 : ByteArray} {s5 : Int} {s6 : Int} {s4 : List (List Da)} (h : ifB (decide (IntKind.wrap IntKind.i64 (s5 + s6) < (↑(ByteArray.size s0) : Int)))
  ((∃ (n : Nat), (∃ (b : UInt8), ((IntKind.wrap IntKind.i64 (s5 + s6)) = ((↑n : Int)) ∧ ((s0[n]?) = some b ∧ (∃ (b1 : Bool), (XC Try.prog 120 [(I .u8 ((↑(UInt8.toNat b) : Int)))] [] (B b1) [] ∧ ifB b1
  (impl_Words_L12 r O s0 s5 (IntKind.wrap IntKind.i64 (s6 + (1 : Int))) s4)
  ((∃ (n1 : Nat), (s5 = ((↑n1 : Int)) ∧ (∃ (n2 : Nat), ((IntKind.wrap IntKind.i64 (s5 + s6)) = ((↑n2 : Int)) ∧ (Do (n1 ≤ n2 ∧ n2 ≤ ByteArray.size s0) ∧ (Do ((List.length s4 + List.length [[Da.str (ByteArray.extract s0 n1 n2)]]) * (16 : Nat) ≤ (140737488355328 : Nat)) ∧ impl_Words_L5 r O s0 (IntKind.wrap IntKind.i64 (s5 + s6)) (s4 ++ [[Da.str (ByteArray.extract s0 n1 n2)]])))))))))))))))
  ((∃ (n3 : Nat), (s5 = ((↑n3 : Int)) ∧ (∃ (n4 : Nat), ((IntKind.wrap IntKind.i64 (s5 + s6)) = ((↑n4 : Int)) ∧ (Do (n3 ≤ n4 ∧ n4 ≤ ByteArray.size s0) ∧ (Do ((List.length s4 + List.length [[Da.str (ByteArray.extract s0 n3 n4)]]) * (16 : Nat) ≤ (140737488355328 : Nat)) ∧ impl_Words_L5 r O s0 (IntKind.wrap IntKind.i64 (s5 + s6)) (s4 ++ [[Da.str (ByteArray.extract s0 n3 n4)]]))))))))) : impl_Words_L12 r O s0 s5 s6 s4 := by
  unfold impl_Words_L12
  refine cl_of (E := env) (hs := impl_Words_h) envOk mixed ?_
  exact to_vc (by kernel_rfl) h
theorem impl_Words_of {p : ByteArray} {r : AV} {O : List (Nat × Ob)} (h : ifB (decide ((3000 : Int) < (↑(ByteArray.size p) : Int)))
  (((.tup [(.one (.ol 0)), (Z ((0 : Int)))]) = r ∧ [(0, (.tr 9 1 []))] = O))
  (impl_Words_L5 r O p ((0 : Int)) [])) : XC Try.prog 43 [(T p)] [] r O :=
  xc_of (E := env) (hs := impl_Words_h) (c := (bodyOf Try.f43)) (n := 74) (res := [.tmp 2, .tmp 3]) (rs := .t [.o 9 1, .c (.i .i64)]) (ks := []) (dir := []) envOk mixed rfl Try.func43 (by kernel_rfl) (by kernel_rfl) (by kernel_rfl) (by kernel_rfl) (to_vc (by kernel_rfl) h)

/-- loop.example/g00461/laws.eqStringS -/
def laws_eqStringS_h : Hints := ⟨[(4, ⟨[0, 1, 5], [], [], [], [], [], []⟩)], []⟩
def laws_eqStringS_L4 (r : AV) (O : List (Nat × Ob)) (a : List (List Da)) (b : List (List Da)) (i : Int) : Prop := CL 26 Try.prog (subC (bodyOf Try.f44) [1, 1, 0, 1, 0, 0]) (kont Try.prog env laws_eqStringS_h 26 (bodyOf Try.f44) [1, 1, 0, 1, 0, 0] (vRet env [.tmp 4] (.c .b) [] [] r O) (retKE (vRet env [.tmp 4] (.c .b) [] [] r O))).1 (kont Try.prog env laws_eqStringS_h 26 (bodyOf Try.f44) [1, 1, 0, 1, 0, 0] (vRet env [.tmp 4] (.c .b) [] [] r O) (retKE (vRet env [.tmp 4] (.c .b) [] [] r O))).2 ⟨[(0, (L a)), (1, (L b)), (5, (Z i))], []⟩
theorem laws_eqStringS_L4_of {r : AV} {O : List (Nat × Ob)} {a : List (List Da)} {b : List (List Da)} {i : Int} (h : ifB (decide (i < (↑(List.length a) : Int)))
  ((∃ (m : Nat), (i = ((↑m : Int)) ∧ (∃ (q : ByteArray), ((a[m]?) = some [(.str q)] ∧ (∃ (m1 : Nat), (i = ((↑m1 : Int)) ∧ (∃ (q1 : ByteArray), ((b[m1]?) = some [(.str q1)] ∧ ifB (decide (q ≠ q1))
  (((B (false)) = r ∧ [] = O))
  (laws_eqStringS_L4 r O a b (IntKind.wrap IntKind.i64 (i + (1 : Int)))))))))))))
  (((B (true)) = r ∧ [] = O))) : laws_eqStringS_L4 r O a b i := by
  unfold laws_eqStringS_L4
  refine cl_of (E := env) (hs := laws_eqStringS_h) envOk mixed ?_
  exact to_vc (by kernel_rfl) h
theorem laws_eqStringS_of {a : List (List Da)} {b : List (List Da)} {r : AV} {O : List (Nat × Ob)} (h : ifB (decide ((↑(List.length a) : Int) ≠ (↑(List.length b) : Int)))
  (((B (false)) = r ∧ [] = O))
  (laws_eqStringS_L4 r O a b ((0 : Int)))) : XC Try.prog 44 [(L a), (L b)] [] r O :=
  xc_of (E := env) (hs := laws_eqStringS_h) (c := (bodyOf Try.f44)) (n := 26) (res := [.tmp 4]) (rs := .c .b) (ks := []) (dir := []) envOk mixed rfl Try.func44 (by kernel_rfl) (by kernel_rfl) (by kernel_rfl) (by kernel_rfl) (to_vc (by kernel_rfl) h)

/-- loop.example/g00461/laws.markStringS -/
def laws_markStringS_h : Hints := ⟨[(2, ⟨[0, 1, 5], [], [], [], [], [], []⟩)], []⟩
def laws_markStringS_L2 (r : AV) (O : List (Nat × Ob)) (k : Int) (i : Int) (a : List (List Da)) : Prop := CL 20 Try.prog (subC (bodyOf Try.f45) [1, 0, 1, 0, 0]) (kont Try.prog env laws_markStringS_h 20 (bodyOf Try.f45) [1, 0, 1, 0, 0] (vRet env [.tmp 4] (.c (.i .i64)) [(2000, (false))] [2000] r O) (retKE (vRet env [.tmp 4] (.c (.i .i64)) [(2000, (false))] [2000] r O))).1 (kont Try.prog env laws_markStringS_h 20 (bodyOf Try.f45) [1, 0, 1, 0, 0] (vRet env [.tmp 4] (.c (.i .i64)) [(2000, (false))] [2000] r O) (retKE (vRet env [.tmp 4] (.c (.i .i64)) [(2000, (false))] [2000] r O))).2 ⟨[(0, (.one (.ol 2000))), (1, (Z k)), (5, (Z i))], [(2000, (.mt 9 1 a))]⟩
theorem laws_markStringS_L2_of {r : AV} {O : List (Nat × Ob)} {k : Int} {i : Int} {a : List (List Da)} (h : ifB (decide (i < (↑(List.length a) : Int)))
  ((∃ (q : ByteArray), (XC Try.prog 93 [(Z k)] [] (T q) [] ∧ (∃ (m : Nat), (i = ((↑m : Int)) ∧ (Do (m < List.length a) ∧ (∃ (m1 : Nat), ((m * (1 : Nat)) = (m1 * (1 : Nat) + (0 : Nat)) ∧ (∃ (q1 : ByteArray), ((a[m1]?) = some [(.str q1)] ∧ laws_markStringS_L2 r O (IntKind.wrap IntKind.i64 (k + (1 : Int))) (IntKind.wrap IntKind.i64 (i + (1 : Int))) (List.set a m1 ([] ++ [Da.str q] ++ []))))))))))))
  (((Z k) = r ∧ [(2000, (.mt 9 1 a))] = O))) : laws_markStringS_L2 r O k i a := by
  unfold laws_markStringS_L2
  refine cl_of (E := env) (hs := laws_markStringS_h) envOk mixed ?_
  exact to_vc (by kernel_rfl) h
theorem laws_markStringS_of {k : Int} {o2000 : List (List Da)} {r : AV} {O : List (Nat × Ob)} (h : laws_markStringS_L2 r O k ((0 : Int)) o2000) : XC Try.prog 45 [(.one (.ol 2000)), (Z k)] [(2000, (.mt 9 1 o2000))] r O :=
  xc_of (E := env) (hs := laws_markStringS_h) (c := (bodyOf Try.f45)) (n := 20) (res := [.tmp 4]) (rs := .c (.i .i64)) (ks := [(2000, (false))]) (dir := [2000]) envOk mixed rfl Try.func45 (by kernel_rfl) (by kernel_rfl) (by kernel_rfl) (by kernel_rfl) (to_vc (by kernel_rfl) h)

/-- loop.example/g00461/laws.heldStringS -/
def laws_heldStringS_h : Hints := ⟨[(2, ⟨[0, 1, 5], [], [], [], [], [], []⟩)], []⟩
def laws_heldStringS_L2 (r : AV) (O : List (Nat × Ob)) (a : List (List Da)) (k : Int) (i : Int) : Prop := CL 22 Try.prog (subC (bodyOf Try.f46) [1, 0, 1, 0, 0]) (kont Try.prog env laws_heldStringS_h 22 (bodyOf Try.f46) [1, 0, 1, 0, 0] (vRet env [.tmp 4] (.c (.i .i64)) [] [] r O) (retKE (vRet env [.tmp 4] (.c (.i .i64)) [] [] r O))).1 (kont Try.prog env laws_heldStringS_h 22 (bodyOf Try.f46) [1, 0, 1, 0, 0] (vRet env [.tmp 4] (.c (.i .i64)) [] [] r O) (retKE (vRet env [.tmp 4] (.c (.i .i64)) [] [] r O))).2 ⟨[(0, (L a)), (1, (Z k)), (5, (Z i))], []⟩
theorem laws_heldStringS_L2_of {r : AV} {O : List (Nat × Ob)} {a : List (List Da)} {k : Int} {i : Int} (h : ifB (decide (i < (↑(List.length a) : Int)))
  ((∃ (m : Nat), (i = ((↑m : Int)) ∧ (∃ (q : ByteArray), ((a[m]?) = some [(.str q)] ∧ (∃ (q1 : ByteArray), (XC Try.prog 93 [(Z k)] [] (T q1) [] ∧ ifB (decide (q ≠ q1))
  (((Z ((-1 : Int))) = r ∧ [] = O))
  (laws_heldStringS_L2 r O a (IntKind.wrap IntKind.i64 (k + (1 : Int))) (IntKind.wrap IntKind.i64 (i + (1 : Int)))))))))))
  (((Z k) = r ∧ [] = O))) : laws_heldStringS_L2 r O a k i := by
  unfold laws_heldStringS_L2
  refine cl_of (E := env) (hs := laws_heldStringS_h) envOk mixed ?_
  exact to_vc (by kernel_rfl) h
theorem laws_heldStringS_of {a : List (List Da)} {k : Int} {r : AV} {O : List (Nat × Ob)} (h : laws_heldStringS_L2 r O a k ((0 : Int))) : XC Try.prog 46 [(L a), (Z k)] [] r O :=
  xc_of (E := env) (hs := laws_heldStringS_h) (c := (bodyOf Try.f46)) (n := 22) (res := [.tmp 4]) (rs := .c (.i .i64)) (ks := []) (dir := []) envOk mixed rfl Try.func46 (by kernel_rfl) (by kernel_rfl) (by kernel_rfl) (by kernel_rfl) (to_vc (by kernel_rfl) h)

/-- loop.example/g00461/spec.l12Letter -/
def spec_l12Letter_h : Hints := ⟨[], []⟩
theorem spec_l12Letter_of {b : Int} {r : AV} {O : List (Nat × Ob)} (h : ifB (decide ((97 : Int) ≤ b))
  (ifB (decide (b ≤ (122 : Int)))
  (((B (true)) = r ∧ [] = O))
  (ifB (decide ((65 : Int) ≤ b))
  (ifB (decide (b ≤ (90 : Int)))
  (((B (true)) = r ∧ [] = O))
  (ifB (decide ((48 : Int) ≤ b))
  (((B (decide (b ≤ (57 : Int)))) = r ∧ [] = O))
  (((B (false)) = r ∧ [] = O))))
  (ifB (decide ((48 : Int) ≤ b))
  (((B (decide (b ≤ (57 : Int)))) = r ∧ [] = O))
  (((B (false)) = r ∧ [] = O)))))
  (ifB (decide ((65 : Int) ≤ b))
  (ifB (decide (b ≤ (90 : Int)))
  (((B (true)) = r ∧ [] = O))
  (ifB (decide ((48 : Int) ≤ b))
  (((B (decide (b ≤ (57 : Int)))) = r ∧ [] = O))
  (((B (false)) = r ∧ [] = O))))
  (ifB (decide ((48 : Int) ≤ b))
  (((B (decide (b ≤ (57 : Int)))) = r ∧ [] = O))
  (((B (false)) = r ∧ [] = O))))) : XC Try.prog 118 [(I .u8 b)] [] r O :=
  xc_of (E := env) (hs := spec_l12Letter_h) (c := (bodyOf Try.f118)) (n := 25) (res := [.tmp 2]) (rs := .c .b) (ks := []) (dir := []) envOk mixed rfl Try.func118 (by kernel_rfl) (by kernel_rfl) (by kernel_rfl) (by kernel_rfl) (to_vc (by kernel_rfl) h)

/-- strings.HasPrefix -/
def strings_HasPrefix_h : Hints := ⟨[], []⟩
theorem strings_HasPrefix_of {s : ByteArray} {prefix_ : ByteArray} {r : AV} {O : List (Nat × Ob)} (h : (∃ (b : Bool), (XC Try.prog 171 [(T s), (T prefix_)] [] (B b) [] ∧ ((B b) = r ∧ [] = O)))) : XC Try.prog 119 [(T s), (T prefix_)] [] r O :=
  xc_of (E := env) (hs := strings_HasPrefix_h) (c := (bodyOf Try.f119)) (n := 8) (res := [.tmp 4]) (rs := .c .b) (ks := []) (dir := []) envOk mixed rfl Try.func119 (by kernel_rfl) (by kernel_rfl) (by kernel_rfl) (by kernel_rfl) (to_vc (by kernel_rfl) h)

/-- loop.example/g00461/impl.isWordByte -/
def impl_isWordByte_h : Hints := ⟨[], []⟩
theorem impl_isWordByte_of {c : Int} {r : AV} {O : List (Nat × Ob)} (h : (∃ (b : Bool), (XC Try.prog 172 [(I .u8 c)] [] (B b) [] ∧ ifB b
  (((B (true)) = r ∧ [] = O))
  ((∃ (b1 : Bool), (XC Try.prog 173 [(I .u8 c)] [] (B b1) [] ∧ ifB b1
  (((B (true)) = r ∧ [] = O))
  (ifB (decide ((65 : Int) ≤ c))
  (((B (decide (c ≤ (90 : Int)))) = r ∧ [] = O))
  (((B (false)) = r ∧ [] = O))))))))) : XC Try.prog 120 [(I .u8 c)] [] r O :=
  xc_of (E := env) (hs := impl_isWordByte_h) (c := (bodyOf Try.f120)) (n := 17) (res := [.tmp 2]) (rs := .c .b) (ks := []) (dir := []) envOk mixed rfl Try.func120 (by kernel_rfl) (by kernel_rfl) (by kernel_rfl) (by kernel_rfl) (to_vc (by kernel_rfl) h)

/-- strings.IndexByte -/
def strings_IndexByte_h : Hints := ⟨[], []⟩
theorem strings_IndexByte_of {s : ByteArray} {c : Int} {r : AV} {O : List (Nat × Ob)} (h : (∃ (n : Int), (XC Try.prog 174 [(T s), (I .u8 c)] [] (Z n) [] ∧ ((Z n) = r ∧ [] = O)))) : XC Try.prog 121 [(T s), (I .u8 c)] [] r O :=
  xc_of (E := env) (hs := strings_IndexByte_h) (c := (bodyOf Try.f121)) (n := 8) (res := [.tmp 4]) (rs := .c (.i .i64)) (ks := []) (dir := []) envOk mixed rfl Try.func121 (by kernel_rfl) (by kernel_rfl) (by kernel_rfl) (by kernel_rfl) (to_vc (by kernel_rfl) h)

/-- loop.example/g00461/laws.markText -/
def laws_markText_h : Hints := ⟨[(4, ⟨[0, 3], [], [], [], [], [], []⟩)], []⟩
def laws_markText_L4 (r : AV) (O : List (Nat × Ob)) (k : Int) (out : ByteArray) : Prop := CL 20 Try.prog (subC (bodyOf Try.f93) [1, 1, 1, 0, 0, 0]) (kont Try.prog env laws_markText_h 20 (bodyOf Try.f93) [1, 1, 1, 0, 0, 0] (vRet env [.tmp 2] (.c .s) [] [] r O) (retKE (vRet env [.tmp 2] (.c .s) [] [] r O))).1 (kont Try.prog env laws_markText_h 20 (bodyOf Try.f93) [1, 1, 1, 0, 0, 0] (vRet env [.tmp 2] (.c .s) [] [] r O) (retKE (vRet env [.tmp 2] (.c .s) [] [] r O))).2 ⟨[(0, (Z k)), (3, (T out))], []⟩
theorem laws_markText_L4_of {r : AV} {O : List (Nat × Ob)} {k : Int} {out : ByteArray} (h : ifB (decide ((0 : Int) < k))
  ((Do ((10 : Int) ≠ (0 : Int)) ∧ (∃ (ns : List Int), ([[(.int .u8 (IntKind.wrap IntKind.u8 (IntKind.wrap IntKind.i64 ((48 : Int) + Int.tmod k (10 : Int)))))]] = (List.map (fun n => [Da.int IntKind.u8 n]) ns) ∧ (Do (ByteArray.size (strOfNums ns ++ out) ≤ (281474976710656 : Nat)) ∧ (Do ((10 : Int) ≠ (0 : Int)) ∧ laws_markText_L4 r O (IntKind.wrap IntKind.i64 (Int.tdiv k (10 : Int))) (strOfNums ns ++ out)))))))
  ((Do (ByteArray.size ({ data := #[(109 : UInt8)] } ++ out) ≤ (281474976710656 : Nat)) ∧ ((T ({ data := #[(109 : UInt8)] } ++ out)) = r ∧ [] = O)))) : laws_markText_L4 r O k out := by
  unfold laws_markText_L4
  refine cl_of (E := env) (hs := laws_markText_h) envOk mixed ?_
  exact to_vc (by kernel_rfl) h
theorem laws_markText_of {k : Int} {r : AV} {O : List (Nat × Ob)} (h : ifB (decide (k ≤ (0 : Int)))
  (((T ({ data := #[(109 : UInt8), (48 : UInt8)] })) = r ∧ [] = O))
  (laws_markText_L4 r O k ({ data := #[] }))) : XC Try.prog 93 [(Z k)] [] r O :=
  xc_of (E := env) (hs := laws_markText_h) (c := (bodyOf Try.f93)) (n := 20) (res := [.tmp 2]) (rs := .c .s) (ks := []) (dir := []) envOk mixed rfl Try.func93 (by kernel_rfl) (by kernel_rfl) (by kernel_rfl) (by kernel_rfl) (to_vc (by kernel_rfl) h)

/-- internal/stringslite.HasPrefix -/
def stringslite_HasPrefix_h : Hints := ⟨[], []⟩
theorem stringslite_HasPrefix_of {s : ByteArray} {prefix_ : ByteArray} {r : AV} {O : List (Nat × Ob)} (h : ifB (decide ((↑(ByteArray.size prefix_) : Int) ≤ (↑(ByteArray.size s) : Int)))
  ((∃ (n : Nat), (((↑(ByteArray.size prefix_) : Int)) = ((↑n : Int)) ∧ (Do ((0 : Nat) ≤ n ∧ n ≤ ByteArray.size s) ∧ ((B (decide (ByteArray.extract s (0 : Nat) n = prefix_))) = r ∧ [] = O)))))
  (((B (false)) = r ∧ [] = O))) : XC Try.prog 171 [(T s), (T prefix_)] [] r O :=
  xc_of (E := env) (hs := stringslite_HasPrefix_h) (c := (bodyOf Try.f171)) (n := 18) (res := [.tmp 4]) (rs := .c .b) (ks := []) (dir := []) envOk mixed rfl Try.func171 (by kernel_rfl) (by kernel_rfl) (by kernel_rfl) (by kernel_rfl) (to_vc (by kernel_rfl) h)

/-- loop.example/g00461/impl.isSmall -/
def impl_isSmall_h : Hints := ⟨[], []⟩
theorem impl_isSmall_of {c : Int} {r : AV} {O : List (Nat × Ob)} (h : ifB (decide ((97 : Int) ≤ c))
  (((B (decide (c ≤ (122 : Int)))) = r ∧ [] = O))
  (((B (false)) = r ∧ [] = O))) : XC Try.prog 172 [(I .u8 c)] [] r O :=
  xc_of (E := env) (hs := impl_isSmall_h) (c := (bodyOf Try.f172)) (n := 9) (res := [.tmp 2]) (rs := .c .b) (ks := []) (dir := []) envOk mixed rfl Try.func172 (by kernel_rfl) (by kernel_rfl) (by kernel_rfl) (by kernel_rfl) (to_vc (by kernel_rfl) h)

/-- loop.example/g00461/impl.isDigit -/
def impl_isDigit_h : Hints := ⟨[], []⟩
theorem impl_isDigit_of {c : Int} {r : AV} {O : List (Nat × Ob)} (h : ifB (decide ((48 : Int) ≤ c))
  (((B (decide (c ≤ (57 : Int)))) = r ∧ [] = O))
  (((B (false)) = r ∧ [] = O))) : XC Try.prog 173 [(I .u8 c)] [] r O :=
  xc_of (E := env) (hs := impl_isDigit_h) (c := (bodyOf Try.f173)) (n := 9) (res := [.tmp 2]) (rs := .c .b) (ks := []) (dir := []) envOk mixed rfl Try.func173 (by kernel_rfl) (by kernel_rfl) (by kernel_rfl) (by kernel_rfl) (to_vc (by kernel_rfl) h)

/-- internal/stringslite.IndexByte -/
def stringslite_IndexByte_h : Hints := ⟨[], []⟩
theorem stringslite_IndexByte_of {s : ByteArray} {c : Int} {r : AV} {O : List (Nat × Ob)} (h : ((Z (firstIdx s (Nat.toUInt8 (Int.toNat c)))) = r ∧ [] = O)) : XC Try.prog 174 [(T s), (I .u8 c)] [] r O :=
  xc_of (E := env) (hs := stringslite_IndexByte_h) (c := (bodyOf Try.f174)) (n := 8) (res := [.tmp 4]) (rs := .c (.i .i64)) (ks := []) (dir := []) envOk mixed rfl Try.func174 (by kernel_rfl) (by kernel_rfl) (by kernel_rfl) (by kernel_rfl) (to_vc (by kernel_rfl) h)

end AM
end Go.Proofs.Ythbbibeilmfheaa
