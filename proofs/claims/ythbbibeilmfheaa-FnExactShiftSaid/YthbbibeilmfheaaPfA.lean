/- What functions of the program ask, printed by a program of this session's and held against the loaded text by the kernel; no conditions. -/
import Derived.Test.YthbbibeilmfheaaEn
set_option linter.unusedVariables false
set_option maxRecDepth 100000
namespace Go.Proofs.Ythbbibeilmfheaa
namespace AM
open Go
attribute [local irreducible] vC

/-- loop.example/g00461/laws.FnExactWords -/
def laws_FnExactWords_h : Hints := ⟨[], []⟩
theorem laws_FnExactWords_of {p : ByteArray} {r : AV} {O : List (Nat × Ob)} (h : ifB (decide ((1048576 : Int) < (↑(ByteArray.size p) : Int)))
  (((B (true)) = r ∧ [] = O))
  ((∃ (xs : List (List Da)), (∃ (n : Int), (XC Try.prog 42 [(T p)] [] (.tup [(.one (.ol 0)), (Z n)]) [(0, (.tr 9 1 xs))] ∧ (∃ (xs1 : List (List Da)), (∃ (n1 : Int), (XC Try.prog 43 [(T p)] [] (.tup [(.one (.ol 0)), (Z n1)]) [(0, (.tr 9 1 xs1))] ∧ (∃ (b : Bool), (XC Try.prog 44 [(L xs1), (L xs)] [] (B b) [] ∧ ifB (!b)
  (((B (false)) = r ∧ [] = O))
  (ifB (decide (n1 ≠ n))
  (((B (false)) = r ∧ [] = O))
  ((∃ (n2 : Int), (∃ (xs2 : List (List Da)), (XC Try.prog 45 [(.one (.ol 2000)), (Z ((1 : Int)))] [(2000, (.mt 9 1 xs1))] (Z n2) [(2000, (.mt 9 1 xs2))] ∧ (∃ (n3 : Int), (XC Try.prog 46 [(L xs2), (Z ((1 : Int)))] [] (Z n3) [] ∧ ifB (decide (n3 < (0 : Int)))
  (((B (false)) = r ∧ [] = O))
  (ifB (decide (n3 ≠ n2))
  (((B (false)) = r ∧ [] = O))
  ((∃ (xs3 : List (List Da)), (∃ (n4 : Int), (XC Try.prog 43 [(T p)] [] (.tup [(.one (.ol 0)), (Z n4)]) [(0, (.tr 9 1 xs3))] ∧ (∃ (b1 : Bool), (XC Try.prog 44 [(L xs3), (L xs)] [] (B b1) [] ∧ ifB (!b1)
  (((B (false)) = r ∧ [] = O))
  (ifB (decide (n4 ≠ n))
  (((B (false)) = r ∧ [] = O))
  ((∃ (n5 : Int), (XC Try.prog 46 [(L xs2), (Z ((1 : Int)))] [] (Z n5) [] ∧ ifB (decide (n5 < (0 : Int)))
  (((B (false)) = r ∧ [] = O))
  (ifB (decide (n5 ≠ n2))
  (((B (false)) = r ∧ [] = O))
  (((B (true)) = r ∧ [] = O))))))))))))))))))))))))))))))) : XC Try.prog 7 [.one (.d (.str p))] [] r O :=
  xc_of (E := envL) (hs := laws_FnExactWords_h) (c := (bodyOf Try.f7)) (n := 66) (res := [.tmp 2]) (rs := .c .b) (ks := []) (dir := []) envLOk mixed rfl Try.func7 (by kernel_rfl) (by kernel_rfl) (by kernel_rfl) (by kernel_rfl) (to_vc (by kernel_rfl) h)

/-- loop.example/g00461/laws.FnExactAt -/
def laws_FnExactAt_h : Hints := ⟨[], []⟩
theorem laws_FnExactAt_of {p : Int} {p1 : Int} {p2 : List (List Da)} {p_1 : List (List Da)} {r : AV} {O : List (Nat × Ob)} (h : ifB (decide ((1048576 : Int) < (↑(List.length p_1) : Int)))
  (((B (true)) = r ∧ [] = O))
  ((∃ (n : Int), (XC Try.prog 47 [(.dat [(.int .i64 p), (.int .i64 p1), (.sl p2)]), (Z ((1048576 : Int)))] [] (Z n) [] ∧ ifB (decide (n < (0 : Int)))
  (((B (true)) = r ∧ [] = O))
  ((∃ (n1 : Int), (∃ (n2 : Int), (∃ (xs : List (List Da)), (XC Try.prog 49 [(.dat [(.int .i64 p), (.int .i64 p1), (.sl p2)])] [] (.agg [(.d (.int .i64 n1)), (.d (.int .i64 n2)), (.ol 0)]) [(0, (.tr 49 3 xs))] ∧ (∃ (xs1 : List (List Da)), (XC Try.prog 57 [(L p_1)] [] (.one (.ol 0)) [(0, (.tr 3 1 xs1))] ∧ (∃ (n3 : Int), (∃ (n4 : Int), (∃ (xs2 : List (List Da)), (∃ (b : Bool), (XC Try.prog 56 [(.dat [(.int .i64 n1), (.int .i64 n2), (.sl xs)]), (L xs1)] [] (.tup [(.dat [(.int .i64 n3), (.int .i64 n4), (.sl xs2)]), (B b)]) [] ∧ (∃ (n5 : Int), (∃ (n6 : Int), (∃ (xs3 : List (List Da)), (XC Try.prog 49 [(.dat [(.int .i64 p), (.int .i64 p1), (.sl p2)])] [] (.agg [(.d (.int .i64 n5)), (.d (.int .i64 n6)), (.ol 0)]) [(0, (.tr 49 3 xs3))] ∧ (∃ (xs4 : List (List Da)), (XC Try.prog 57 [(L p_1)] [] (.one (.ol 0)) [(0, (.tr 3 1 xs4))] ∧ (∃ (n7 : Int), (∃ (n8 : Int), (∃ (xs5 : List (List Da)), (∃ (b1 : Bool), (XC Try.prog 58 [(.dat [(.int .i64 n5), (.int .i64 n6), (.sl xs3)]), (L xs4)] [] (.tup [(.agg [(.d (.int .i64 n7)), (.d (.int .i64 n8)), (.ol 0)]), (B b1)]) [(0, (.tr 49 3 xs5))] ∧ (∃ (b2 : Bool), (XC Try.prog 52 [(.dat [(.int .i64 n7), (.int .i64 n8), (.sl xs5)]), (.dat [(.int .i64 n3), (.int .i64 n4), (.sl xs2)])] [] (B b2) [] ∧ ifB (!b2)
  (((B (false)) = r ∧ [] = O))
  (ifB (decide (b1 ≠ b))
  (((B (false)) = r ∧ [] = O))
  ((∃ (n9 : Int), (∃ (n10 : Int), (∃ (xs6 : List (List Da)), (XC Try.prog 49 [(.dat [(.int .i64 p), (.int .i64 p1), (.sl p2)])] [] (.agg [(.d (.int .i64 n9)), (.d (.int .i64 n10)), (.ol 0)]) [(0, (.tr 49 3 xs6))] ∧ (∃ (b3 : Bool), (XC Try.prog 52 [(.dat [(.int .i64 n5), (.int .i64 n6), (.sl xs3)]), (.dat [(.int .i64 n9), (.int .i64 n10), (.sl xs6)])] [] (B b3) [] ∧ ifB (!b3)
  (((B (false)) = r ∧ [] = O))
  ((∃ (xs7 : List (List Da)), (XC Try.prog 57 [(L p_1)] [] (.one (.ol 0)) [(0, (.tr 3 1 xs7))] ∧ (∃ (b4 : Bool), (XC Try.prog 33 [(L xs4), (L xs7)] [] (B b4) [] ∧ ifB (!b4)
  (((B (false)) = r ∧ [] = O))
  ((∃ (n11 : Int), (∃ (xs8 : List (List Da)), (XC Try.prog 53 [(.agg [(.d (.int .i64 n5)), (.d (.int .i64 n6)), (.ol 2000)]), (Z ((1 : Int)))] [(2000, (.mt 49 3 xs3))] (Z n11) [(2000, (.mt 49 3 xs8))] ∧ (∃ (n12 : Int), (∃ (xs9 : List (List Da)), (XC Try.prog 34 [(.one (.ol 2000)), (Z n11)] [(2000, (.mt 3 1 xs4))] (Z n12) [(2000, (.mt 3 1 xs9))] ∧ ifB (decide (n12 < (0 : Int)))
  (((B (false)) = r ∧ [] = O))
  ((∃ (b5 : Bool), (XC Try.prog 52 [(.dat [(.int .i64 n7), (.int .i64 n8), (.sl xs5)]), (.dat [(.int .i64 n3), (.int .i64 n4), (.sl xs2)])] [] (B b5) [] ∧ ifB (!b5)
  (((B (false)) = r ∧ [] = O))
  (ifB (decide (b1 ≠ b))
  (((B (false)) = r ∧ [] = O))
  ((∃ (n13 : Int), (∃ (xs10 : List (List Da)), (XC Try.prog 53 [(.agg [(.d (.int .i64 n7)), (.d (.int .i64 n8)), (.ol 2000)]), (Z ((1 : Int)))] [(2000, (.mt 49 3 xs5))] (Z n13) [(2000, (.mt 49 3 xs10))] ∧ (∃ (n14 : Int), (XC Try.prog 59 [(.dat [(.int .i64 n7), (.int .i64 n8), (.sl xs10)]), (Z ((1 : Int)))] [] (Z n14) [] ∧ ifB (decide (n14 < (0 : Int)))
  (((B (false)) = r ∧ [] = O))
  (ifB (decide (n14 ≠ n13))
  (((B (false)) = r ∧ [] = O))
  ((∃ (n15 : Int), (∃ (n16 : Int), (∃ (xs11 : List (List Da)), (XC Try.prog 49 [(.dat [(.int .i64 p), (.int .i64 p1), (.sl p2)])] [] (.agg [(.d (.int .i64 n15)), (.d (.int .i64 n16)), (.ol 0)]) [(0, (.tr 49 3 xs11))] ∧ (∃ (xs12 : List (List Da)), (XC Try.prog 57 [(L p_1)] [] (.one (.ol 0)) [(0, (.tr 3 1 xs12))] ∧ (∃ (n17 : Int), (∃ (n18 : Int), (∃ (xs13 : List (List Da)), (∃ (b6 : Bool), (XC Try.prog 58 [(.dat [(.int .i64 n15), (.int .i64 n16), (.sl xs11)]), (L xs12)] [] (.tup [(.agg [(.d (.int .i64 n17)), (.d (.int .i64 n18)), (.ol 0)]), (B b6)]) [(0, (.tr 49 3 xs13))] ∧ (∃ (b7 : Bool), (XC Try.prog 52 [(.dat [(.int .i64 n17), (.int .i64 n18), (.sl xs13)]), (.dat [(.int .i64 n3), (.int .i64 n4), (.sl xs2)])] [] (B b7) [] ∧ ifB (!b7)
  (((B (false)) = r ∧ [] = O))
  (ifB (decide (b6 ≠ b))
  (((B (false)) = r ∧ [] = O))
  ((∃ (n19 : Int), (XC Try.prog 59 [(.dat [(.int .i64 n7), (.int .i64 n8), (.sl xs10)]), (Z ((1 : Int)))] [] (Z n19) [] ∧ ifB (decide (n19 < (0 : Int)))
  (((B (false)) = r ∧ [] = O))
  (ifB (decide (n19 ≠ n13))
  (((B (false)) = r ∧ [] = O))
  (((B (true)) = r ∧ [] = O))))))))))))))))))))))))))))))))))))))))))))))))))))))))))))))))))))))))))))))))) : XC Try.prog 9 [.dat [.int .i64 p, .int .i64 p1, .sl p2], .one (.d (.sl p_1))] [] r O :=
  xc_of (E := envL) (hs := laws_FnExactAt_h) (c := (bodyOf Try.f9)) (n := 117) (res := [.tmp 4]) (rs := .c .b) (ks := []) (dir := []) envLOk mixed rfl Try.func9 (by kernel_rfl) (by kernel_rfl) (by kernel_rfl) (by kernel_rfl) (to_vc (by kernel_rfl) h)

/-- loop.example/g00461/laws.FnExactShift -/
def laws_FnExactShift_h : Hints := ⟨[], []⟩
theorem laws_FnExactShift_of {p : List (List Da)} {p_1 : Int} {r : AV} {O : List (Nat × Ob)} (h : (∃ (n : Int), (XC Try.prog 16 [(.dat [(.sl p)]), (Z ((1048576 : Int)))] [] (Z n) [] ∧ ifB (decide (n < (0 : Int)))
  (((B (true)) = r ∧ [] = O))
  ((∃ (xs : List (List Da)), (XC Try.prog 19 [(.dat [(.sl p)])] [] (.agg [(.ol 0)]) [(0, (.tr 90 7 xs))] ∧ (∃ (xs1 : List (List Da)), (XC Try.prog 60 [(.dat [(.sl xs)]), (Z p_1)] [] (.dat [(.sl xs1)]) [] ∧ (∃ (xs2 : List (List Da)), (XC Try.prog 19 [(.dat [(.sl p)])] [] (.agg [(.ol 0)]) [(0, (.tr 90 7 xs2))] ∧ (∃ (xs3 : List (List Da)), (XC Try.prog 61 [(.dat [(.sl xs2)]), (Z p_1)] [] (.agg [(.ol 0)]) [(0, (.tr 90 7 xs3))] ∧ (∃ (b : Bool), (XC Try.prog 21 [(.dat [(.sl xs3)]), (.dat [(.sl xs1)])] [] (B b) [] ∧ ifB (!b)
  (((B (false)) = r ∧ [] = O))
  ((∃ (xs4 : List (List Da)), (XC Try.prog 19 [(.dat [(.sl p)])] [] (.agg [(.ol 0)]) [(0, (.tr 90 7 xs4))] ∧ (∃ (b1 : Bool), (XC Try.prog 21 [(.dat [(.sl xs2)]), (.dat [(.sl xs4)])] [] (B b1) [] ∧ ifB (!b1)
  (((B (false)) = r ∧ [] = O))
  ((∃ (n1 : Int), (∃ (xs5 : List (List Da)), (XC Try.prog 24 [(.agg [(.ol 2000)]), (Z ((1 : Int)))] [(2000, (.mt 90 7 xs2))] (Z n1) [(2000, (.mt 90 7 xs5))] ∧ ifB (decide (n1 < (0 : Int)))
  (((B (false)) = r ∧ [] = O))
  ((∃ (b2 : Bool), (XC Try.prog 21 [(.dat [(.sl xs3)]), (.dat [(.sl xs1)])] [] (B b2) [] ∧ ifB (!b2)
  (((B (false)) = r ∧ [] = O))
  ((∃ (n2 : Int), (∃ (xs6 : List (List Da)), (XC Try.prog 24 [(.agg [(.ol 2000)]), (Z ((1 : Int)))] [(2000, (.mt 90 7 xs3))] (Z n2) [(2000, (.mt 90 7 xs6))] ∧ (∃ (n3 : Int), (XC Try.prog 25 [(.dat [(.sl xs6)]), (Z ((1 : Int)))] [] (Z n3) [] ∧ ifB (decide (n3 < (0 : Int)))
  (((B (false)) = r ∧ [] = O))
  (ifB (decide (n3 ≠ n2))
  (((B (false)) = r ∧ [] = O))
  ((∃ (xs7 : List (List Da)), (XC Try.prog 19 [(.dat [(.sl p)])] [] (.agg [(.ol 0)]) [(0, (.tr 90 7 xs7))] ∧ (∃ (xs8 : List (List Da)), (XC Try.prog 61 [(.dat [(.sl xs7)]), (Z p_1)] [] (.agg [(.ol 0)]) [(0, (.tr 90 7 xs8))] ∧ (∃ (b3 : Bool), (XC Try.prog 21 [(.dat [(.sl xs8)]), (.dat [(.sl xs1)])] [] (B b3) [] ∧ ifB (!b3)
  (((B (false)) = r ∧ [] = O))
  ((∃ (n4 : Int), (XC Try.prog 25 [(.dat [(.sl xs6)]), (Z ((1 : Int)))] [] (Z n4) [] ∧ ifB (decide (n4 < (0 : Int)))
  (((B (false)) = r ∧ [] = O))
  (ifB (decide (n4 ≠ n2))
  (((B (false)) = r ∧ [] = O))
  (((B (true)) = r ∧ [] = O)))))))))))))))))))))))))))))))))))))))))))))) : XC Try.prog 10 [.dat [.sl p], .one (.d (.int .i64 p_1))] [] r O :=
  xc_of (E := envL) (hs := laws_FnExactShift_h) (c := (bodyOf Try.f10)) (n := 74) (res := [.tmp 4]) (rs := .c .b) (ks := []) (dir := []) envLOk mixed rfl Try.func10 (by kernel_rfl) (by kernel_rfl) (by kernel_rfl) (by kernel_rfl) (to_vc (by kernel_rfl) h)

/-- loop.example/g00461/spec.Words -/
def spec_Words_h : Hints := ⟨[(6, ⟨[0, 4, 5, 6], [], [], [], [], [], []⟩), (17, ⟨[0, 4, 5, 6, 8], [], [], [], [], [], []⟩)], []⟩
def spec_Words_L6 (r : AV) (O : List (Nat × Ob)) (s0 : ByteArray) (s6 : Int) (s4 : List (List Da)) (s5 : List (List Da)) : Prop := CL 117 Try.prog (subC (bodyOf Try.f42) [1, 1, 1, 1, 0, 1, 0, 0]) (kont Try.prog env spec_Words_h 117 (bodyOf Try.f42) [1, 1, 1, 1, 0, 1, 0, 0] (vRet env [.tmp 2, .tmp 3] (.t [.o 9 1, .c (.i .i64)]) [] [] r O) (retKE (vRet env [.tmp 2, .tmp 3] (.t [.o 9 1, .c (.i .i64)]) [] [] r O))).1 (kont Try.prog env spec_Words_h 117 (bodyOf Try.f42) [1, 1, 1, 1, 0, 1, 0, 0] (vRet env [.tmp 2, .tmp 3] (.t [.o 9 1, .c (.i .i64)]) [] [] r O) (retKE (vRet env [.tmp 2, .tmp 3] (.t [.o 9 1, .c (.i .i64)]) [] [] r O))).2 ⟨[(0, (T s0)), (4, (.one (.ol 1900))), (5, (.one (.ol 1901))), (6, (Z s6))], [(1900, (.tr 9 1 s4)), (1901, (.tr 9 1 s5))]⟩
def spec_Words_L17 (r : AV) (O : List (Nat × Ob)) (s0 : ByteArray) (s6 : Int) (s8 : Int) (s4 : List (List Da)) (s5 : List (List Da)) : Prop := CL 117 Try.prog (subC (bodyOf Try.f42) [1, 1, 1, 1, 0, 1, 0, 0, 1, 0, 1, 1, 1, 0, 0, 0]) (kont Try.prog env spec_Words_h 117 (bodyOf Try.f42) [1, 1, 1, 1, 0, 1, 0, 0, 1, 0, 1, 1, 1, 0, 0, 0] (vRet env [.tmp 2, .tmp 3] (.t [.o 9 1, .c (.i .i64)]) [] [] r O) (retKE (vRet env [.tmp 2, .tmp 3] (.t [.o 9 1, .c (.i .i64)]) [] [] r O))).1 (kont Try.prog env spec_Words_h 117 (bodyOf Try.f42) [1, 1, 1, 1, 0, 1, 0, 0, 1, 0, 1, 1, 1, 0, 0, 0] (vRet env [.tmp 2, .tmp 3] (.t [.o 9 1, .c (.i .i64)]) [] [] r O) (retKE (vRet env [.tmp 2, .tmp 3] (.t [.o 9 1, .c (.i .i64)]) [] [] r O))).2 ⟨[(0, (T s0)), (4, (.one (.ol 1900))), (5, (.one (.ol 1901))), (6, (Z s6)), (8, (Z s8))], [(1900, (.tr 9 1 s4)), (1901, (.tr 9 1 s5))]⟩
theorem spec_Words_L6_of {r : AV} {O : List (Nat × Ob)} {s0 : ByteArray} {s6 : Int} {s4 : List (List Da)} {s5 : List (List Da)} (h : ifB (decide (s6 < (↑(ByteArray.size s0) : Int)))
  ((∃ (n : Nat), (∃ (b : UInt8), (s6 = ((↑n : Int)) ∧ ((s0[n]?) = some b ∧ ifB (decide ((↑(UInt8.toNat b) : Int) = (32 : Int)))
  (spec_Words_L6 r O s0 (IntKind.wrap IntKind.i64 (s6 + (1 : Int))) s4 s5)
  (ifB (decide ((↑(UInt8.toNat b) : Int) = (10 : Int)))
  (spec_Words_L6 r O s0 (IntKind.wrap IntKind.i64 (s6 + (1 : Int))) s4 s5)
  (ifB (decide ((↑(UInt8.toNat b) : Int) = (40 : Int)))
  ((∃ (n1 : Nat), (s6 = ((↑n1 : Int)) ∧ (∃ (n2 : Nat), ((IntKind.wrap IntKind.i64 (s6 + (1 : Int))) = ((↑n2 : Int)) ∧ (Do (n1 ≤ n2 ∧ n2 ≤ ByteArray.size s0) ∧ (Do ((List.length s5 + List.length [[Da.str (ByteArray.extract s0 n1 n2)]]) * (16 : Nat) ≤ (140737488355328 : Nat)) ∧ spec_Words_L6 r O s0 (IntKind.wrap IntKind.i64 (s6 + (1 : Int))) s4 (s5 ++ [[Da.str (ByteArray.extract s0 n1 n2)]]))))))))
  (ifB (decide ((↑(UInt8.toNat b) : Int) = (41 : Int)))
  ((∃ (n3 : Nat), (s6 = ((↑n3 : Int)) ∧ (∃ (n4 : Nat), ((IntKind.wrap IntKind.i64 (s6 + (1 : Int))) = ((↑n4 : Int)) ∧ (Do (n3 ≤ n4 ∧ n4 ≤ ByteArray.size s0) ∧ (Do ((List.length s5 + List.length [[Da.str (ByteArray.extract s0 n3 n4)]]) * (16 : Nat) ≤ (140737488355328 : Nat)) ∧ spec_Words_L6 r O s0 (IntKind.wrap IntKind.i64 (s6 + (1 : Int))) s4 (s5 ++ [[Da.str (ByteArray.extract s0 n3 n4)]]))))))))
  (ifB (decide ((↑(UInt8.toNat b) : Int) = (44 : Int)))
  ((∃ (n5 : Nat), (s6 = ((↑n5 : Int)) ∧ (∃ (n6 : Nat), ((IntKind.wrap IntKind.i64 (s6 + (1 : Int))) = ((↑n6 : Int)) ∧ (Do (n5 ≤ n6 ∧ n6 ≤ ByteArray.size s0) ∧ (Do ((List.length s5 + List.length [[Da.str (ByteArray.extract s0 n5 n6)]]) * (16 : Nat) ≤ (140737488355328 : Nat)) ∧ spec_Words_L6 r O s0 (IntKind.wrap IntKind.i64 (s6 + (1 : Int))) s4 (s5 ++ [[Da.str (ByteArray.extract s0 n5 n6)]]))))))))
  (ifB (decide ((↑(UInt8.toNat b) : Int) = (46 : Int)))
  ((∃ (n7 : Nat), (s6 = ((↑n7 : Int)) ∧ (∃ (n8 : Nat), ((IntKind.wrap IntKind.i64 (s6 + (1 : Int))) = ((↑n8 : Int)) ∧ (Do (n7 ≤ n8 ∧ n8 ≤ ByteArray.size s0) ∧ (Do ((List.length s5 + List.length [[Da.str (ByteArray.extract s0 n7 n8)]]) * (16 : Nat) ≤ (140737488355328 : Nat)) ∧ spec_Words_L6 r O s0 (IntKind.wrap IntKind.i64 (s6 + (1 : Int))) s4 (s5 ++ [[Da.str (ByteArray.extract s0 n7 n8)]]))))))))
  (ifB (decide ((↑(UInt8.toNat b) : Int) = (61 : Int)))
  ((∃ (n9 : Nat), (s6 = ((↑n9 : Int)) ∧ (∃ (n10 : Nat), ((IntKind.wrap IntKind.i64 (s6 + (1 : Int))) = ((↑n10 : Int)) ∧ (Do (n9 ≤ n10 ∧ n10 ≤ ByteArray.size s0) ∧ (Do ((List.length s5 + List.length [[Da.str (ByteArray.extract s0 n9 n10)]]) * (16 : Nat) ≤ (140737488355328 : Nat)) ∧ spec_Words_L6 r O s0 (IntKind.wrap IntKind.i64 (s6 + (1 : Int))) s4 (s5 ++ [[Da.str (ByteArray.extract s0 n9 n10)]]))))))))
  (ifB (decide ((↑(UInt8.toNat b) : Int) = (124 : Int)))
  ((∃ (n11 : Nat), (s6 = ((↑n11 : Int)) ∧ (∃ (n12 : Nat), ((IntKind.wrap IntKind.i64 (s6 + (1 : Int))) = ((↑n12 : Int)) ∧ (Do (n11 ≤ n12 ∧ n12 ≤ ByteArray.size s0) ∧ (Do ((List.length s5 + List.length [[Da.str (ByteArray.extract s0 n11 n12)]]) * (16 : Nat) ≤ (140737488355328 : Nat)) ∧ spec_Words_L6 r O s0 (IntKind.wrap IntKind.i64 (s6 + (1 : Int))) s4 (s5 ++ [[Da.str (ByteArray.extract s0 n11 n12)]]))))))))
  (ifB (decide ((↑(UInt8.toNat b) : Int) = (126 : Int)))
  ((∃ (n13 : Nat), (s6 = ((↑n13 : Int)) ∧ (∃ (n14 : Nat), ((IntKind.wrap IntKind.i64 (s6 + (1 : Int))) = ((↑n14 : Int)) ∧ (Do (n13 ≤ n14 ∧ n14 ≤ ByteArray.size s0) ∧ (Do ((List.length s5 + List.length [[Da.str (ByteArray.extract s0 n13 n14)]]) * (16 : Nat) ≤ (140737488355328 : Nat)) ∧ spec_Words_L6 r O s0 (IntKind.wrap IntKind.i64 (s6 + (1 : Int))) s4 (s5 ++ [[Da.str (ByteArray.extract s0 n13 n14)]]))))))))
  (ifB (decide ((↑(UInt8.toNat b) : Int) = (33 : Int)))
  (ifB (decide (IntKind.wrap IntKind.i64 (s6 + (1 : Int)) < (↑(ByteArray.size s0) : Int)))
  ((∃ (n15 : Nat), (∃ (b1 : UInt8), ((IntKind.wrap IntKind.i64 (s6 + (1 : Int))) = ((↑n15 : Int)) ∧ ((s0[n15]?) = some b1 ∧ ifB (decide ((↑(UInt8.toNat b1) : Int) = (61 : Int)))
  ((Do ((List.length s5 + List.length [[Da.str { data := #[(33 : UInt8), (61 : UInt8)] }]]) * (16 : Nat) ≤ (140737488355328 : Nat)) ∧ spec_Words_L6 r O s0 (IntKind.wrap IntKind.i64 (s6 + (2 : Int))) s4 (s5 ++ [[Da.str { data := #[(33 : UInt8), (61 : UInt8)] }]])))
  (spec_Words_L17 r O s0 s6 s6 s4 s5))))))
  (spec_Words_L17 r O s0 s6 s6 s4 s5))
  (spec_Words_L17 r O s0 s6 s6 s4 s5)))))))))))))))
  (((.tup [(.one (.ol 0)), (Z ((-1 : Int)))]) = r ∧ [(0, (.tr 9 1 s5))] = O))) : spec_Words_L6 r O s0 s6 s4 s5 := by
  unfold spec_Words_L6
  refine cl_of (E := env) (hs := spec_Words_h) envOk mixed ?_
  exact to_vc (by kernel_rfl) h
theorem spec_Words_L17_of {r : AV} {O : List (Nat × Ob)} {s0 : ByteArray} {s6 : Int} {s8 : Int} {s4 : List (List Da)} {s5 : List (List Da)} (h : ifB (decide (s8 < (↑(ByteArray.size s0) : Int)))
  ((∃ (n : Nat), (∃ (b : UInt8), (s8 = ((↑n : Int)) ∧ ((s0[n]?) = some b ∧ (∃ (b1 : Bool), (XC Try.prog 118 [(I .u8 ((↑(UInt8.toNat b) : Int)))] [] (B b1) [] ∧ ifB b1
  (spec_Words_L17 r O s0 s6 (IntKind.wrap IntKind.i64 (s8 + (1 : Int))) s4 s5)
  (ifB (decide (s8 = s6))
  (((.tup [(.one (.ol 0)), (Z s6)]) = r ∧ [(0, (.tr 9 1 s4))] = O))
  ((∃ (n1 : Nat), (s6 = ((↑n1 : Int)) ∧ (∃ (n2 : Nat), (s8 = ((↑n2 : Int)) ∧ (Do (n1 ≤ n2 ∧ n2 ≤ ByteArray.size s0) ∧ (Do ((List.length s5 + List.length [[Da.str (ByteArray.extract s0 n1 n2)]]) * (16 : Nat) ≤ (140737488355328 : Nat)) ∧ spec_Words_L6 r O s0 s8 s4 (s5 ++ [[Da.str (ByteArray.extract s0 n1 n2)]]))))))))))))))))
  (ifB (decide (s8 = s6))
  (((.tup [(.one (.ol 0)), (Z s6)]) = r ∧ [(0, (.tr 9 1 s4))] = O))
  ((∃ (n3 : Nat), (s6 = ((↑n3 : Int)) ∧ (∃ (n4 : Nat), (s8 = ((↑n4 : Int)) ∧ (Do (n3 ≤ n4 ∧ n4 ≤ ByteArray.size s0) ∧ (Do ((List.length s5 + List.length [[Da.str (ByteArray.extract s0 n3 n4)]]) * (16 : Nat) ≤ (140737488355328 : Nat)) ∧ spec_Words_L6 r O s0 s8 s4 (s5 ++ [[Da.str (ByteArray.extract s0 n3 n4)]])))))))))) : spec_Words_L17 r O s0 s6 s8 s4 s5 := by
  unfold spec_Words_L17
  refine cl_of (E := env) (hs := spec_Words_h) envOk mixed ?_
  exact to_vc (by kernel_rfl) h
theorem spec_Words_of {p : ByteArray} {r : AV} {O : List (Nat × Ob)} (h : ifB (decide ((3000 : Int) < (↑(ByteArray.size p) : Int)))
  (((.tup [(.one (.ol 0)), (Z ((0 : Int)))]) = r ∧ [(0, (.tr 9 1 []))] = O))
  (spec_Words_L6 r O p ((0 : Int)) [] [])) : XC Try.prog 42 [(T p)] [] r O :=
  xc_of (E := env) (hs := spec_Words_h) (c := (bodyOf Try.f42)) (n := 117) (res := [.tmp 2, .tmp 3]) (rs := .t [.o 9 1, .c (.i .i64)]) (ks := []) (dir := []) envOk mixed rfl Try.func42 (by kernel_rfl) (by kernel_rfl) (by kernel_rfl) (by kernel_rfl) (to_vc (by kernel_rfl) h)

/-- loop.example/g00461/impl.Words -/
def impl_Words_h : Hints := ⟨[(5, ⟨[0, 4, 5], [], [], [], [], [], []⟩), (12, ⟨[0, 4, 5, 6], [], [], [], [], [], []⟩)], []⟩
def impl_Words_L5 (r : AV) (O : List (Nat × Ob)) (s0 : ByteArray) (s5 : Int) (s4 : List (List Da)) : Prop := CL 74 Try.prog (subC (bodyOf Try.f43) [1, 1, 1, 0, 1, 0, 0]) (kont Try.prog env impl_Words_h 74 (bodyOf Try.f43) [1, 1, 1, 0, 1, 0, 0] (vRet env [.tmp 2, .tmp 3] (.t [.o 9 1, .c (.i .i64)]) [] [] r O) (retKE (vRet env [.tmp 2, .tmp 3] (.t [.o 9 1, .c (.i .i64)]) [] [] r O))).1 (kont Try.prog env impl_Words_h 74 (bodyOf Try.f43) [1, 1, 1, 0, 1, 0, 0] (vRet env [.tmp 2, .tmp 3] (.t [.o 9 1, .c (.i .i64)]) [] [] r O) (retKE (vRet env [.tmp 2, .tmp 3] (.t [.o 9 1, .c (.i .i64)]) [] [] r O))).2 ⟨[(0, (T s0)), (4, (.one (.ol 1900))), (5, (Z s5))], [(1900, (.tr 9 1 s4))]⟩
def impl_Words_L12 (r : AV) (O : List (Nat × Ob)) (s0 : ByteArray) (s5 : Int) (s6 : Int) (s4 : List (List Da)) : Prop := CL 74 Try.prog (subC (bodyOf Try.f43) [1, 1, 1, 0, 1, 0, 0, 1, 0, 1, 0, 0, 1, 1, 1, 1, 1, 0, 0, 0]) (kont Try.prog env impl_Words_h 74 (bodyOf Try.f43) [1, 1, 1, 0, 1, 0, 0, 1, 0, 1, 0, 0, 1, 1, 1, 1, 1, 0, 0, 0] (vRet env [.tmp 2, .tmp 3] (.t [.o 9 1, .c (.i .i64)]) [] [] r O) (retKE (vRet env [.tmp 2, .tmp 3] (.t [.o 9 1, .c (.i .i64)]) [] [] r O))).1 (kont Try.prog env impl_Words_h 74 (bodyOf Try.f43) [1, 1, 1, 0, 1, 0, 0, 1, 0, 1, 0, 0, 1, 1, 1, 1, 1, 0, 0, 0] (vRet env [.tmp 2, .tmp 3] (.t [.o 9 1, .c (.i .i64)]) [] [] r O) (retKE (vRet env [.tmp 2, .tmp 3] (.t [.o 9 1, .c (.i .i64)]) [] [] r O))).2 ⟨[(0, (T s0)), (4, (.one (.ol 1900))), (5, (Z s5)), (6, (Z s6))], [(1900, (.tr 9 1 s4))]⟩
theorem impl_Words_L5_of {r : AV} {O : List (Nat × Ob)} {s0 : ByteArray} {s5 : Int} {s4 : List (List Da)} (h : ifB (decide (s5 < (↑(ByteArray.size s0) : Int)))
  ((∃ (n : Nat), (∃ (b : UInt8), (s5 = ((↑n : Int)) ∧ ((s0[n]?) = some b ∧ ifB (decide ((↑(UInt8.toNat b) : Int) = (32 : Int)))
  (impl_Words_L5 r O s0 (IntKind.wrap IntKind.i64 (s5 + (1 : Int))) s4)
  ((∃ (n1 : Nat), (∃ (b1 : UInt8), (s5 = ((↑n1 : Int)) ∧ ((s0[n1]?) = some b1 ∧ ifB (decide ((↑(UInt8.toNat b1) : Int) = (10 : Int)))
  (impl_Words_L5 r O s0 (IntKind.wrap IntKind.i64 (s5 + (1 : Int))) s4)
  ((∃ (n2 : Nat), (s5 = ((↑n2 : Int)) ∧ (Do (n2 ≤ ByteArray.size s0 ∧ ByteArray.size s0 ≤ ByteArray.size s0) ∧ (∃ (b2 : Bool), (XC Try.prog 119 [(T (ByteArray.extract s0 n2 (ByteArray.size s0))), (T ({ data := #[(33 : UInt8), (61 : UInt8)] }))] [] (B b2) [] ∧ ifB b2
  ((∃ (n3 : Nat), (s5 = ((↑n3 : Int)) ∧ (∃ (n4 : Nat), ((IntKind.wrap IntKind.i64 (s5 + (2 : Int))) = ((↑n4 : Int)) ∧ (Do (n3 ≤ n4 ∧ n4 ≤ ByteArray.size s0) ∧ (Do ((List.length s4 + List.length [[Da.str (ByteArray.extract s0 n3 n4)]]) * (16 : Nat) ≤ (140737488355328 : Nat)) ∧ impl_Words_L5 r O s0 (IntKind.wrap IntKind.i64 (s5 + (2 : Int))) (s4 ++ [[Da.str (ByteArray.extract s0 n3 n4)]]))))))))
  ((∃ (n5 : Nat), (∃ (b3 : UInt8), (s5 = ((↑n5 : Int)) ∧ ((s0[n5]?) = some b3 ∧ (∃ (b4 : Bool), (XC Try.prog 120 [(I .u8 ((↑(UInt8.toNat b3) : Int)))] [] (B b4) [] ∧ ifB b4
  (impl_Words_L12 r O s0 s5 ((1 : Int)) s4)
  ((∃ (n6 : Nat), (∃ (b5 : UInt8), (s5 = ((↑n6 : Int)) ∧ ((s0[n6]?) = some b5 ∧ (∃ (n7 : Int), (XC Try.prog 121 [(T ({ data := #[(40 : UInt8), (41 : UInt8), (44 : UInt8), (46 : UInt8), (61 : UInt8), (124 : UInt8), (126 : UInt8)] })), (I .u8 ((↑(UInt8.toNat b5) : Int)))] [] (Z n7) [] ∧ ifB (decide (n7 < (0 : Int)))
  (((.tup [(.one (.ol 0)), (Z s5)]) = r ∧ [(0, (.tr 9 1 []))] = O))
  ((∃ (n8 : Nat), (s5 = ((↑n8 : Int)) ∧ (∃ (n9 : Nat), ((IntKind.wrap IntKind.i64 (s5 + (1 : Int))) = ((↑n9 : Int)) ∧ (Do (n8 ≤ n9 ∧ n9 ≤ ByteArray.size s0) ∧ (Do ((List.length s4 + List.length [[Da.str (ByteArray.extract s0 n8 n9)]]) * (16 : Nat) ≤ (140737488355328 : Nat)) ∧ impl_Words_L5 r O s0 (IntKind.wrap IntKind.i64 (s5 + (1 : Int))) (s4 ++ [[Da.str (ByteArray.extract s0 n8 n9)]]))))))))))))))))))))))))))))))))))))))
  (((.tup [(.one (.ol 0)), (Z ((-1 : Int)))]) = r ∧ [(0, (.tr 9 1 s4))] = O))) : impl_Words_L5 r O s0 s5 s4 := by
  unfold impl_Words_L5
  refine cl_of (E := env) (hs := impl_Words_h) envOk mixed ?_
  exact to_vc (by kernel_rfl) h
theorem impl_Words_L12_of {r : AV} {O : List (Nat × Ob)} {s0 : ByteArray} {s5 : Int} {s6 : Int} {s4 : List (List Da)} (h : ifB (decide (IntKind.wrap IntKind.i64 (s5 + s6) < (↑(ByteArray.size s0) : Int)))
  ((∃ (n : Nat), (∃ (b : UInt8), ((IntKind.wrap IntKind.i64 (s5 + s6)) = ((↑n : Int)) ∧ ((s0[n]?) = some b ∧ (∃ (b1 : Bool), (XC Try.prog 120 [(I .u8 ((↑(UInt8.toNat b) : Int)))] [] (B b1) [] ∧ ifB b1
  (impl_Words_L12 r O s0 s5 (IntKind.wrap IntKind.i64 (s6 + (1 : Int))) s4)
  ((∃ (n1 : Nat), (s5 = ((↑n1 : Int)) ∧ (∃ (n2 : Nat), ((IntKind.wrap IntKind.i64 (s5 + s6)) = ((↑n2 : Int)) ∧ (Do (n1 ≤ n2 ∧ n2 ≤ ByteArray.size s0) ∧ (Do ((List.length s4 + List.length [[Da.str (ByteArray.extract s0 n1 n2)]]) * (16 : Nat) ≤ (140737488355328 : Nat)) ∧ impl_Words_L5 r O s0 (IntKind.wrap IntKind.i64 (s5 + s6)) (s4 ++ [[Da.str (ByteArray.extract s0 n1 n2)]])))))))))))))))
  ((∃ (n3 : Nat), (s5 = ((↑n3 : Int)) ∧ (∃ (n4 : Nat), ((IntKind.wrap IntKind.i64 (s5 + s6)) = ((↑n4 : Int)) ∧ (Do (n3 ≤ n4 ∧ n4 ≤ ByteArray.size s0) ∧ (Do ((List.length s4 + List.length [[Da.str (ByteArray.extract s0 n3 n4)]]) * (16 : Nat) ≤ (140737488355328 : Nat)) ∧ impl_Words_L5 r O s0 (IntKind.wrap IntKind.i64 (s5 + s6)) (s4 ++ [[Da.str (ByteArray.extract s0 n3 n4)]]))))))))) : impl_Words_L12 r O s0 s5 s6 s4 := by
  unfold impl_Words_L12
  refine cl_of (E := env) (hs := impl_Words_h) envOk mixed ?_
  exact to_vc (by kernel_rfl) h
theorem impl_Words_of {p : ByteArray} {r : AV} {O : List (Nat × Ob)} (h : ifB (decide ((3000 : Int) < (↑(ByteArray.size p) : Int)))
  (((.tup [(.one (.ol 0)), (Z ((0 : Int)))]) = r ∧ [(0, (.tr 9 1 []))] = O))
  (impl_Words_L5 r O p ((0 : Int)) [])) : XC Try.prog 43 [(T p)] [] r O :=
  xc_of (E := env) (hs := impl_Words_h) (c := (bodyOf Try.f43)) (n := 74) (res := [.tmp 2, .tmp 3]) (rs := .t [.o 9 1, .c (.i .i64)]) (ks := []) (dir := []) envOk mixed rfl Try.func43 (by kernel_rfl) (by kernel_rfl) (by kernel_rfl) (by kernel_rfl) (to_vc (by kernel_rfl) h)

/-- loop.example/g00461/laws.eqStringS -/
def laws_eqStringS_h : Hints := ⟨[(4, ⟨[0, 1, 5], [], [], [], [], [], []⟩)], []⟩
def laws_eqStringS_L4 (r : AV) (O : List (Nat × Ob)) (a : List (List Da)) (b : List (List Da)) (i : Int) : Prop := CL 26 Try.prog (subC (bodyOf Try.f44) [1, 1, 0, 1, 0, 0]) (kont Try.prog env laws_eqStringS_h 26 (bodyOf Try.f44) [1, 1, 0, 1, 0, 0] (vRet env [.tmp 4] (.c .b) [] [] r O) (retKE (vRet env [.tmp 4] (.c .b) [] [] r O))).1 (kont Try.prog env laws_eqStringS_h 26 (bodyOf Try.f44) [1, 1, 0, 1, 0, 0] (vRet env [.tmp 4] (.c .b) [] [] r O) (retKE (vRet env [.tmp 4] (.c .b) [] [] r O))).2 ⟨[(0, (L a)), (1, (L b)), (5, (Z i))], []⟩
theorem laws_eqStringS_L4_of {r : AV} {O : List (Nat × Ob)} {a : List (List Da)} {b : List (List Da)} {i : Int} (h : ifB (decide (i < (↑(List.length a) : Int)))
  ((∃ (m : Nat), (i = ((↑m : Int)) ∧ (∃ (q : ByteArray), ((a[m]?) = some [(.str q)] ∧ (∃ (m1 : Nat), (i = ((↑m1 : Int)) ∧ (∃ (q1 : ByteArray), ((b[m1]?) = some [(.str q1)] ∧ ifB (decide (q ≠ q1))
  (((B (false)) = r ∧ [] = O))
  (laws_eqStringS_L4 r O a b (IntKind.wrap IntKind.i64 (i + (1 : Int)))))))))))))
  (((B (true)) = r ∧ [] = O))) : laws_eqStringS_L4 r O a b i := by
  unfold laws_eqStringS_L4
  refine cl_of (E := env) (hs := laws_eqStringS_h) envOk mixed ?_
  exact to_vc (by kernel_rfl) h
theorem laws_eqStringS_of {a : List (List Da)} {b : List (List Da)} {r : AV} {O : List (Nat × Ob)} (h : ifB (decide ((↑(List.length a) : Int) ≠ (↑(List.length b) : Int)))
  (((B (false)) = r ∧ [] = O))
  (laws_eqStringS_L4 r O a b ((0 : Int)))) : XC Try.prog 44 [(L a), (L b)] [] r O :=
  xc_of (E := env) (hs := laws_eqStringS_h) (c := (bodyOf Try.f44)) (n := 26) (res := [.tmp 4]) (rs := .c .b) (ks := []) (dir := []) envOk mixed rfl Try.func44 (by kernel_rfl) (by kernel_rfl) (by kernel_rfl) (by kernel_rfl) (to_vc (by kernel_rfl) h)

/-- loop.example/g00461/laws.markStringS -/
def laws_markStringS_h : Hints := ⟨[(2, ⟨[0, 1, 5], [], [], [], [], [], []⟩)], []⟩
def laws_markStringS_L2 (r : AV) (O : List (Nat × Ob)) (k : Int) (i : Int) (a : List (List Da)) : Prop := CL 20 Try.prog (subC (bodyOf Try.f45) [1, 0, 1, 0, 0]) (kont Try.prog env laws_markStringS_h 20 (bodyOf Try.f45) [1, 0, 1, 0, 0] (vRet env [.tmp 4] (.c (.i .i64)) [(2000, (false))] [2000] r O) (retKE (vRet env [.tmp 4] (.c (.i .i64)) [(2000, (false))] [2000] r O))).1 (kont Try.prog env laws_markStringS_h 20 (bodyOf Try.f45) [1, 0, 1, 0, 0] (vRet env [.tmp 4] (.c (.i .i64)) [(2000, (false))] [2000] r O) (retKE (vRet env [.tmp 4] (.c (.i .i64)) [(2000, (false))] [2000] r O))).2 ⟨[(0, (.one (.ol 2000))), (1, (Z k)), (5, (Z i))], [(2000, (.mt 9 1 a))]⟩
theorem laws_markStringS_L2_of {r : AV} {O : List (Nat × Ob)} {k : Int} {i : Int} {a : List (List Da)} (h : ifB (decide (i < (↑(List.length a) : Int)))
  ((∃ (q : ByteArray), (XC Try.prog 93 [(Z k)] [] (T q) [] ∧ (∃ (m : Nat), (i = ((↑m : Int)) ∧ (Do (m < List.length a) ∧ (∃ (m1 : Nat), ((m * (1 : Nat)) = (m1 * (1 : Nat) + (0 : Nat)) ∧ (∃ (q1 : ByteArray), ((a[m1]?) = some [(.str q1)] ∧ laws_markStringS_L2 r O (IntKind.wrap IntKind.i64 (k + (1 : Int))) (IntKind.wrap IntKind.i64 (i + (1 : Int))) (List.set a m1 ([] ++ [Da.str q] ++ []))))))))))))
  (((Z k) = r ∧ [(2000, (.mt 9 1 a))] = O))) : laws_markStringS_L2 r O k i a := by
  unfold laws_markStringS_L2
  refine cl_of (E := env) (hs := laws_markStringS_h) envOk mixed ?_
  exact to_vc (by kernel_rfl) h
theorem laws_markStringS_of {k : Int} {o2000 : List (List Da)} {r : AV} {O : List (Nat × Ob)} (h : laws_markStringS_L2 r O k ((0 : Int)) o2000) : XC Try.prog 45 [(.one (.ol 2000)), (Z k)] [(2000, (.mt 9 1 o2000))] r O :=
  xc_of (E := env) (hs := laws_markStringS_h) (c := (bodyOf Try.f45)) (n := 20) (res := [.tmp 4]) (rs := .c (.i .i64)) (ks := [(2000, (false))]) (dir := [2000]) envOk mixed rfl Try.func45 (by kernel_rfl) (by kernel_rfl) (by kernel_rfl) (by kernel_rfl) (to_vc (by kernel_rfl) h)

/-- loop.example/g00461/laws.heldStringS -/
def laws_heldStringS_h : Hints := ⟨[(2, ⟨[0, 1, 5], [], [], [], [], [], []⟩)], []⟩
def laws_heldStringS_L2 (r : AV) (O : List (Nat × Ob)) (a : List (List Da)) (k : Int) (i : Int) : Prop := CL 22 Try.prog (subC (bodyOf Try.f46) [1, 0, 1, 0, 0]) (kont Try.prog env laws_heldStringS_h 22 (bodyOf Try.f46) [1, 0, 1, 0, 0] (vRet env [.tmp 4] (.c (.i .i64)) [] [] r O) (retKE (vRet env [.tmp 4] (.c (.i .i64)) [] [] r O))).1 (kont Try.prog env laws_heldStringS_h 22 (bodyOf Try.f46) [1, 0, 1, 0, 0] (vRet env [.tmp 4] (.c (.i .i64)) [] [] r O) (retKE (vRet env [.tmp 4] (.c (.i .i64)) [] [] r O))).2 ⟨[(0, (L a)), (1, (Z k)), (5, (Z i))], []⟩
theorem laws_heldStringS_L2_of {r : AV} {O : List (Nat × Ob)} {a : List (List Da)} {k : Int} {i : Int} (h : ifB (decide (i < (↑(List.length a) : Int)))
  ((∃ (m : Nat), (i = ((↑m : Int)) ∧ (∃ (q : ByteArray), ((a[m]?) = some [(.str q)] ∧ (∃ (q1 : ByteArray), (XC Try.prog 93 [(Z k)] [] (T q1) [] ∧ ifB (decide (q ≠ q1))
  (((Z ((-1 : Int))) = r ∧ [] = O))
  (laws_heldStringS_L2 r O a (IntKind.wrap IntKind.i64 (k + (1 : Int))) (IntKind.wrap IntKind.i64 (i + (1 : Int)))))))))))
  (((Z k) = r ∧ [] = O))) : laws_heldStringS_L2 r O a k i := by
  unfold laws_heldStringS_L2
  refine cl_of (E := env) (hs := laws_heldStringS_h) envOk mixed ?_
  exact to_vc (by kernel_rfl) h
theorem laws_heldStringS_of {a : List (List Da)} {k : Int} {r : AV} {O : List (Nat × Ob)} (h : laws_heldStringS_L2 r O a k ((0 : Int))) : XC Try.prog 46 [(L a), (Z k)] [] r O :=
  xc_of (E := env) (hs := laws_heldStringS_h) (c := (bodyOf Try.f46)) (n := 22) (res := [.tmp 4]) (rs := .c (.i .i64)) (ks := []) (dir := []) envOk mixed rfl Try.func46 (by kernel_rfl) (by kernel_rfl) (by kernel_rfl) (by kernel_rfl) (to_vc (by kernel_rfl) h)

/-- loop.example/g00461/laws.szTerm -/
def laws_szTerm_h : Hints := ⟨[], []⟩
theorem laws_szTerm_of {a : Int} {a1 : Int} {a2 : List (List Da)} {left : Int} {r : AV} {O : List (Nat × Ob)} (h : (∃ (n : Int), (XC Try.prog 122 [(L a2), (Z left)] [] (Z n) [] ∧ ifB (decide (n < (0 : Int)))
  (((Z ((-1 : Int))) = r ∧ [] = O))
  (((Z n) = r ∧ [] = O))))) : XC Try.prog 47 [(.dat [(.int .i64 a), (.int .i64 a1), (.sl a2)]), (Z left)] [] r O :=
  xc_of (E := env) (hs := laws_szTerm_h) (c := (bodyOf Try.f47)) (n := 12) (res := [.tmp 4]) (rs := .c (.i .i64)) (ks := []) (dir := []) envOk mixed rfl Try.func47 (by kernel_rfl) (by kernel_rfl) (by kernel_rfl) (by kernel_rfl) (to_vc (by kernel_rfl) h)

/-- loop.example/g00461/laws.toTerm -/
def laws_toTerm_h : Hints := ⟨[], []⟩
theorem laws_toTerm_of {a : Int} {a1 : Int} {a2 : List (List Da)} {r : AV} {O : List (Nat × Ob)} (h : (∃ (xs : List (List Da)), (XC Try.prog 124 [(L a2)] [] (.one (.ol 0)) [(0, (.tr 49 3 xs))] ∧ ((.agg [(.d (.int .i64 a)), (.d (.int .i64 a1)), (.ol 0)]) = r ∧ [(0, (.tr 49 3 xs))] = O)))) : XC Try.prog 49 [(.dat [(.int .i64 a), (.int .i64 a1), (.sl a2)])] [] r O :=
  xc_of (E := env) (hs := laws_toTerm_h) (c := (bodyOf Try.f49)) (n := 15) (res := [.cell 2 49]) (rs := .s [.k (.i .i64), .k (.i .i64), .o 49 3]) (ks := []) (dir := []) envOk mixed rfl Try.func49 (by kernel_rfl) (by kernel_rfl) (by kernel_rfl) (by kernel_rfl) (to_vc (by kernel_rfl) h)

/-- loop.example/g00461/laws.toIntS -/
def laws_toIntS_h : Hints := ⟨[(3, ⟨[0, 3, 4], [], [], [], [], [], []⟩)], []⟩
def laws_toIntS_L3 (r : AV) (O : List (Nat × Ob)) (a : List (List Da)) (i : Int) (out : List (List Da)) : Prop := CL 22 Try.prog (subC (bodyOf Try.f57) [1, 1, 0, 1, 0, 0]) (kont Try.prog env laws_toIntS_h 22 (bodyOf Try.f57) [1, 1, 0, 1, 0, 0] (vRet env [.tmp 2] (.o 3 1) [] [] r O) (retKE (vRet env [.tmp 2] (.o 3 1) [] [] r O))).1 (kont Try.prog env laws_toIntS_h 22 (bodyOf Try.f57) [1, 1, 0, 1, 0, 0] (vRet env [.tmp 2] (.o 3 1) [] [] r O) (retKE (vRet env [.tmp 2] (.o 3 1) [] [] r O))).2 ⟨[(0, (L a)), (3, (.one (.ol 1900))), (4, (Z i))], [(1900, (.tr 3 1 out))]⟩
theorem laws_toIntS_L3_of {r : AV} {O : List (Nat × Ob)} {a : List (List Da)} {i : Int} {out : List (List Da)} (h : ifB (decide (i < (↑(List.length a) : Int)))
  ((∃ (m : Nat), (i = ((↑m : Int)) ∧ (∃ (n : Int), ((a[m]?) = some [(.int .i64 n)] ∧ (∃ (m1 : Nat), (i = ((↑m1 : Int)) ∧ (Do (m1 < List.length out) ∧ (∃ (m2 : Nat), ((m1 * (1 : Nat)) = (m2 * (1 : Nat) + (0 : Nat)) ∧ (∃ (n1 : Int), ((out[m2]?) = some [(.int .i64 n1)] ∧ laws_toIntS_L3 r O a (IntKind.wrap IntKind.i64 (i + (1 : Int))) (List.set out m2 ([] ++ [Da.int IntKind.i64 n] ++ []))))))))))))))
  (((.one (.ol 0)) = r ∧ [(0, (.tr 3 1 out))] = O))) : laws_toIntS_L3 r O a i out := by
  unfold laws_toIntS_L3
  refine cl_of (E := env) (hs := laws_toIntS_h) envOk mixed ?_
  exact to_vc (by kernel_rfl) h
theorem laws_toIntS_of {a : List (List Da)} {r : AV} {O : List (Nat × Ob)} (h : (∃ (l : Nat), (∃ (c : Nat), (((↑(List.length a) : Int)) = ((↑l : Int)) ∧ (((↑(List.length a) : Int)) = ((↑c : Int)) ∧ (Do (l ≤ c ∧ (8 : Nat) * c ≤ (281474976710656 : Nat) ∧ c ≤ (281474976710656 : Nat)) ∧ laws_toIntS_L3 r O a ((0 : Int)) (List.replicate l [Da.int IntKind.i64 (0 : Int)]))))))) : XC Try.prog 57 [(L a)] [] r O :=
  xc_of (E := env) (hs := laws_toIntS_h) (c := (bodyOf Try.f57)) (n := 22) (res := [.tmp 2]) (rs := .o 3 1) (ks := []) (dir := []) envOk mixed rfl Try.func57 (by kernel_rfl) (by kernel_rfl) (by kernel_rfl) (by kernel_rfl) (to_vc (by kernel_rfl) h)

/-- loop.example/g00461/spec.At -/
def spec_At_h : Hints := ⟨[(2, ⟨[1, 2, 4, 6], [], [], [], [], [], []⟩)], []⟩
def spec_At_L2 (r : AV) (O : List (Nat × Ob)) (way : List (List Da)) (i : Int) (t : Int) (t1 : Int) (t2 : List (List Da)) (s4 : Int) (s41 : Int) : Prop := CL 34 Try.prog (subC (bodyOf Try.f56) [1, 0, 1, 0, 0]) (kont Try.prog env spec_At_h 34 (bodyOf Try.f56) [1, 0, 1, 0, 0] (vRet env [.cell 4 49, .tmp 5] (.t [.d [(.i .i64), (.i .i64), .l], .c .b]) [] [] r O) (retKE (vRet env [.cell 4 49, .tmp 5] (.t [.d [(.i .i64), (.i .i64), .l], .c .b]) [] [] r O))).1 (kont Try.prog env spec_At_h 34 (bodyOf Try.f56) [1, 0, 1, 0, 0] (vRet env [.cell 4 49, .tmp 5] (.t [.d [(.i .i64), (.i .i64), .l], .c .b]) [] [] r O) (retKE (vRet env [.cell 4 49, .tmp 5] (.t [.d [(.i .i64), (.i .i64), .l], .c .b]) [] [] r O))).2 ⟨[(1, (L way)), (2, (.one (.op 1900 0))), (4, (.one (.op 1901 0))), (6, (Z i))], [(1900, (.var [(.d (.int .i64 t)), (.d (.int .i64 t1)), (.d (.sl t2))])), (1901, (.var [(.d (.int .i64 s4)), (.d (.int .i64 s41)), .e0]))]⟩
theorem spec_At_L2_of {r : AV} {O : List (Nat × Ob)} {way : List (List Da)} {i : Int} {t : Int} {t1 : Int} {t2 : List (List Da)} {s4 : Int} {s41 : Int} (h : ifB (decide (i < (↑(List.length way) : Int)))
  ((∃ (m : Nat), (i = ((↑m : Int)) ∧ (∃ (n : Int), ((way[m]?) = some [(.int .i64 n)] ∧ (∃ (b : Bool), (XC Try.prog 111 [(Z n), (Z ((0 : Int))), (Z (IntKind.wrap IntKind.i64 ((↑(List.length t2) : Int) - (1 : Int))))] [] (B b) [] ∧ ifB (!b)
  (((.tup [(.dat [(.int .i64 ((0 : Int))), (.int .i64 ((0 : Int))), (.sl [])]), (B (false))]) = r ∧ [] = O))
  ((∃ (m1 : Nat), (i = ((↑m1 : Int)) ∧ (∃ (n1 : Int), ((way[m1]?) = some [(.int .i64 n1)] ∧ (∃ (m2 : Nat), (n1 = ((↑m2 : Int)) ∧ (∃ (n2 : Int), (∃ (n3 : Int), (∃ (xs : List (List Da)), ((t2[m2]?) = some [(.int .i64 n2), (.int .i64 n3), (.sl xs)] ∧ spec_At_L2 r O way (IntKind.wrap IntKind.i64 (i + (1 : Int))) n2 n3 xs s4 s41))))))))))))))))))
  ((∃ (n4 : Int), (∃ (n5 : Int), (∃ (xs1 : List (List Da)), (XC Try.prog 127 [(.dat [(.int .i64 t), (.int .i64 t1), (.sl t2)])] [] (.dat [(.int .i64 n4), (.int .i64 n5), (.sl xs1)]) [] ∧ ((.tup [(.dat [(.int .i64 n4), (.int .i64 n5), (.sl xs1)]), (B (true))]) = r ∧ [] = O))))))) : spec_At_L2 r O way i t t1 t2 s4 s41 := by
  unfold spec_At_L2
  refine cl_of (E := env) (hs := spec_At_h) envOk mixed ?_
  exact to_vc (by kernel_rfl) h
theorem spec_At_of {t : Int} {t1 : Int} {t2 : List (List Da)} {way : List (List Da)} {r : AV} {O : List (Nat × Ob)} (h : spec_At_L2 r O way ((0 : Int)) t t1 t2 ((0 : Int)) ((0 : Int))) : XC Try.prog 56 [(.dat [(.int .i64 t), (.int .i64 t1), (.sl t2)]), (L way)] [] r O :=
  xc_of (E := env) (hs := spec_At_h) (c := (bodyOf Try.f56)) (n := 34) (res := [.cell 4 49, .tmp 5]) (rs := .t [.d [(.i .i64), (.i .i64), .l], .c .b]) (ks := []) (dir := []) envOk mixed rfl Try.func56 (by kernel_rfl) (by kernel_rfl) (by kernel_rfl) (by kernel_rfl) (to_vc (by kernel_rfl) h)

/-- loop.example/g00461/impl.At -/
def impl_At_h : Hints := ⟨[(2, ⟨[2, 4, 8, 9, 10], [], [], [], [], [], []⟩)], []⟩
def impl_At_L2 (r : AV) (O : List (Nat × Ob)) (s8 : List (List Da)) (s9 : Int) (s10 : Int) (t : Int) (t1 : Int) (t2 : List (List Da)) (s4 : Int) (s41 : Int) : Prop := CL 30 Try.prog (subC (bodyOf Try.f58) [1, 0, 1, 0, 0]) (kont Try.prog env impl_At_h 30 (bodyOf Try.f58) [1, 0, 1, 0, 0] (vRet env [.cell 4 49, .tmp 5] (.t [.s [.k (.i .i64), .k (.i .i64), .o 49 3], .c .b]) [] [] r O) (retKE (vRet env [.cell 4 49, .tmp 5] (.t [.s [.k (.i .i64), .k (.i .i64), .o 49 3], .c .b]) [] [] r O))).1 (kont Try.prog env impl_At_h 30 (bodyOf Try.f58) [1, 0, 1, 0, 0] (vRet env [.cell 4 49, .tmp 5] (.t [.s [.k (.i .i64), .k (.i .i64), .o 49 3], .c .b]) [] [] r O) (retKE (vRet env [.cell 4 49, .tmp 5] (.t [.s [.k (.i .i64), .k (.i .i64), .o 49 3], .c .b]) [] [] r O))).2 ⟨[(2, (.one (.op 1900 0))), (4, (.one (.op 1901 0))), (8, (L s8)), (9, (Z s9)), (10, (Z s10))], [(1900, (.var [(.d (.int .i64 t)), (.d (.int .i64 t1)), (.d (.sl t2))])), (1901, (.var [(.d (.int .i64 s4)), (.d (.int .i64 s41)), .e0]))]⟩
theorem impl_At_L2_of {r : AV} {O : List (Nat × Ob)} {s8 : List (List Da)} {s9 : Int} {s10 : Int} {t : Int} {t1 : Int} {t2 : List (List Da)} {s4 : Int} {s41 : Int} (h : ifB (decide (s10 < s9))
  ((∃ (m : Nat), (s10 = ((↑m : Int)) ∧ (∃ (n : Int), ((s8[m]?) = some [(.int .i64 n)] ∧ (∃ (b : Bool), (XC Try.prog 115 [(Z n), (Z ((0 : Int))), (Z (IntKind.wrap IntKind.i64 ((↑(List.length t2) : Int) - (1 : Int))))] [] (B b) [] ∧ ifB (!b)
  (((.tup [(.agg [(.d (.int .i64 ((0 : Int)))), (.d (.int .i64 ((0 : Int)))), (.ol 0)]), (B (false))]) = r ∧ [(0, (.tr 49 3 []))] = O))
  ((∃ (m1 : Nat), (n = ((↑m1 : Int)) ∧ (∃ (n1 : Int), (∃ (n2 : Int), (∃ (xs : List (List Da)), ((t2[m1]?) = some [(.int .i64 n1), (.int .i64 n2), (.sl xs)] ∧ impl_At_L2 r O s8 s9 (IntKind.wrap IntKind.i64 (s10 + (1 : Int))) n1 n2 xs s4 s41))))))))))))))
  ((∃ (n3 : Int), (∃ (n4 : Int), (∃ (xs1 : List (List Da)), (XC Try.prog 128 [(.dat [(.int .i64 t), (.int .i64 t1), (.sl t2)])] [] (.agg [(.d (.int .i64 n3)), (.d (.int .i64 n4)), (.ol 0)]) [(0, (.tr 49 3 xs1))] ∧ ((.tup [(.agg [(.d (.int .i64 n3)), (.d (.int .i64 n4)), (.ol 0)]), (B (true))]) = r ∧ [(0, (.tr 49 3 xs1))] = O))))))) : impl_At_L2 r O s8 s9 s10 t t1 t2 s4 s41 := by
  unfold impl_At_L2
  refine cl_of (E := env) (hs := impl_At_h) envOk mixed ?_
  exact to_vc (by kernel_rfl) h
theorem impl_At_of {t : Int} {t1 : Int} {t2 : List (List Da)} {way : List (List Da)} {r : AV} {O : List (Nat × Ob)} (h : impl_At_L2 r O way ((↑(List.length way) : Int)) ((0 : Int)) t t1 t2 ((0 : Int)) ((0 : Int))) : XC Try.prog 58 [(.dat [(.int .i64 t), (.int .i64 t1), (.sl t2)]), (L way)] [] r O :=
  xc_of (E := env) (hs := impl_At_h) (c := (bodyOf Try.f58)) (n := 30) (res := [.cell 4 49, .tmp 5]) (rs := .t [.s [.k (.i .i64), .k (.i .i64), .o 49 3], .c .b]) (ks := []) (dir := []) envOk mixed rfl Try.func58 (by kernel_rfl) (by kernel_rfl) (by kernel_rfl) (by kernel_rfl) (to_vc (by kernel_rfl) h)

/-- loop.example/g00461/laws.eqTerm -/
def laws_eqTerm_h : Hints := ⟨[], []⟩
theorem laws_eqTerm_of {a : Int} {a1 : Int} {a2 : List (List Da)} {b : Int} {b1 : Int} {b2 : List (List Da)} {r : AV} {O : List (Nat × Ob)} (h : ifB (decide (a ≠ b))
  (((B (false)) = r ∧ [] = O))
  (ifB (decide (a1 ≠ b1))
  (((B (false)) = r ∧ [] = O))
  ((∃ (b3 : Bool), (XC Try.prog 125 [(L a2), (L b2)] [] (B b3) [] ∧ ifB (!b3)
  (((B (false)) = r ∧ [] = O))
  (((B (true)) = r ∧ [] = O))))))) : XC Try.prog 52 [(.dat [(.int .i64 a), (.int .i64 a1), (.sl a2)]), (.dat [(.int .i64 b), (.int .i64 b1), (.sl b2)])] [] r O :=
  xc_of (E := env) (hs := laws_eqTerm_h) (c := (bodyOf Try.f52)) (n := 21) (res := [.tmp 4]) (rs := .c .b) (ks := []) (dir := []) envOk mixed rfl Try.func52 (by kernel_rfl) (by kernel_rfl) (by kernel_rfl) (by kernel_rfl) (to_vc (by kernel_rfl) h)

/-- loop.example/g00461/laws.eqIntS -/
def laws_eqIntS_h : Hints := ⟨[(4, ⟨[0, 1, 5], [], [], [], [], [], []⟩)], []⟩
def laws_eqIntS_L4 (r : AV) (O : List (Nat × Ob)) (a : List (List Da)) (b : List (List Da)) (i : Int) : Prop := CL 26 Try.prog (subC (bodyOf Try.f33) [1, 1, 0, 1, 0, 0]) (kont Try.prog env laws_eqIntS_h 26 (bodyOf Try.f33) [1, 1, 0, 1, 0, 0] (vRet env [.tmp 4] (.c .b) [] [] r O) (retKE (vRet env [.tmp 4] (.c .b) [] [] r O))).1 (kont Try.prog env laws_eqIntS_h 26 (bodyOf Try.f33) [1, 1, 0, 1, 0, 0] (vRet env [.tmp 4] (.c .b) [] [] r O) (retKE (vRet env [.tmp 4] (.c .b) [] [] r O))).2 ⟨[(0, (L a)), (1, (L b)), (5, (Z i))], []⟩
theorem laws_eqIntS_L4_of {r : AV} {O : List (Nat × Ob)} {a : List (List Da)} {b : List (List Da)} {i : Int} (h : ifB (decide (i < (↑(List.length a) : Int)))
  ((∃ (m : Nat), (i = ((↑m : Int)) ∧ (∃ (n : Int), ((a[m]?) = some [(.int .i64 n)] ∧ (∃ (m1 : Nat), (i = ((↑m1 : Int)) ∧ (∃ (n1 : Int), ((b[m1]?) = some [(.int .i64 n1)] ∧ ifB (decide (n ≠ n1))
  (((B (false)) = r ∧ [] = O))
  (laws_eqIntS_L4 r O a b (IntKind.wrap IntKind.i64 (i + (1 : Int)))))))))))))
  (((B (true)) = r ∧ [] = O))) : laws_eqIntS_L4 r O a b i := by
  unfold laws_eqIntS_L4
  refine cl_of (E := env) (hs := laws_eqIntS_h) envOk mixed ?_
  exact to_vc (by kernel_rfl) h
theorem laws_eqIntS_of {a : List (List Da)} {b : List (List Da)} {r : AV} {O : List (Nat × Ob)} (h : ifB (decide ((↑(List.length a) : Int) ≠ (↑(List.length b) : Int)))
  (((B (false)) = r ∧ [] = O))
  (laws_eqIntS_L4 r O a b ((0 : Int)))) : XC Try.prog 33 [(L a), (L b)] [] r O :=
  xc_of (E := env) (hs := laws_eqIntS_h) (c := (bodyOf Try.f33)) (n := 26) (res := [.tmp 4]) (rs := .c .b) (ks := []) (dir := []) envOk mixed rfl Try.func33 (by kernel_rfl) (by kernel_rfl) (by kernel_rfl) (by kernel_rfl) (to_vc (by kernel_rfl) h)

/-- loop.example/g00461/laws.markTerm -/
def laws_markTerm_h : Hints := ⟨[], []⟩
theorem laws_markTerm_of {a : Int} {a1 : Int} {k : Int} {o2000 : List (List Da)} {r : AV} {O : List (Nat × Ob)} (h : (∃ (n : Int), (∃ (xs : List (List Da)), (XC Try.prog 126 [(.one (.ol 2000)), (Z k)] [(2000, (.mt 49 3 o2000))] (Z n) [(2000, (.mt 49 3 xs))] ∧ ((Z n) = r ∧ [(2000, (.mt 49 3 xs))] = O))))) : XC Try.prog 53 [(.agg [(.d (.int .i64 a)), (.d (.int .i64 a1)), (.ol 2000)]), (Z k)] [(2000, (.mt 49 3 o2000))] r O :=
  xc_of (E := env) (hs := laws_markTerm_h) (c := (bodyOf Try.f53)) (n := 10) (res := [.tmp 4]) (rs := .c (.i .i64)) (ks := [(2000, (false))]) (dir := [2000]) envOk mixed rfl Try.func53 (by kernel_rfl) (by kernel_rfl) (by kernel_rfl) (by kernel_rfl) (to_vc (by kernel_rfl) h)

/-- loop.example/g00461/laws.markIntS -/
def laws_markIntS_h : Hints := ⟨[(2, ⟨[0, 1, 5], [], [], [], [], [], []⟩)], []⟩
def laws_markIntS_L2 (r : AV) (O : List (Nat × Ob)) (k : Int) (i : Int) (a : List (List Da)) : Prop := CL 19 Try.prog (subC (bodyOf Try.f34) [1, 0, 1, 0, 0]) (kont Try.prog env laws_markIntS_h 19 (bodyOf Try.f34) [1, 0, 1, 0, 0] (vRet env [.tmp 4] (.c (.i .i64)) [(2000, (false))] [2000] r O) (retKE (vRet env [.tmp 4] (.c (.i .i64)) [(2000, (false))] [2000] r O))).1 (kont Try.prog env laws_markIntS_h 19 (bodyOf Try.f34) [1, 0, 1, 0, 0] (vRet env [.tmp 4] (.c (.i .i64)) [(2000, (false))] [2000] r O) (retKE (vRet env [.tmp 4] (.c (.i .i64)) [(2000, (false))] [2000] r O))).2 ⟨[(0, (.one (.ol 2000))), (1, (Z k)), (5, (Z i))], [(2000, (.mt 3 1 a))]⟩
theorem laws_markIntS_L2_of {r : AV} {O : List (Nat × Ob)} {k : Int} {i : Int} {a : List (List Da)} (h : ifB (decide (i < (↑(List.length a) : Int)))
  ((∃ (m : Nat), (i = ((↑m : Int)) ∧ (Do (m < List.length a) ∧ (∃ (m1 : Nat), ((m * (1 : Nat)) = (m1 * (1 : Nat) + (0 : Nat)) ∧ (∃ (n : Int), ((a[m1]?) = some [(.int .i64 n)] ∧ laws_markIntS_L2 r O (IntKind.wrap IntKind.i64 (k + (1 : Int))) (IntKind.wrap IntKind.i64 (i + (1 : Int))) (List.set a m1 ([] ++ [Da.int IntKind.i64 k] ++ []))))))))))
  (((Z k) = r ∧ [(2000, (.mt 3 1 a))] = O))) : laws_markIntS_L2 r O k i a := by
  unfold laws_markIntS_L2
  refine cl_of (E := env) (hs := laws_markIntS_h) envOk mixed ?_
  exact to_vc (by kernel_rfl) h
theorem laws_markIntS_of {k : Int} {o2000 : List (List Da)} {r : AV} {O : List (Nat × Ob)} (h : laws_markIntS_L2 r O k ((0 : Int)) o2000) : XC Try.prog 34 [(.one (.ol 2000)), (Z k)] [(2000, (.mt 3 1 o2000))] r O :=
  xc_of (E := env) (hs := laws_markIntS_h) (c := (bodyOf Try.f34)) (n := 19) (res := [.tmp 4]) (rs := .c (.i .i64)) (ks := [(2000, (false))]) (dir := [2000]) envOk mixed rfl Try.func34 (by kernel_rfl) (by kernel_rfl) (by kernel_rfl) (by kernel_rfl) (to_vc (by kernel_rfl) h)

/-- loop.example/g00461/laws.heldTerm -/
def laws_heldTerm_h : Hints := ⟨[], []⟩
theorem laws_heldTerm_of {a : Int} {a1 : Int} {a2 : List (List Da)} {k : Int} {r : AV} {O : List (Nat × Ob)} (h : (∃ (n : Int), (XC Try.prog 129 [(L a2), (Z k)] [] (Z n) [] ∧ ifB (decide (n < (0 : Int)))
  (((Z ((-1 : Int))) = r ∧ [] = O))
  (((Z n) = r ∧ [] = O))))) : XC Try.prog 59 [(.dat [(.int .i64 a), (.int .i64 a1), (.sl a2)]), (Z k)] [] r O :=
  xc_of (E := env) (hs := laws_heldTerm_h) (c := (bodyOf Try.f59)) (n := 12) (res := [.tmp 4]) (rs := .c (.i .i64)) (ks := []) (dir := []) envOk mixed rfl Try.func59 (by kernel_rfl) (by kernel_rfl) (by kernel_rfl) (by kernel_rfl) (to_vc (by kernel_rfl) h)

/-- loop.example/g00461/laws.szClause -/
def laws_szClause_h : Hints := ⟨[], []⟩
theorem laws_szClause_of {a : List (List Da)} {left : Int} {r : AV} {O : List (Nat × Ob)} (h : (∃ (n : Int), (XC Try.prog 82 [(L a), (Z left)] [] (Z n) [] ∧ ifB (decide (n < (0 : Int)))
  (((Z ((-1 : Int))) = r ∧ [] = O))
  (((Z n) = r ∧ [] = O))))) : XC Try.prog 16 [(.dat [(.sl a)]), (Z left)] [] r O :=
  xc_of (E := env) (hs := laws_szClause_h) (c := (bodyOf Try.f16)) (n := 12) (res := [.tmp 4]) (rs := .c (.i .i64)) (ks := []) (dir := []) envOk mixed rfl Try.func16 (by kernel_rfl) (by kernel_rfl) (by kernel_rfl) (by kernel_rfl) (to_vc (by kernel_rfl) h)

/-- loop.example/g00461/laws.toClause -/
def laws_toClause_h : Hints := ⟨[], []⟩
theorem laws_toClause_of {a : List (List Da)} {r : AV} {O : List (Nat × Ob)} (h : (∃ (xs : List (List Da)), (XC Try.prog 86 [(L a)] [] (.one (.ol 0)) [(0, (.tr 90 7 xs))] ∧ ((.agg [(.ol 0)]) = r ∧ [(0, (.tr 90 7 xs))] = O)))) : XC Try.prog 19 [(.dat [(.sl a)])] [] r O :=
  xc_of (E := env) (hs := laws_toClause_h) (c := (bodyOf Try.f19)) (n := 9) (res := [.cell 2 30]) (rs := .s [.o 90 7]) (ks := []) (dir := []) envOk mixed rfl Try.func19 (by kernel_rfl) (by kernel_rfl) (by kernel_rfl) (by kernel_rfl) (to_vc (by kernel_rfl) h)

/-- loop.example/g00461/spec.Shift -/
def spec_Shift_h : Hints := ⟨[(3, ⟨[1, 2, 4, 5, 6], [], [], [(5, (0, (90, 7)))], [], [5], []⟩)], []⟩
def spec_Shift_L3 (r : AV) (O : List (Nat × Ob)) (n : Int) (i : Int) (c : List (List Da)) (out : List (List Da)) : Prop := CL 38 Try.prog (subC (bodyOf Try.f60) [1, 1, 0, 1, 0, 0]) (kont Try.prog env spec_Shift_h 38 (bodyOf Try.f60) [1, 1, 0, 1, 0, 0] (vRet env [.cell 4 30] (.d [.l]) [] [] r O) (retKE (vRet env [.cell 4 30] (.d [.l]) [] [] r O))).1 (kont Try.prog env spec_Shift_h 38 (bodyOf Try.f60) [1, 1, 0, 1, 0, 0] (vRet env [.cell 4 30] (.d [.l]) [] [] r O) (retKE (vRet env [.cell 4 30] (.d [.l]) [] [] r O))).2 ⟨[(1, (Z n)), (2, (.one (.op 1900 0))), (4, (.one (.op 1901 0))), (5, (.one (.op 1902 0))), (6, (Z i))], [(1900, (.var [(.d (.sl c))])), (1901, (.var [.e0])), (1902, (.var [(.ol 1903)])), (1903, (.lst 90 7 out))]⟩
theorem spec_Shift_L3_of {r : AV} {O : List (Nat × Ob)} {n : Int} {i : Int} {c : List (List Da)} {out : List (List Da)} (h : ifB (decide (i < (↑(List.length c) : Int)))
  ((∃ (m : Nat), (i = ((↑m : Int)) ∧ (∃ (b : Bool), (∃ (n2 : Int), (∃ (n3 : Int), (∃ (xs : List (List Da)), (∃ (n4 : Int), (∃ (n5 : Int), (∃ (xs1 : List (List Da)), ((c[m]?) = some [(.bool b), (.int .i64 n2), (.int .i64 n3), (.sl xs), (.int .i64 n4), (.int .i64 n5), (.sl xs1)] ∧ (∃ (n6 : Int), (∃ (n7 : Int), (∃ (xs2 : List (List Da)), (XC Try.prog 130 [(.dat [(.int .i64 n2), (.int .i64 n3), (.sl xs)]), (Z n)] [] (.dat [(.int .i64 n6), (.int .i64 n7), (.sl xs2)]) [] ∧ (∃ (n8 : Int), (∃ (n9 : Int), (∃ (xs3 : List (List Da)), (XC Try.prog 130 [(.dat [(.int .i64 n4), (.int .i64 n5), (.sl xs1)]), (Z n)] [] (.dat [(.int .i64 n8), (.int .i64 n9), (.sl xs3)]) [] ∧ (Do ((List.length out + List.length [[Da.bool b, Da.int IntKind.i64 n6, Da.int IntKind.i64 n7, Da.sl xs2, Da.int IntKind.i64 n8, Da.int IntKind.i64 n9, Da.sl xs3]]) * (88 : Nat) ≤ (140737488355328 : Nat)) ∧ spec_Shift_L3 r O n (IntKind.wrap IntKind.i64 (i + (1 : Int))) c (out ++ [[Da.bool b, Da.int IntKind.i64 n6, Da.int IntKind.i64 n7, Da.sl xs2, Da.int IntKind.i64 n8, Da.int IntKind.i64 n9, Da.sl xs3]])))))))))))))))))))))
  (((.dat [(.sl out)]) = r ∧ [] = O))) : spec_Shift_L3 r O n i c out := by
  unfold spec_Shift_L3
  refine cl_of (E := env) (hs := spec_Shift_h) envOk mixed ?_
  exact to_vc (by kernel_rfl) h
theorem spec_Shift_of {c : List (List Da)} {n : Int} {r : AV} {O : List (Nat × Ob)} (h : spec_Shift_L3 r O n ((0 : Int)) c []) : XC Try.prog 60 [(.dat [(.sl c)]), (Z n)] [] r O :=
  xc_of (E := env) (hs := spec_Shift_h) (c := (bodyOf Try.f60)) (n := 38) (res := [.cell 4 30]) (rs := .d [.l]) (ks := []) (dir := []) envOk mixed rfl Try.func60 (by kernel_rfl) (by kernel_rfl) (by kernel_rfl) (by kernel_rfl) (to_vc (by kernel_rfl) h)

/-- loop.example/g00461/impl.Shift -/
def impl_Shift_h : Hints := ⟨[], []⟩
theorem impl_Shift_of {c : List (List Da)} {n : Int} {r : AV} {O : List (Nat × Ob)} (h : (∃ (xs : List (List Da)), (∃ (m : Int), (XC Try.prog 131 [(.dat [(.sl c)]), (.one (.clo 132 [(2000, 0)]))] [(2000, (.var [(.d (.int .i64 n))]))] (.agg [(.ol 0)]) [(2000, (.var [(.d (.int .i64 m))])), (0, (.tr 90 7 xs))] ∧ ((.agg [(.ol 0)]) = r ∧ [(0, (.tr 90 7 xs))] = O))))) : XC Try.prog 61 [(.dat [(.sl c)]), (Z n)] [] r O :=
  xc_of (E := env) (hs := impl_Shift_h) (c := (bodyOf Try.f61)) (n := 8) (res := [.cell 4 30]) (rs := .s [.o 90 7]) (ks := []) (dir := []) envOk mixed rfl Try.func61 (by kernel_rfl) (by kernel_rfl) (by kernel_rfl) (by kernel_rfl) (to_vc (by kernel_rfl) h)

/-- loop.example/g00461/laws.eqClause -/
def laws_eqClause_h : Hints := ⟨[], []⟩
theorem laws_eqClause_of {a : List (List Da)} {b : List (List Da)} {r : AV} {O : List (Nat × Ob)} (h : (∃ (b1 : Bool), (XC Try.prog 91 [(L a), (L b)] [] (B b1) [] ∧ ifB (!b1)
  (((B (false)) = r ∧ [] = O))
  (((B (true)) = r ∧ [] = O))))) : XC Try.prog 21 [(.dat [(.sl a)]), (.dat [(.sl b)])] [] r O :=
  xc_of (E := env) (hs := laws_eqClause_h) (c := (bodyOf Try.f21)) (n := 11) (res := [.tmp 4]) (rs := .c .b) (ks := []) (dir := []) envOk mixed rfl Try.func21 (by kernel_rfl) (by kernel_rfl) (by kernel_rfl) (by kernel_rfl) (to_vc (by kernel_rfl) h)

/-- loop.example/g00461/laws.markClause -/
def laws_markClause_h : Hints := ⟨[], []⟩
theorem laws_markClause_of {k : Int} {o2000 : List (List Da)} {r : AV} {O : List (Nat × Ob)} (h : (∃ (n : Int), (∃ (xs : List (List Da)), (XC Try.prog 94 [(.one (.ol 2000)), (Z k)] [(2000, (.mt 90 7 o2000))] (Z n) [(2000, (.mt 90 7 xs))] ∧ ((Z n) = r ∧ [(2000, (.mt 90 7 xs))] = O))))) : XC Try.prog 24 [(.agg [(.ol 2000)]), (Z k)] [(2000, (.mt 90 7 o2000))] r O :=
  xc_of (E := env) (hs := laws_markClause_h) (c := (bodyOf Try.f24)) (n := 10) (res := [.tmp 4]) (rs := .c (.i .i64)) (ks := [(2000, (false))]) (dir := [2000]) envOk mixed rfl Try.func24 (by kernel_rfl) (by kernel_rfl) (by kernel_rfl) (by kernel_rfl) (to_vc (by kernel_rfl) h)

/-- loop.example/g00461/laws.heldClause -/
def laws_heldClause_h : Hints := ⟨[], []⟩
theorem laws_heldClause_of {a : List (List Da)} {k : Int} {r : AV} {O : List (Nat × Ob)} (h : (∃ (n : Int), (XC Try.prog 95 [(L a), (Z k)] [] (Z n) [] ∧ ifB (decide (n < (0 : Int)))
  (((Z ((-1 : Int))) = r ∧ [] = O))
  (((Z n) = r ∧ [] = O))))) : XC Try.prog 25 [(.dat [(.sl a)]), (Z k)] [] r O :=
  xc_of (E := env) (hs := laws_heldClause_h) (c := (bodyOf Try.f25)) (n := 12) (res := [.tmp 4]) (rs := .c (.i .i64)) (ks := []) (dir := []) envOk mixed rfl Try.func25 (by kernel_rfl) (by kernel_rfl) (by kernel_rfl) (by kernel_rfl) (to_vc (by kernel_rfl) h)

/-- loop.example/g00461/spec.l12Letter -/
def spec_l12Letter_h : Hints := ⟨[], []⟩
theorem spec_l12Letter_of {b : Int} {r : AV} {O : List (Nat × Ob)} (h : ifB (decide ((97 : Int) ≤ b))
  (ifB (decide (b ≤ (122 : Int)))
  (((B (true)) = r ∧ [] = O))
  (ifB (decide ((65 : Int) ≤ b))
  (ifB (decide (b ≤ (90 : Int)))
  (((B (true)) = r ∧ [] = O))
  (ifB (decide ((48 : Int) ≤ b))
  (((B (decide (b ≤ (57 : Int)))) = r ∧ [] = O))
  (((B (false)) = r ∧ [] = O))))
  (ifB (decide ((48 : Int) ≤ b))
  (((B (decide (b ≤ (57 : Int)))) = r ∧ [] = O))
  (((B (false)) = r ∧ [] = O)))))
  (ifB (decide ((65 : Int) ≤ b))
  (ifB (decide (b ≤ (90 : Int)))
  (((B (true)) = r ∧ [] = O))
  (ifB (decide ((48 : Int) ≤ b))
  (((B (decide (b ≤ (57 : Int)))) = r ∧ [] = O))
  (((B (false)) = r ∧ [] = O))))
  (ifB (decide ((48 : Int) ≤ b))
  (((B (decide (b ≤ (57 : Int)))) = r ∧ [] = O))
  (((B (false)) = r ∧ [] = O))))) : XC Try.prog 118 [(I .u8 b)] [] r O :=
  xc_of (E := env) (hs := spec_l12Letter_h) (c := (bodyOf Try.f118)) (n := 25) (res := [.tmp 2]) (rs := .c .b) (ks := []) (dir := []) envOk mixed rfl Try.func118 (by kernel_rfl) (by kernel_rfl) (by kernel_rfl) (by kernel_rfl) (to_vc (by kernel_rfl) h)

/-- strings.HasPrefix -/
def strings_HasPrefix_h : Hints := ⟨[], []⟩
theorem strings_HasPrefix_of {s : ByteArray} {prefix_ : ByteArray} {r : AV} {O : List (Nat × Ob)} (h : (∃ (b : Bool), (XC Try.prog 171 [(T s), (T prefix_)] [] (B b) [] ∧ ((B b) = r ∧ [] = O)))) : XC Try.prog 119 [(T s), (T prefix_)] [] r O :=
  xc_of (E := env) (hs := strings_HasPrefix_h) (c := (bodyOf Try.f119)) (n := 8) (res := [.tmp 4]) (rs := .c .b) (ks := []) (dir := []) envOk mixed rfl Try.func119 (by kernel_rfl) (by kernel_rfl) (by kernel_rfl) (by kernel_rfl) (to_vc (by kernel_rfl) h)

/-- loop.example/g00461/impl.isWordByte -/
def impl_isWordByte_h : Hints := ⟨[], []⟩
theorem impl_isWordByte_of {c : Int} {r : AV} {O : List (Nat × Ob)} (h : (∃ (b : Bool), (XC Try.prog 172 [(I .u8 c)] [] (B b) [] ∧ ifB b
  (((B (true)) = r ∧ [] = O))
  ((∃ (b1 : Bool), (XC Try.prog 173 [(I .u8 c)] [] (B b1) [] ∧ ifB b1
  (((B (true)) = r ∧ [] = O))
  (ifB (decide ((65 : Int) ≤ c))
  (((B (decide (c ≤ (90 : Int)))) = r ∧ [] = O))
  (((B (false)) = r ∧ [] = O))))))))) : XC Try.prog 120 [(I .u8 c)] [] r O :=
  xc_of (E := env) (hs := impl_isWordByte_h) (c := (bodyOf Try.f120)) (n := 17) (res := [.tmp 2]) (rs := .c .b) (ks := []) (dir := []) envOk mixed rfl Try.func120 (by kernel_rfl) (by kernel_rfl) (by kernel_rfl) (by kernel_rfl) (to_vc (by kernel_rfl) h)

/-- strings.IndexByte -/
def strings_IndexByte_h : Hints := ⟨[], []⟩
theorem strings_IndexByte_of {s : ByteArray} {c : Int} {r : AV} {O : List (Nat × Ob)} (h : (∃ (n : Int), (XC Try.prog 174 [(T s), (I .u8 c)] [] (Z n) [] ∧ ((Z n) = r ∧ [] = O)))) : XC Try.prog 121 [(T s), (I .u8 c)] [] r O :=
  xc_of (E := env) (hs := strings_IndexByte_h) (c := (bodyOf Try.f121)) (n := 8) (res := [.tmp 4]) (rs := .c (.i .i64)) (ks := []) (dir := []) envOk mixed rfl Try.func121 (by kernel_rfl) (by kernel_rfl) (by kernel_rfl) (by kernel_rfl) (to_vc (by kernel_rfl) h)

/-- loop.example/g00461/laws.markText -/
def laws_markText_h : Hints := ⟨[(4, ⟨[0, 3], [], [], [], [], [], []⟩)], []⟩
def laws_markText_L4 (r : AV) (O : List (Nat × Ob)) (k : Int) (out : ByteArray) : Prop := CL 20 Try.prog (subC (bodyOf Try.f93) [1, 1, 1, 0, 0, 0]) (kont Try.prog env laws_markText_h 20 (bodyOf Try.f93) [1, 1, 1, 0, 0, 0] (vRet env [.tmp 2] (.c .s) [] [] r O) (retKE (vRet env [.tmp 2] (.c .s) [] [] r O))).1 (kont Try.prog env laws_markText_h 20 (bodyOf Try.f93) [1, 1, 1, 0, 0, 0] (vRet env [.tmp 2] (.c .s) [] [] r O) (retKE (vRet env [.tmp 2] (.c .s) [] [] r O))).2 ⟨[(0, (Z k)), (3, (T out))], []⟩
theorem laws_markText_L4_of {r : AV} {O : List (Nat × Ob)} {k : Int} {out : ByteArray} (h : ifB (decide ((0 : Int) < k))
  ((Do ((10 : Int) ≠ (0 : Int)) ∧ (∃ (ns : List Int), ([[(.int .u8 (IntKind.wrap IntKind.u8 (IntKind.wrap IntKind.i64 ((48 : Int) + Int.tmod k (10 : Int)))))]] = (List.map (fun n => [Da.int IntKind.u8 n]) ns) ∧ (Do (ByteArray.size (strOfNums ns ++ out) ≤ (281474976710656 : Nat)) ∧ (Do ((10 : Int) ≠ (0 : Int)) ∧ laws_markText_L4 r O (IntKind.wrap IntKind.i64 (Int.tdiv k (10 : Int))) (strOfNums ns ++ out)))))))
  ((Do (ByteArray.size ({ data := #[(109 : UInt8)] } ++ out) ≤ (281474976710656 : Nat)) ∧ ((T ({ data := #[(109 : UInt8)] } ++ out)) = r ∧ [] = O)))) : laws_markText_L4 r O k out := by
  unfold laws_markText_L4
  refine cl_of (E := env) (hs := laws_markText_h) envOk mixed ?_
  exact to_vc (by kernel_rfl) h
theorem laws_markText_of {k : Int} {r : AV} {O : List (Nat × Ob)} (h : ifB (decide (k ≤ (0 : Int)))
  (((T ({ data := #[(109 : UInt8), (48 : UInt8)] })) = r ∧ [] = O))
  (laws_markText_L4 r O k ({ data := #[] }))) : XC Try.prog 93 [(Z k)] [] r O :=
  xc_of (E := env) (hs := laws_markText_h) (c := (bodyOf Try.f93)) (n := 20) (res := [.tmp 2]) (rs := .c .s) (ks := []) (dir := []) envOk mixed rfl Try.func93 (by kernel_rfl) (by kernel_rfl) (by kernel_rfl) (by kernel_rfl) (to_vc (by kernel_rfl) h)

/-- loop.example/g00461/laws.szTermS -/
def laws_szTermS_h : Hints := ⟨[(5, ⟨[0, 1, 5], [], [], [], [], [], []⟩)], []⟩
def laws_szTermS_L5 (r : AV) (O : List (Nat × Ob)) (a : List (List Da)) (left : Int) (i : Int) : Prop := CL 27 Try.prog (subC (bodyOf Try.f122) [1, 1, 1, 0, 1, 0, 0]) (kont Try.prog env laws_szTermS_h 27 (bodyOf Try.f122) [1, 1, 1, 0, 1, 0, 0] (vRet env [.tmp 4] (.c (.i .i64)) [] [] r O) (retKE (vRet env [.tmp 4] (.c (.i .i64)) [] [] r O))).1 (kont Try.prog env laws_szTermS_h 27 (bodyOf Try.f122) [1, 1, 1, 0, 1, 0, 0] (vRet env [.tmp 4] (.c (.i .i64)) [] [] r O) (retKE (vRet env [.tmp 4] (.c (.i .i64)) [] [] r O))).2 ⟨[(0, (L a)), (1, (Z left)), (5, (Z i))], []⟩
theorem laws_szTermS_L5_of {r : AV} {O : List (Nat × Ob)} {a : List (List Da)} {left : Int} {i : Int} (h : ifB (decide (i < (↑(List.length a) : Int)))
  ((∃ (m : Nat), (i = ((↑m : Int)) ∧ (∃ (n : Int), (∃ (n1 : Int), (∃ (xs : List (List Da)), ((a[m]?) = some [(.int .i64 n), (.int .i64 n1), (.sl xs)] ∧ (∃ (n2 : Int), (XC Try.prog 47 [(.dat [(.int .i64 n), (.int .i64 n1), (.sl xs)]), (Z left)] [] (Z n2) [] ∧ ifB (decide (n2 < (0 : Int)))
  (((Z ((-1 : Int))) = r ∧ [] = O))
  (laws_szTermS_L5 r O a n2 (IntKind.wrap IntKind.i64 (i + (1 : Int)))))))))))))
  (((Z left) = r ∧ [] = O))) : laws_szTermS_L5 r O a left i := by
  unfold laws_szTermS_L5
  refine cl_of (E := env) (hs := laws_szTermS_h) envOk mixed ?_
  exact to_vc (by kernel_rfl) h
theorem laws_szTermS_of {a : List (List Da)} {left : Int} {r : AV} {O : List (Nat × Ob)} (h : ifB (decide (IntKind.wrap IntKind.i64 (left - (↑(List.length a) : Int)) < (0 : Int)))
  (((Z ((-1 : Int))) = r ∧ [] = O))
  (laws_szTermS_L5 r O a (IntKind.wrap IntKind.i64 (left - (↑(List.length a) : Int))) ((0 : Int)))) : XC Try.prog 122 [(L a), (Z left)] [] r O :=
  xc_of (E := env) (hs := laws_szTermS_h) (c := (bodyOf Try.f122)) (n := 27) (res := [.tmp 4]) (rs := .c (.i .i64)) (ks := []) (dir := []) envOk mixed rfl Try.func122 (by kernel_rfl) (by kernel_rfl) (by kernel_rfl) (by kernel_rfl) (to_vc (by kernel_rfl) h)

/-- loop.example/g00461/laws.toTermS -/
def laws_toTermS_h : Hints := ⟨[(3, ⟨[0, 3, 4], [], [], [], [], [], []⟩)], []⟩
def laws_toTermS_L3 (r : AV) (O : List (Nat × Ob)) (a : List (List Da)) (i : Int) (out : List (List Da)) : Prop := CL 23 Try.prog (subC (bodyOf Try.f124) [1, 1, 0, 1, 0, 0]) (kont Try.prog env laws_toTermS_h 23 (bodyOf Try.f124) [1, 1, 0, 1, 0, 0] (vRet env [.tmp 2] (.o 49 3) [] [] r O) (retKE (vRet env [.tmp 2] (.o 49 3) [] [] r O))).1 (kont Try.prog env laws_toTermS_h 23 (bodyOf Try.f124) [1, 1, 0, 1, 0, 0] (vRet env [.tmp 2] (.o 49 3) [] [] r O) (retKE (vRet env [.tmp 2] (.o 49 3) [] [] r O))).2 ⟨[(0, (L a)), (3, (.one (.ol 1900))), (4, (Z i))], [(1900, (.tr 49 3 out))]⟩
theorem laws_toTermS_L3_of {r : AV} {O : List (Nat × Ob)} {a : List (List Da)} {i : Int} {out : List (List Da)} (h : ifB (decide (i < (↑(List.length a) : Int)))
  ((∃ (m : Nat), (i = ((↑m : Int)) ∧ (∃ (n : Int), (∃ (n1 : Int), (∃ (xs : List (List Da)), ((a[m]?) = some [(.int .i64 n), (.int .i64 n1), (.sl xs)] ∧ (∃ (n2 : Int), (∃ (n3 : Int), (∃ (xs1 : List (List Da)), (XC Try.prog 49 [(.dat [(.int .i64 n), (.int .i64 n1), (.sl xs)])] [] (.agg [(.d (.int .i64 n2)), (.d (.int .i64 n3)), (.ol 0)]) [(0, (.tr 49 3 xs1))] ∧ (∃ (m1 : Nat), (i = ((↑m1 : Int)) ∧ (Do (m1 < List.length out) ∧ (∃ (m2 : Nat), ((m1 * (3 : Nat)) = (m2 * (3 : Nat) + (0 : Nat)) ∧ (∃ (n4 : Int), (∃ (n5 : Int), (∃ (xs2 : List (List Da)), ((out[m2]?) = some [(.int .i64 n4), (.int .i64 n5), (.sl xs2)] ∧ laws_toTermS_L3 r O a (IntKind.wrap IntKind.i64 (i + (1 : Int))) (List.set out m2 ([] ++ [Da.int IntKind.i64 n2, Da.int IntKind.i64 n3, Da.sl xs1] ++ []))))))))))))))))))))))
  (((.one (.ol 0)) = r ∧ [(0, (.tr 49 3 out))] = O))) : laws_toTermS_L3 r O a i out := by
  unfold laws_toTermS_L3
  refine cl_of (E := env) (hs := laws_toTermS_h) envOk mixed ?_
  exact to_vc (by kernel_rfl) h
theorem laws_toTermS_of {a : List (List Da)} {r : AV} {O : List (Nat × Ob)} (h : (∃ (l : Nat), (∃ (c : Nat), (((↑(List.length a) : Int)) = ((↑l : Int)) ∧ (((↑(List.length a) : Int)) = ((↑c : Int)) ∧ (Do (l ≤ c ∧ (40 : Nat) * c ≤ (281474976710656 : Nat) ∧ c ≤ (281474976710656 : Nat)) ∧ laws_toTermS_L3 r O a ((0 : Int)) (List.replicate l [Da.int IntKind.i64 (0 : Int), Da.int IntKind.i64 (0 : Int), Da.sl []]))))))) : XC Try.prog 124 [(L a)] [] r O :=
  xc_of (E := env) (hs := laws_toTermS_h) (c := (bodyOf Try.f124)) (n := 23) (res := [.tmp 2]) (rs := .o 49 3) (ks := []) (dir := []) envOk mixed rfl Try.func124 (by kernel_rfl) (by kernel_rfl) (by kernel_rfl) (by kernel_rfl) (to_vc (by kernel_rfl) h)

/-- loop.example/g00461/spec.l1In -/
def spec_l1In_h : Hints := ⟨[], []⟩
theorem spec_l1In_of {x : Int} {lo : Int} {hi : Int} {r : AV} {O : List (Nat × Ob)} (h : ifB (decide (lo ≤ x))
  (((B (decide (x ≤ hi))) = r ∧ [] = O))
  (((B (false)) = r ∧ [] = O))) : XC Try.prog 111 [(Z x), (Z lo), (Z hi)] [] r O :=
  xc_of (E := env) (hs := spec_l1In_h) (c := (bodyOf Try.f111)) (n := 15) (res := [.tmp 6]) (rs := .c .b) (ks := []) (dir := []) envOk mixed rfl Try.func111 (by kernel_rfl) (by kernel_rfl) (by kernel_rfl) (by kernel_rfl) (to_vc (by kernel_rfl) h)

/-- loop.example/g00461/spec.l3Copy -/
def spec_l3Copy_h : Hints := ⟨[(3, ⟨[1, 2, 3, 4], [], [], [(3, (2, (49, 3)))], [], [3], []⟩)], []⟩
def spec_l3Copy_L3 (r : AV) (O : List (Nat × Ob)) (i : Int) (t : Int) (t1 : Int) (t2 : List (List Da)) (s2 : Int) (s21 : Int) (out : Int) (out1 : Int) (out2 : List (List Da)) : Prop := CL 29 Try.prog (subC (bodyOf Try.f127) [1, 1, 0, 1, 0, 0]) (kont Try.prog env spec_l3Copy_h 29 (bodyOf Try.f127) [1, 1, 0, 1, 0, 0] (vRet env [.cell 2 49] (.d [(.i .i64), (.i .i64), .l]) [] [] r O) (retKE (vRet env [.cell 2 49] (.d [(.i .i64), (.i .i64), .l]) [] [] r O))).1 (kont Try.prog env spec_l3Copy_h 29 (bodyOf Try.f127) [1, 1, 0, 1, 0, 0] (vRet env [.cell 2 49] (.d [(.i .i64), (.i .i64), .l]) [] [] r O) (retKE (vRet env [.cell 2 49] (.d [(.i .i64), (.i .i64), .l]) [] [] r O))).2 ⟨[(1, (.one (.op 1900 0))), (2, (.one (.op 1901 0))), (3, (.one (.op 1902 0))), (4, (Z i))], [(1900, (.var [(.d (.int .i64 t)), (.d (.int .i64 t1)), (.d (.sl t2))])), (1901, (.var [(.d (.int .i64 s2)), (.d (.int .i64 s21)), .e0])), (1902, (.var [(.d (.int .i64 out)), (.d (.int .i64 out1)), (.ol 1903)])), (1903, (.lst 49 3 out2))]⟩
theorem spec_l3Copy_L3_of {r : AV} {O : List (Nat × Ob)} {i : Int} {t : Int} {t1 : Int} {t2 : List (List Da)} {s2 : Int} {s21 : Int} {out : Int} {out1 : Int} {out2 : List (List Da)} (h : ifB (decide (i < (↑(List.length t2) : Int)))
  ((∃ (m : Nat), (i = ((↑m : Int)) ∧ (∃ (n : Int), (∃ (n1 : Int), (∃ (xs : List (List Da)), ((t2[m]?) = some [(.int .i64 n), (.int .i64 n1), (.sl xs)] ∧ (∃ (n2 : Int), (∃ (n3 : Int), (∃ (xs1 : List (List Da)), (XC Try.prog 127 [(.dat [(.int .i64 n), (.int .i64 n1), (.sl xs)])] [] (.dat [(.int .i64 n2), (.int .i64 n3), (.sl xs1)]) [] ∧ (Do ((List.length out2 + List.length [[Da.int IntKind.i64 n2, Da.int IntKind.i64 n3, Da.sl xs1]]) * (40 : Nat) ≤ (140737488355328 : Nat)) ∧ spec_l3Copy_L3 r O (IntKind.wrap IntKind.i64 (i + (1 : Int))) t t1 t2 s2 s21 out out1 (out2 ++ [[Da.int IntKind.i64 n2, Da.int IntKind.i64 n3, Da.sl xs1]])))))))))))))
  (((.dat [(.int .i64 out), (.int .i64 out1), (.sl out2)]) = r ∧ [] = O))) : spec_l3Copy_L3 r O i t t1 t2 s2 s21 out out1 out2 := by
  unfold spec_l3Copy_L3
  refine cl_of (E := env) (hs := spec_l3Copy_h) envOk mixed ?_
  exact to_vc (by kernel_rfl) h
theorem spec_l3Copy_of {t : Int} {t1 : Int} {t2 : List (List Da)} {r : AV} {O : List (Nat × Ob)} (h : spec_l3Copy_L3 r O ((0 : Int)) t t1 t2 ((0 : Int)) ((0 : Int)) t t1 []) : XC Try.prog 127 [(.dat [(.int .i64 t), (.int .i64 t1), (.sl t2)])] [] r O :=
  xc_of (E := env) (hs := spec_l3Copy_h) (c := (bodyOf Try.f127)) (n := 29) (res := [.cell 2 49]) (rs := .d [(.i .i64), (.i .i64), .l]) (ks := []) (dir := []) envOk mixed rfl Try.func127 (by kernel_rfl) (by kernel_rfl) (by kernel_rfl) (by kernel_rfl) (to_vc (by kernel_rfl) h)

/-- loop.example/g00461/impl.from -/
def impl_from_h : Hints := ⟨[], []⟩
theorem impl_from_of {n : Int} {low : Int} {high : Int} {r : AV} {O : List (Nat × Ob)} (h : ifB (decide (low ≤ n))
  (((B (decide (n ≤ high))) = r ∧ [] = O))
  (((B (false)) = r ∧ [] = O))) : XC Try.prog 115 [(Z n), (Z low), (Z high)] [] r O :=
  xc_of (E := env) (hs := impl_from_h) (c := (bodyOf Try.f115)) (n := 15) (res := [.tmp 6]) (rs := .c .b) (ks := []) (dir := []) envOk mixed rfl Try.func115 (by kernel_rfl) (by kernel_rfl) (by kernel_rfl) (by kernel_rfl) (to_vc (by kernel_rfl) h)

/-- loop.example/g00461/impl.copyTerm -/
def impl_copyTerm_h : Hints := ⟨[], []⟩
theorem impl_copyTerm_of {t : Int} {t1 : Int} {t2 : List (List Da)} {r : AV} {O : List (Nat × Ob)} (h : (∃ (xs : List (List Da)), (XC Try.prog 175 [(L t2)] [] (.one (.ol 0)) [(0, (.tr 49 3 xs))] ∧ ((.agg [(.d (.int .i64 t)), (.d (.int .i64 t1)), (.ol 0)]) = r ∧ [(0, (.tr 49 3 xs))] = O)))) : XC Try.prog 128 [(.dat [(.int .i64 t), (.int .i64 t1), (.sl t2)])] [] r O :=
  xc_of (E := env) (hs := impl_copyTerm_h) (c := (bodyOf Try.f128)) (n := 8) (res := [.cell 2 49]) (rs := .s [.k (.i .i64), .k (.i .i64), .o 49 3]) (ks := []) (dir := []) envOk mixed rfl Try.func128 (by kernel_rfl) (by kernel_rfl) (by kernel_rfl) (by kernel_rfl) (to_vc (by kernel_rfl) h)

/-- loop.example/g00461/laws.eqTermS -/
def laws_eqTermS_h : Hints := ⟨[(4, ⟨[0, 1, 5], [], [], [], [], [], []⟩)], []⟩
def laws_eqTermS_L4 (r : AV) (O : List (Nat × Ob)) (a : List (List Da)) (b : List (List Da)) (i : Int) : Prop := CL 27 Try.prog (subC (bodyOf Try.f125) [1, 1, 0, 1, 0, 0]) (kont Try.prog env laws_eqTermS_h 27 (bodyOf Try.f125) [1, 1, 0, 1, 0, 0] (vRet env [.tmp 4] (.c .b) [] [] r O) (retKE (vRet env [.tmp 4] (.c .b) [] [] r O))).1 (kont Try.prog env laws_eqTermS_h 27 (bodyOf Try.f125) [1, 1, 0, 1, 0, 0] (vRet env [.tmp 4] (.c .b) [] [] r O) (retKE (vRet env [.tmp 4] (.c .b) [] [] r O))).2 ⟨[(0, (L a)), (1, (L b)), (5, (Z i))], []⟩
theorem laws_eqTermS_L4_of {r : AV} {O : List (Nat × Ob)} {a : List (List Da)} {b : List (List Da)} {i : Int} (h : ifB (decide (i < (↑(List.length a) : Int)))
  ((∃ (m : Nat), (i = ((↑m : Int)) ∧ (∃ (n : Int), (∃ (n1 : Int), (∃ (xs : List (List Da)), ((a[m]?) = some [(.int .i64 n), (.int .i64 n1), (.sl xs)] ∧ (∃ (m1 : Nat), (i = ((↑m1 : Int)) ∧ (∃ (n2 : Int), (∃ (n3 : Int), (∃ (xs1 : List (List Da)), ((b[m1]?) = some [(.int .i64 n2), (.int .i64 n3), (.sl xs1)] ∧ (∃ (b2 : Bool), (XC Try.prog 52 [(.dat [(.int .i64 n), (.int .i64 n1), (.sl xs)]), (.dat [(.int .i64 n2), (.int .i64 n3), (.sl xs1)])] [] (B b2) [] ∧ ifB (!b2)
  (((B (false)) = r ∧ [] = O))
  (laws_eqTermS_L4 r O a b (IntKind.wrap IntKind.i64 (i + (1 : Int)))))))))))))))))))
  (((B (true)) = r ∧ [] = O))) : laws_eqTermS_L4 r O a b i := by
  unfold laws_eqTermS_L4
  refine cl_of (E := env) (hs := laws_eqTermS_h) envOk mixed ?_
  exact to_vc (by kernel_rfl) h
theorem laws_eqTermS_of {a : List (List Da)} {b : List (List Da)} {r : AV} {O : List (Nat × Ob)} (h : ifB (decide ((↑(List.length a) : Int) ≠ (↑(List.length b) : Int)))
  (((B (false)) = r ∧ [] = O))
  (laws_eqTermS_L4 r O a b ((0 : Int)))) : XC Try.prog 125 [(L a), (L b)] [] r O :=
  xc_of (E := env) (hs := laws_eqTermS_h) (c := (bodyOf Try.f125)) (n := 27) (res := [.tmp 4]) (rs := .c .b) (ks := []) (dir := []) envOk mixed rfl Try.func125 (by kernel_rfl) (by kernel_rfl) (by kernel_rfl) (by kernel_rfl) (to_vc (by kernel_rfl) h)

/-- loop.example/g00461/laws.markTermS -/
def laws_markTermS_h : Hints := ⟨[(2, ⟨[0, 1, 5], [], [], [], [], [], []⟩)], []⟩
def laws_markTermS_L2 (r : AV) (O : List (Nat × Ob)) (k : Int) (i : Int) (a : List (List Da)) : Prop := CL 34 Try.prog (subC (bodyOf Try.f126) [1, 0, 1, 0, 0]) (kont Try.prog env laws_markTermS_h 34 (bodyOf Try.f126) [1, 0, 1, 0, 0] (vRet env [.tmp 4] (.c (.i .i64)) [(2000, (false))] [2000] r O) (retKE (vRet env [.tmp 4] (.c (.i .i64)) [(2000, (false))] [2000] r O))).1 (kont Try.prog env laws_markTermS_h 34 (bodyOf Try.f126) [1, 0, 1, 0, 0] (vRet env [.tmp 4] (.c (.i .i64)) [(2000, (false))] [2000] r O) (retKE (vRet env [.tmp 4] (.c (.i .i64)) [(2000, (false))] [2000] r O))).2 ⟨[(0, (.one (.ol 2000))), (1, (Z k)), (5, (Z i))], [(2000, (.mt 49 3 a))]⟩
theorem laws_markTermS_L2_of {r : AV} {O : List (Nat × Ob)} {k : Int} {i : Int} {a : List (List Da)} (h : ifB (decide (i < (↑(List.length a) : Int)))
  ((∃ (m : Nat), (i = ((↑m : Int)) ∧ (Do (m < List.length a) ∧ (∃ (m1 : Nat), ((m * (3 : Nat) + (0 : Nat)) = (m1 * (3 : Nat) + (0 : Nat)) ∧ (∃ (n : Int), (∃ (n1 : Int), (∃ (xs : List (List Da)), ((a[m1]?) = some [(.int .i64 n), (.int .i64 n1), (.sl xs)] ∧ (∃ (m2 : Nat), (i = ((↑m2 : Int)) ∧ (Do (m2 < List.length (List.set a m1 ([] ++ [Da.int IntKind.i64 k] ++ [Da.int IntKind.i64 n1, Da.sl xs]))) ∧ (∃ (m3 : Nat), ((m2 * (3 : Nat) + (1 : Nat)) = (m3 * (3 : Nat) + Nat.succ (nat_lit 0)) ∧ (∃ (n2 : Int), (∃ (n3 : Int), (∃ (xs1 : List (List Da)), (((List.set a m1 ([] ++ [Da.int IntKind.i64 k] ++ [Da.int IntKind.i64 n1, Da.sl xs]))[m3]?) = some [(.int .i64 n2), (.int .i64 n3), (.sl xs1)] ∧ (∃ (m4 : Nat), (i = ((↑m4 : Int)) ∧ (Do (m4 < List.length (List.set (List.set a m1 ([] ++ [Da.int IntKind.i64 k] ++ [Da.int IntKind.i64 n1, Da.sl xs])) m3 ([Da.int IntKind.i64 n2] ++ [Da.int IntKind.i64 (IntKind.wrap IntKind.i64 (k + (1 : Int)))] ++ [Da.sl xs1]))) ∧ (∃ (m5 : Nat), ((m4 * (3 : Nat) + (2 : Nat)) = (m5 * (3 : Nat) + Nat.succ (nat_lit 1)) ∧ (∃ (n4 : Int), (∃ (n5 : Int), (∃ (xs2 : List (List Da)), (((List.set (List.set a m1 ([] ++ [Da.int IntKind.i64 k] ++ [Da.int IntKind.i64 n1, Da.sl xs])) m3 ([Da.int IntKind.i64 n2] ++ [Da.int IntKind.i64 (IntKind.wrap IntKind.i64 (k + (1 : Int)))] ++ [Da.sl xs1]))[m5]?) = some [(.int .i64 n4), (.int .i64 n5), (.sl xs2)] ∧ (∀ (a1 : Option Addr), (∀ (l : Nat), (∀ (r1 : Nat), ((a1 = a1 ∧ ((l) = (l) ∧ (r1) = (r1))) ∧ (∃ (n6 : Int), (∃ (n7 : Int), (∃ (xs3 : List (List Da)), (((List.set (List.set a m1 ([] ++ [Da.int IntKind.i64 k] ++ [Da.int IntKind.i64 n1, Da.sl xs])) m3 ([Da.int IntKind.i64 n2] ++ [Da.int IntKind.i64 (IntKind.wrap IntKind.i64 (k + (1 : Int)))] ++ [Da.sl xs1]))[m5]?) = some [(.int .i64 n6), (.int .i64 n7), (.sl xs3)] ∧ (Do (∀ (y : List Da), y ∈ xs3 → List.length y = Prod.fst ((3 : Nat), (40 : Nat), [At.d (Da.int IntKind.i64 (0 : Int)), At.d (Da.int IntKind.i64 (0 : Int)), At.e0])) ∧ (∃ (ys1 : List (List Da)), (∃ (n8 : Int), (XC Try.prog 126 [(.one (.ol 2000)), (Z (IntKind.wrap IntKind.i64 (IntKind.wrap IntKind.i64 (k + (1 : Int)) + (1 : Int))))] [(2000, (.mt 49 3 xs3))] (Z n8) [(2000, (.mt 49 3 ys1))] ∧ laws_markTermS_L2 r O n8 (IntKind.wrap IntKind.i64 (i + (1 : Int))) (List.set (List.set (List.set a m1 ([] ++ [Da.int IntKind.i64 k] ++ [Da.int IntKind.i64 n1, Da.sl xs])) m3 ([Da.int IntKind.i64 n2] ++ [Da.int IntKind.i64 (IntKind.wrap IntKind.i64 (k + (1 : Int)))] ++ [Da.sl xs1])) m5 ([Da.int IntKind.i64 n6, Da.int IntKind.i64 n7] ++ [Da.sl ys1] ++ []))))))))))))))))))))))))))))))))))))))))))
  (((Z k) = r ∧ [(2000, (.mt 49 3 a))] = O))) : laws_markTermS_L2 r O k i a := by
  unfold laws_markTermS_L2
  refine cl_of (E := env) (hs := laws_markTermS_h) envOk mixed ?_
  exact to_vc (by kernel_rfl) h
theorem laws_markTermS_of {k : Int} {o2000 : List (List Da)} {r : AV} {O : List (Nat × Ob)} (h : laws_markTermS_L2 r O k ((0 : Int)) o2000) : XC Try.prog 126 [(.one (.ol 2000)), (Z k)] [(2000, (.mt 49 3 o2000))] r O :=
  xc_of (E := env) (hs := laws_markTermS_h) (c := (bodyOf Try.f126)) (n := 34) (res := [.tmp 4]) (rs := .c (.i .i64)) (ks := [(2000, (false))]) (dir := [2000]) envOk mixed rfl Try.func126 (by kernel_rfl) (by kernel_rfl) (by kernel_rfl) (by kernel_rfl) (to_vc (by kernel_rfl) h)

/-- loop.example/g00461/laws.heldTermS -/
def laws_heldTermS_h : Hints := ⟨[(2, ⟨[0, 1, 5], [], [], [], [], [], []⟩)], []⟩
def laws_heldTermS_L2 (r : AV) (O : List (Nat × Ob)) (a : List (List Da)) (k : Int) (i : Int) : Prop := CL 40 Try.prog (subC (bodyOf Try.f129) [1, 0, 1, 0, 0]) (kont Try.prog env laws_heldTermS_h 40 (bodyOf Try.f129) [1, 0, 1, 0, 0] (vRet env [.tmp 4] (.c (.i .i64)) [] [] r O) (retKE (vRet env [.tmp 4] (.c (.i .i64)) [] [] r O))).1 (kont Try.prog env laws_heldTermS_h 40 (bodyOf Try.f129) [1, 0, 1, 0, 0] (vRet env [.tmp 4] (.c (.i .i64)) [] [] r O) (retKE (vRet env [.tmp 4] (.c (.i .i64)) [] [] r O))).2 ⟨[(0, (L a)), (1, (Z k)), (5, (Z i))], []⟩
theorem laws_heldTermS_L2_of {r : AV} {O : List (Nat × Ob)} {a : List (List Da)} {k : Int} {i : Int} (h : ifB (decide (i < (↑(List.length a) : Int)))
  ((∃ (m : Nat), (i = ((↑m : Int)) ∧ (∃ (n : Int), (∃ (n1 : Int), (∃ (xs : List (List Da)), ((a[m]?) = some [(.int .i64 n), (.int .i64 n1), (.sl xs)] ∧ ifB (decide (n ≠ k))
  (((Z ((-1 : Int))) = r ∧ [] = O))
  ((∃ (m1 : Nat), (i = ((↑m1 : Int)) ∧ (∃ (n2 : Int), (∃ (n3 : Int), (∃ (xs1 : List (List Da)), ((a[m1]?) = some [(.int .i64 n2), (.int .i64 n3), (.sl xs1)] ∧ ifB (decide (n3 ≠ IntKind.wrap IntKind.i64 (k + (1 : Int))))
  (((Z ((-1 : Int))) = r ∧ [] = O))
  ((∃ (m2 : Nat), (i = ((↑m2 : Int)) ∧ (∃ (n4 : Int), (∃ (n5 : Int), (∃ (xs2 : List (List Da)), ((a[m2]?) = some [(.int .i64 n4), (.int .i64 n5), (.sl xs2)] ∧ (∃ (n6 : Int), (XC Try.prog 129 [(L xs2), (Z (IntKind.wrap IntKind.i64 (IntKind.wrap IntKind.i64 (k + (1 : Int)) + (1 : Int))))] [] (Z n6) [] ∧ ifB (decide (n6 < (0 : Int)))
  (((Z ((-1 : Int))) = r ∧ [] = O))
  (laws_heldTermS_L2 r O a n6 (IntKind.wrap IntKind.i64 (i + (1 : Int)))))))))))))))))))))))))))
  (((Z k) = r ∧ [] = O))) : laws_heldTermS_L2 r O a k i := by
  unfold laws_heldTermS_L2
  refine cl_of (E := env) (hs := laws_heldTermS_h) envOk mixed ?_
  exact to_vc (by kernel_rfl) h
theorem laws_heldTermS_of {a : List (List Da)} {k : Int} {r : AV} {O : List (Nat × Ob)} (h : laws_heldTermS_L2 r O a k ((0 : Int))) : XC Try.prog 129 [(L a), (Z k)] [] r O :=
  xc_of (E := env) (hs := laws_heldTermS_h) (c := (bodyOf Try.f129)) (n := 40) (res := [.tmp 4]) (rs := .c (.i .i64)) (ks := []) (dir := []) envOk mixed rfl Try.func129 (by kernel_rfl) (by kernel_rfl) (by kernel_rfl) (by kernel_rfl) (to_vc (by kernel_rfl) h)

/-- loop.example/g00461/laws.szLitS -/
def laws_szLitS_h : Hints := ⟨[(5, ⟨[0, 1, 5], [], [], [], [], [], []⟩)], []⟩
def laws_szLitS_L5 (r : AV) (O : List (Nat × Ob)) (a : List (List Da)) (left : Int) (i : Int) : Prop := CL 27 Try.prog (subC (bodyOf Try.f82) [1, 1, 1, 0, 1, 0, 0]) (kont Try.prog env laws_szLitS_h 27 (bodyOf Try.f82) [1, 1, 1, 0, 1, 0, 0] (vRet env [.tmp 4] (.c (.i .i64)) [] [] r O) (retKE (vRet env [.tmp 4] (.c (.i .i64)) [] [] r O))).1 (kont Try.prog env laws_szLitS_h 27 (bodyOf Try.f82) [1, 1, 1, 0, 1, 0, 0] (vRet env [.tmp 4] (.c (.i .i64)) [] [] r O) (retKE (vRet env [.tmp 4] (.c (.i .i64)) [] [] r O))).2 ⟨[(0, (L a)), (1, (Z left)), (5, (Z i))], []⟩
theorem laws_szLitS_L5_of {r : AV} {O : List (Nat × Ob)} {a : List (List Da)} {left : Int} {i : Int} (h : ifB (decide (i < (↑(List.length a) : Int)))
  ((∃ (m : Nat), (i = ((↑m : Int)) ∧ (∃ (b : Bool), (∃ (n : Int), (∃ (n1 : Int), (∃ (xs : List (List Da)), (∃ (n2 : Int), (∃ (n3 : Int), (∃ (xs1 : List (List Da)), ((a[m]?) = some [(.bool b), (.int .i64 n), (.int .i64 n1), (.sl xs), (.int .i64 n2), (.int .i64 n3), (.sl xs1)] ∧ (∃ (n4 : Int), (XC Try.prog 74 [(.dat [(.bool b), (.int .i64 n), (.int .i64 n1), (.sl xs), (.int .i64 n2), (.int .i64 n3), (.sl xs1)]), (Z left)] [] (Z n4) [] ∧ ifB (decide (n4 < (0 : Int)))
  (((Z ((-1 : Int))) = r ∧ [] = O))
  (laws_szLitS_L5 r O a n4 (IntKind.wrap IntKind.i64 (i + (1 : Int)))))))))))))))))
  (((Z left) = r ∧ [] = O))) : laws_szLitS_L5 r O a left i := by
  unfold laws_szLitS_L5
  refine cl_of (E := env) (hs := laws_szLitS_h) envOk mixed ?_
  exact to_vc (by kernel_rfl) h
theorem laws_szLitS_of {a : List (List Da)} {left : Int} {r : AV} {O : List (Nat × Ob)} (h : ifB (decide (IntKind.wrap IntKind.i64 (left - (↑(List.length a) : Int)) < (0 : Int)))
  (((Z ((-1 : Int))) = r ∧ [] = O))
  (laws_szLitS_L5 r O a (IntKind.wrap IntKind.i64 (left - (↑(List.length a) : Int))) ((0 : Int)))) : XC Try.prog 82 [(L a), (Z left)] [] r O :=
  xc_of (E := env) (hs := laws_szLitS_h) (c := (bodyOf Try.f82)) (n := 27) (res := [.tmp 4]) (rs := .c (.i .i64)) (ks := []) (dir := []) envOk mixed rfl Try.func82 (by kernel_rfl) (by kernel_rfl) (by kernel_rfl) (by kernel_rfl) (to_vc (by kernel_rfl) h)

/-- loop.example/g00461/laws.toLitS -/
def laws_toLitS_h : Hints := ⟨[(3, ⟨[0, 3, 4], [], [], [], [], [], []⟩)], []⟩
def laws_toLitS_L3 (r : AV) (O : List (Nat × Ob)) (a : List (List Da)) (i : Int) (out : List (List Da)) : Prop := CL 23 Try.prog (subC (bodyOf Try.f86) [1, 1, 0, 1, 0, 0]) (kont Try.prog env laws_toLitS_h 23 (bodyOf Try.f86) [1, 1, 0, 1, 0, 0] (vRet env [.tmp 2] (.o 90 7) [] [] r O) (retKE (vRet env [.tmp 2] (.o 90 7) [] [] r O))).1 (kont Try.prog env laws_toLitS_h 23 (bodyOf Try.f86) [1, 1, 0, 1, 0, 0] (vRet env [.tmp 2] (.o 90 7) [] [] r O) (retKE (vRet env [.tmp 2] (.o 90 7) [] [] r O))).2 ⟨[(0, (L a)), (3, (.one (.ol 1900))), (4, (Z i))], [(1900, (.tr 90 7 out))]⟩
theorem laws_toLitS_L3_of {r : AV} {O : List (Nat × Ob)} {a : List (List Da)} {i : Int} {out : List (List Da)} (h : ifB (decide (i < (↑(List.length a) : Int)))
  ((∃ (m : Nat), (i = ((↑m : Int)) ∧ (∃ (b : Bool), (∃ (n : Int), (∃ (n1 : Int), (∃ (xs : List (List Da)), (∃ (n2 : Int), (∃ (n3 : Int), (∃ (xs1 : List (List Da)), ((a[m]?) = some [(.bool b), (.int .i64 n), (.int .i64 n1), (.sl xs), (.int .i64 n2), (.int .i64 n3), (.sl xs1)] ∧ (∃ (b1 : Bool), (∃ (n4 : Int), (∃ (n5 : Int), (∃ (xs2 : List (List Da)), (∃ (n6 : Int), (∃ (n7 : Int), (∃ (xs3 : List (List Da)), (XC Try.prog 77 [(.dat [(.bool b), (.int .i64 n), (.int .i64 n1), (.sl xs), (.int .i64 n2), (.int .i64 n3), (.sl xs1)])] [] (.agg [(.d (.bool b1)), (.d (.int .i64 n4)), (.d (.int .i64 n5)), (.ol 0), (.d (.int .i64 n6)), (.d (.int .i64 n7)), (.ol 1)]) [(0, (.tr 49 3 xs2)), (1, (.tr 49 3 xs3))] ∧ (∃ (m1 : Nat), (i = ((↑m1 : Int)) ∧ (Do (m1 < List.length out) ∧ (∃ (m2 : Nat), ((m1 * (7 : Nat)) = (m2 * (7 : Nat) + (0 : Nat)) ∧ (∃ (b2 : Bool), (∃ (n8 : Int), (∃ (n9 : Int), (∃ (xs4 : List (List Da)), (∃ (n10 : Int), (∃ (n11 : Int), (∃ (xs5 : List (List Da)), ((out[m2]?) = some [(.bool b2), (.int .i64 n8), (.int .i64 n9), (.sl xs4), (.int .i64 n10), (.int .i64 n11), (.sl xs5)] ∧ laws_toLitS_L3 r O a (IntKind.wrap IntKind.i64 (i + (1 : Int))) (List.set out m2 ([] ++ [Da.bool b1, Da.int IntKind.i64 n4, Da.int IntKind.i64 n5, Da.sl xs2, Da.int IntKind.i64 n6, Da.int IntKind.i64 n7, Da.sl xs3] ++ []))))))))))))))))))))))))))))))))))
  (((.one (.ol 0)) = r ∧ [(0, (.tr 90 7 out))] = O))) : laws_toLitS_L3 r O a i out := by
  unfold laws_toLitS_L3
  refine cl_of (E := env) (hs := laws_toLitS_h) envOk mixed ?_
  exact to_vc (by kernel_rfl) h
theorem laws_toLitS_of {a : List (List Da)} {r : AV} {O : List (Nat × Ob)} (h : (∃ (l : Nat), (∃ (c : Nat), (((↑(List.length a) : Int)) = ((↑l : Int)) ∧ (((↑(List.length a) : Int)) = ((↑c : Int)) ∧ (Do (l ≤ c ∧ (88 : Nat) * c ≤ (281474976710656 : Nat) ∧ c ≤ (281474976710656 : Nat)) ∧ laws_toLitS_L3 r O a ((0 : Int)) (List.replicate l [Da.bool false, Da.int IntKind.i64 (0 : Int), Da.int IntKind.i64 (0 : Int), Da.sl [], Da.int IntKind.i64 (0 : Int), Da.int IntKind.i64 (0 : Int), Da.sl []]))))))) : XC Try.prog 86 [(L a)] [] r O :=
  xc_of (E := env) (hs := laws_toLitS_h) (c := (bodyOf Try.f86)) (n := 23) (res := [.tmp 2]) (rs := .o 90 7) (ks := []) (dir := []) envOk mixed rfl Try.func86 (by kernel_rfl) (by kernel_rfl) (by kernel_rfl) (by kernel_rfl) (to_vc (by kernel_rfl) h)

/-- loop.example/g00461/spec.l9Shift -/
def spec_l9Shift_h : Hints := ⟨[(5, ⟨[1, 2, 4, 5, 6], [], [], [(5, (2, (49, 3)))], [], [5], []⟩)], []⟩
def spec_l9Shift_L5 (r : AV) (O : List (Nat × Ob)) (n : Int) (i : Int) (t : Int) (t1 : Int) (t2 : List (List Da)) (s4 : Int) (s41 : Int) (out : Int) (out1 : Int) (out2 : List (List Da)) : Prop := CL 40 Try.prog (subC (bodyOf Try.f130) [1, 1, 1, 0, 1, 0, 0]) (kont Try.prog env spec_l9Shift_h 40 (bodyOf Try.f130) [1, 1, 1, 0, 1, 0, 0] (vRet env [.cell 4 49] (.d [(.i .i64), (.i .i64), .l]) [] [] r O) (retKE (vRet env [.cell 4 49] (.d [(.i .i64), (.i .i64), .l]) [] [] r O))).1 (kont Try.prog env spec_l9Shift_h 40 (bodyOf Try.f130) [1, 1, 1, 0, 1, 0, 0] (vRet env [.cell 4 49] (.d [(.i .i64), (.i .i64), .l]) [] [] r O) (retKE (vRet env [.cell 4 49] (.d [(.i .i64), (.i .i64), .l]) [] [] r O))).2 ⟨[(1, (Z n)), (2, (.one (.op 1900 0))), (4, (.one (.op 1901 0))), (5, (.one (.op 1902 0))), (6, (Z i))], [(1900, (.var [(.d (.int .i64 t)), (.d (.int .i64 t1)), (.d (.sl t2))])), (1901, (.var [(.d (.int .i64 s4)), (.d (.int .i64 s41)), .e0])), (1902, (.var [(.d (.int .i64 out)), (.d (.int .i64 out1)), (.ol 1903)])), (1903, (.lst 49 3 out2))]⟩
theorem spec_l9Shift_L5_of {r : AV} {O : List (Nat × Ob)} {n : Int} {i : Int} {t : Int} {t1 : Int} {t2 : List (List Da)} {s4 : Int} {s41 : Int} {out : Int} {out1 : Int} {out2 : List (List Da)} (h : ifB (decide (i < (↑(List.length t2) : Int)))
  ((∃ (m : Nat), (i = ((↑m : Int)) ∧ (∃ (n2 : Int), (∃ (n3 : Int), (∃ (xs : List (List Da)), ((t2[m]?) = some [(.int .i64 n2), (.int .i64 n3), (.sl xs)] ∧ (∃ (n4 : Int), (∃ (n5 : Int), (∃ (xs1 : List (List Da)), (XC Try.prog 130 [(.dat [(.int .i64 n2), (.int .i64 n3), (.sl xs)]), (Z n)] [] (.dat [(.int .i64 n4), (.int .i64 n5), (.sl xs1)]) [] ∧ (Do ((List.length out2 + List.length [[Da.int IntKind.i64 n4, Da.int IntKind.i64 n5, Da.sl xs1]]) * (40 : Nat) ≤ (140737488355328 : Nat)) ∧ spec_l9Shift_L5 r O n (IntKind.wrap IntKind.i64 (i + (1 : Int))) t t1 t2 s4 s41 out out1 (out2 ++ [[Da.int IntKind.i64 n4, Da.int IntKind.i64 n5, Da.sl xs1]])))))))))))))
  (((.dat [(.int .i64 out), (.int .i64 out1), (.sl out2)]) = r ∧ [] = O))) : spec_l9Shift_L5 r O n i t t1 t2 s4 s41 out out1 out2 := by
  unfold spec_l9Shift_L5
  refine cl_of (E := env) (hs := spec_l9Shift_h) envOk mixed ?_
  exact to_vc (by kernel_rfl) h
theorem spec_l9Shift_of {t : Int} {t1 : Int} {t2 : List (List Da)} {n : Int} {r : AV} {O : List (Nat × Ob)} (h : ifB (decide (t = (-1 : Int)))
  (spec_l9Shift_L5 r O n ((0 : Int)) t t1 t2 ((0 : Int)) ((0 : Int)) t (IntKind.wrap IntKind.i64 (t1 + n)) [])
  (spec_l9Shift_L5 r O n ((0 : Int)) t t1 t2 ((0 : Int)) ((0 : Int)) t t1 [])) : XC Try.prog 130 [(.dat [(.int .i64 t), (.int .i64 t1), (.sl t2)]), (Z n)] [] r O :=
  xc_of (E := env) (hs := spec_l9Shift_h) (c := (bodyOf Try.f130)) (n := 40) (res := [.cell 4 49]) (rs := .d [(.i .i64), (.i .i64), .l]) (ks := []) (dir := []) envOk mixed rfl Try.func130 (by kernel_rfl) (by kernel_rfl) (by kernel_rfl) (by kernel_rfl) (to_vc (by kernel_rfl) h)

/-- loop.example/g00461/impl.renamedClause -/
def impl_renamedClause_impl_Shift_1_h : Hints := ⟨[(3, ⟨[1, 4, 5, 10, 11, 12], [], [], [(5, (0, (90, 7)))], [], [], []⟩)], []⟩
def impl_renamedClause_impl_Shift_1_L3 (r : AV) (O : List (Nat × Ob)) (s10 : List (List Da)) (s11 : Int) (s12 : Int) (o2000 : Int) (out : List (List Da)) : Prop := CL 34 Try.prog (subC (bodyOf Try.f131) [1, 1, 0, 1, 0, 0]) (kont Try.prog env impl_renamedClause_impl_Shift_1_h 34 (bodyOf Try.f131) [1, 1, 0, 1, 0, 0] (vRet env [.cell 4 30] (.s [.o 90 7]) [(2000, (true))] [2000] r O) (retKE (vRet env [.cell 4 30] (.s [.o 90 7]) [(2000, (true))] [2000] r O))).1 (kont Try.prog env impl_renamedClause_impl_Shift_1_h 34 (bodyOf Try.f131) [1, 1, 0, 1, 0, 0] (vRet env [.cell 4 30] (.s [.o 90 7]) [(2000, (true))] [2000] r O) (retKE (vRet env [.cell 4 30] (.s [.o 90 7]) [(2000, (true))] [2000] r O))).2 ⟨[(1, (.one (.clo 132 [(2000, 0)]))), (4, (.one (.op 1900 0))), (5, (.one (.op 1901 0))), (10, (L s10)), (11, (Z s11)), (12, (Z s12))], [(2000, (.var [(.d (.int .i64 o2000))])), (1900, (.var [.e0])), (1901, (.var [(.ol 1902)])), (1902, (.tr 90 7 out))]⟩
theorem impl_renamedClause_impl_Shift_1_L3_of {r : AV} {O : List (Nat × Ob)} {s10 : List (List Da)} {s11 : Int} {s12 : Int} {o2000 : Int} {out : List (List Da)} (h : ifB (decide (s12 < s11))
  ((∃ (m : Nat), (s12 = ((↑m : Int)) ∧ (∃ (b : Bool), (∃ (n : Int), (∃ (n1 : Int), (∃ (xs : List (List Da)), (∃ (n2 : Int), (∃ (n3 : Int), (∃ (xs1 : List (List Da)), ((s10[m]?) = some [(.bool b), (.int .i64 n), (.int .i64 n1), (.sl xs), (.int .i64 n2), (.int .i64 n3), (.sl xs1)] ∧ (∃ (n4 : Int), (∃ (n5 : Int), (∃ (xs2 : List (List Da)), (∃ (m1 : Int), (XC Try.prog 176 [(.dat [(.int .i64 n), (.int .i64 n1), (.sl xs)]), (.one (.clo 132 [(2000, 0)]))] [(2000, (.var [(.d (.int .i64 o2000))]))] (.agg [(.d (.int .i64 n4)), (.d (.int .i64 n5)), (.ol 0)]) [(2000, (.var [(.d (.int .i64 m1))])), (0, (.tr 49 3 xs2))] ∧ (∃ (n6 : Int), (∃ (n7 : Int), (∃ (xs3 : List (List Da)), (∃ (m2 : Int), (XC Try.prog 176 [(.dat [(.int .i64 n2), (.int .i64 n3), (.sl xs1)]), (.one (.clo 132 [(2000, 0)]))] [(2000, (.var [(.d (.int .i64 m1))]))] (.agg [(.d (.int .i64 n6)), (.d (.int .i64 n7)), (.ol 0)]) [(2000, (.var [(.d (.int .i64 m2))])), (0, (.tr 49 3 xs3))] ∧ (Do ((List.length out + List.length [[Da.bool b, Da.int IntKind.i64 n4, Da.int IntKind.i64 n5, Da.sl xs2, Da.int IntKind.i64 n6, Da.int IntKind.i64 n7, Da.sl xs3]]) * (88 : Nat) ≤ (140737488355328 : Nat)) ∧ impl_renamedClause_impl_Shift_1_L3 r O s10 s11 (IntKind.wrap IntKind.i64 (s12 + (1 : Int))) m2 (out ++ [[Da.bool b, Da.int IntKind.i64 n4, Da.int IntKind.i64 n5, Da.sl xs2, Da.int IntKind.i64 n6, Da.int IntKind.i64 n7, Da.sl xs3]])))))))))))))))))))))))
  (((.agg [(.ol 0)]) = r ∧ [(2000, (.var [(.d (.int .i64 o2000))])), (0, (.tr 90 7 out))] = O))) : impl_renamedClause_impl_Shift_1_L3 r O s10 s11 s12 o2000 out := by
  unfold impl_renamedClause_impl_Shift_1_L3
  refine cl_of (E := env) (hs := impl_renamedClause_impl_Shift_1_h) envOk mixed ?_
  exact to_vc (by kernel_rfl) h
theorem impl_renamedClause_impl_Shift_1_of {c : List (List Da)} {o2000 : Int} {r : AV} {O : List (Nat × Ob)} (h : impl_renamedClause_impl_Shift_1_L3 r O c ((↑(List.length c) : Int)) ((0 : Int)) o2000 []) : XC Try.prog 131 [(.dat [(.sl c)]), (.one (.clo 132 [(2000, 0)]))] [(2000, (.var [(.d (.int .i64 o2000))]))] r O :=
  xc_of (E := env) (hs := impl_renamedClause_impl_Shift_1_h) (c := (bodyOf Try.f131)) (n := 34) (res := [.cell 4 30]) (rs := .s [.o 90 7]) (ks := [(2000, (true))]) (dir := [2000]) envOk mixed rfl Try.func131 (by kernel_rfl) (by kernel_rfl) (by kernel_rfl) (by kernel_rfl) (to_vc (by kernel_rfl) h)

/-- loop.example/g00461/laws.eqLitS -/
def laws_eqLitS_h : Hints := ⟨[(4, ⟨[0, 1, 5], [], [], [], [], [], []⟩)], []⟩
def laws_eqLitS_L4 (r : AV) (O : List (Nat × Ob)) (a : List (List Da)) (b : List (List Da)) (i : Int) : Prop := CL 27 Try.prog (subC (bodyOf Try.f91) [1, 1, 0, 1, 0, 0]) (kont Try.prog env laws_eqLitS_h 27 (bodyOf Try.f91) [1, 1, 0, 1, 0, 0] (vRet env [.tmp 4] (.c .b) [] [] r O) (retKE (vRet env [.tmp 4] (.c .b) [] [] r O))).1 (kont Try.prog env laws_eqLitS_h 27 (bodyOf Try.f91) [1, 1, 0, 1, 0, 0] (vRet env [.tmp 4] (.c .b) [] [] r O) (retKE (vRet env [.tmp 4] (.c .b) [] [] r O))).2 ⟨[(0, (L a)), (1, (L b)), (5, (Z i))], []⟩
theorem laws_eqLitS_L4_of {r : AV} {O : List (Nat × Ob)} {a : List (List Da)} {b : List (List Da)} {i : Int} (h : ifB (decide (i < (↑(List.length a) : Int)))
  ((∃ (m : Nat), (i = ((↑m : Int)) ∧ (∃ (b2 : Bool), (∃ (n : Int), (∃ (n1 : Int), (∃ (xs : List (List Da)), (∃ (n2 : Int), (∃ (n3 : Int), (∃ (xs1 : List (List Da)), ((a[m]?) = some [(.bool b2), (.int .i64 n), (.int .i64 n1), (.sl xs), (.int .i64 n2), (.int .i64 n3), (.sl xs1)] ∧ (∃ (m1 : Nat), (i = ((↑m1 : Int)) ∧ (∃ (b3 : Bool), (∃ (n4 : Int), (∃ (n5 : Int), (∃ (xs2 : List (List Da)), (∃ (n6 : Int), (∃ (n7 : Int), (∃ (xs3 : List (List Da)), ((b[m1]?) = some [(.bool b3), (.int .i64 n4), (.int .i64 n5), (.sl xs2), (.int .i64 n6), (.int .i64 n7), (.sl xs3)] ∧ (∃ (b4 : Bool), (XC Try.prog 64 [(.dat [(.bool b2), (.int .i64 n), (.int .i64 n1), (.sl xs), (.int .i64 n2), (.int .i64 n3), (.sl xs1)]), (.dat [(.bool b3), (.int .i64 n4), (.int .i64 n5), (.sl xs2), (.int .i64 n6), (.int .i64 n7), (.sl xs3)])] [] (B b4) [] ∧ ifB (!b4)
  (((B (false)) = r ∧ [] = O))
  (laws_eqLitS_L4 r O a b (IntKind.wrap IntKind.i64 (i + (1 : Int)))))))))))))))))))))))))))
  (((B (true)) = r ∧ [] = O))) : laws_eqLitS_L4 r O a b i := by
  unfold laws_eqLitS_L4
  refine cl_of (E := env) (hs := laws_eqLitS_h) envOk mixed ?_
  exact to_vc (by kernel_rfl) h
theorem laws_eqLitS_of {a : List (List Da)} {b : List (List Da)} {r : AV} {O : List (Nat × Ob)} (h : ifB (decide ((↑(List.length a) : Int) ≠ (↑(List.length b) : Int)))
  (((B (false)) = r ∧ [] = O))
  (laws_eqLitS_L4 r O a b ((0 : Int)))) : XC Try.prog 91 [(L a), (L b)] [] r O :=
  xc_of (E := env) (hs := laws_eqLitS_h) (c := (bodyOf Try.f91)) (n := 27) (res := [.tmp 4]) (rs := .c .b) (ks := []) (dir := []) envOk mixed rfl Try.func91 (by kernel_rfl) (by kernel_rfl) (by kernel_rfl) (by kernel_rfl) (to_vc (by kernel_rfl) h)

/-- loop.example/g00461/laws.markLitS -/
def laws_markLitS_h : Hints := ⟨[(2, ⟨[0, 1, 5], [], [], [], [], [], []⟩)], []⟩
def laws_markLitS_L2 (r : AV) (O : List (Nat × Ob)) (s1 : Int) (s5 : Int) (s0 : List (List Da)) : Prop := CL 70 Try.prog (subC (bodyOf Try.f94) [1, 0, 1, 0, 0]) (kont Try.prog env laws_markLitS_h 70 (bodyOf Try.f94) [1, 0, 1, 0, 0] (vRet env [.tmp 4] (.c (.i .i64)) [(2000, (false))] [2000] r O) (retKE (vRet env [.tmp 4] (.c (.i .i64)) [(2000, (false))] [2000] r O))).1 (kont Try.prog env laws_markLitS_h 70 (bodyOf Try.f94) [1, 0, 1, 0, 0] (vRet env [.tmp 4] (.c (.i .i64)) [(2000, (false))] [2000] r O) (retKE (vRet env [.tmp 4] (.c (.i .i64)) [(2000, (false))] [2000] r O))).2 ⟨[(0, (.one (.ol 2000))), (1, (Z s1)), (5, (Z s5))], [(2000, (.mt 90 7 s0))]⟩
theorem laws_markLitS_L2_of {r : AV} {O : List (Nat × Ob)} {s1 : Int} {s5 : Int} {s0 : List (List Da)} (h : ifB (decide (s5 < (↑(List.length s0) : Int)))
  ((Do ((3 : Int) ≠ (0 : Int)) ∧ (∃ (m : Nat), (s5 = ((↑m : Int)) ∧ (Do (m < List.length s0) ∧ (∃ (m1 : Nat), ((m * (7 : Nat) + (0 : Nat)) = (m1 * (7 : Nat) + (0 : Nat)) ∧ (∃ (b : Bool), (∃ (n : Int), (∃ (n1 : Int), (∃ (xs : List (List Da)), (∃ (n2 : Int), (∃ (n3 : Int), (∃ (xs1 : List (List Da)), ((s0[m1]?) = some [(.bool b), (.int .i64 n), (.int .i64 n1), (.sl xs), (.int .i64 n2), (.int .i64 n3), (.sl xs1)] ∧ (∃ (m2 : Nat), (s5 = ((↑m2 : Int)) ∧ (Do (m2 < List.length (List.set s0 m1 ([] ++ [Da.bool (decide (Int.tmod s1 (3 : Int) = (0 : Int)))] ++ [Da.int IntKind.i64 n, Da.int IntKind.i64 n1, Da.sl xs, Da.int IntKind.i64 n2, Da.int IntKind.i64 n3, Da.sl xs1]))) ∧ (∃ (m3 : Nat), ((m2 * (7 : Nat) + (1 : Nat) + (0 : Nat)) = (m3 * (7 : Nat) + Nat.succ (nat_lit 0)) ∧ (∃ (b1 : Bool), (∃ (n4 : Int), (∃ (n5 : Int), (∃ (xs2 : List (List Da)), (∃ (n6 : Int), (∃ (n7 : Int), (∃ (xs3 : List (List Da)), (((List.set s0 m1 ([] ++ [Da.bool (decide (Int.tmod s1 (3 : Int) = (0 : Int)))] ++ [Da.int IntKind.i64 n, Da.int IntKind.i64 n1, Da.sl xs, Da.int IntKind.i64 n2, Da.int IntKind.i64 n3, Da.sl xs1]))[m3]?) = some [(.bool b1), (.int .i64 n4), (.int .i64 n5), (.sl xs2), (.int .i64 n6), (.int .i64 n7), (.sl xs3)] ∧ (∃ (m4 : Nat), (s5 = ((↑m4 : Int)) ∧ (Do (m4 < List.length (List.set (List.set s0 m1 ([] ++ [Da.bool (decide (Int.tmod s1 (3 : Int) = (0 : Int)))] ++ [Da.int IntKind.i64 n, Da.int IntKind.i64 n1, Da.sl xs, Da.int IntKind.i64 n2, Da.int IntKind.i64 n3, Da.sl xs1])) m3 ([Da.bool b1] ++ [Da.int IntKind.i64 (IntKind.wrap IntKind.i64 (s1 + (1 : Int)))] ++ [Da.int IntKind.i64 n5, Da.sl xs2, Da.int IntKind.i64 n6, Da.int IntKind.i64 n7, Da.sl xs3]))) ∧ (∃ (m5 : Nat), ((m4 * (7 : Nat) + (1 : Nat) + (1 : Nat)) = (m5 * (7 : Nat) + Nat.succ (nat_lit 1)) ∧ (∃ (b2 : Bool), (∃ (n8 : Int), (∃ (n9 : Int), (∃ (xs4 : List (List Da)), (∃ (n10 : Int), (∃ (n11 : Int), (∃ (xs5 : List (List Da)), (((List.set (List.set s0 m1 ([] ++ [Da.bool (decide (Int.tmod s1 (3 : Int) = (0 : Int)))] ++ [Da.int IntKind.i64 n, Da.int IntKind.i64 n1, Da.sl xs, Da.int IntKind.i64 n2, Da.int IntKind.i64 n3, Da.sl xs1])) m3 ([Da.bool b1] ++ [Da.int IntKind.i64 (IntKind.wrap IntKind.i64 (s1 + (1 : Int)))] ++ [Da.int IntKind.i64 n5, Da.sl xs2, Da.int IntKind.i64 n6, Da.int IntKind.i64 n7, Da.sl xs3]))[m5]?) = some [(.bool b2), (.int .i64 n8), (.int .i64 n9), (.sl xs4), (.int .i64 n10), (.int .i64 n11), (.sl xs5)] ∧ (∃ (m6 : Nat), (s5 = ((↑m6 : Int)) ∧ (Do (m6 < List.length (List.set (List.set (List.set s0 m1 ([] ++ [Da.bool (decide (Int.tmod s1 (3 : Int) = (0 : Int)))] ++ [Da.int IntKind.i64 n, Da.int IntKind.i64 n1, Da.sl xs, Da.int IntKind.i64 n2, Da.int IntKind.i64 n3, Da.sl xs1])) m3 ([Da.bool b1] ++ [Da.int IntKind.i64 (IntKind.wrap IntKind.i64 (s1 + (1 : Int)))] ++ [Da.int IntKind.i64 n5, Da.sl xs2, Da.int IntKind.i64 n6, Da.int IntKind.i64 n7, Da.sl xs3])) m5 ([Da.bool b2, Da.int IntKind.i64 n8] ++ [Da.int IntKind.i64 (IntKind.wrap IntKind.i64 (IntKind.wrap IntKind.i64 (s1 + (1 : Int)) + (1 : Int)))] ++ [Da.sl xs4, Da.int IntKind.i64 n10, Da.int IntKind.i64 n11, Da.sl xs5]))) ∧ (∃ (m7 : Nat), ((m6 * (7 : Nat) + (1 : Nat) + (2 : Nat)) = (m7 * (7 : Nat) + Nat.succ (nat_lit 2)) ∧ (∃ (b3 : Bool), (∃ (n12 : Int), (∃ (n13 : Int), (∃ (xs6 : List (List Da)), (∃ (n14 : Int), (∃ (n15 : Int), (∃ (xs7 : List (List Da)), (((List.set (List.set (List.set s0 m1 ([] ++ [Da.bool (decide (Int.tmod s1 (3 : Int) = (0 : Int)))] ++ [Da.int IntKind.i64 n, Da.int IntKind.i64 n1, Da.sl xs, Da.int IntKind.i64 n2, Da.int IntKind.i64 n3, Da.sl xs1])) m3 ([Da.bool b1] ++ [Da.int IntKind.i64 (IntKind.wrap IntKind.i64 (s1 + (1 : Int)))] ++ [Da.int IntKind.i64 n5, Da.sl xs2, Da.int IntKind.i64 n6, Da.int IntKind.i64 n7, Da.sl xs3])) m5 ([Da.bool b2, Da.int IntKind.i64 n8] ++ [Da.int IntKind.i64 (IntKind.wrap IntKind.i64 (IntKind.wrap IntKind.i64 (s1 + (1 : Int)) + (1 : Int)))] ++ [Da.sl xs4, Da.int IntKind.i64 n10, Da.int IntKind.i64 n11, Da.sl xs5]))[m7]?) = some [(.bool b3), (.int .i64 n12), (.int .i64 n13), (.sl xs6), (.int .i64 n14), (.int .i64 n15), (.sl xs7)] ∧ (∀ (a : Option Addr), (∀ (l : Nat), (∀ (r1 : Nat), ((a = a ∧ ((l) = (l) ∧ (r1) = (r1))) ∧ (∃ (b4 : Bool), (∃ (n16 : Int), (∃ (n17 : Int), (∃ (xs8 : List (List Da)), (∃ (n18 : Int), (∃ (n19 : Int), (∃ (xs9 : List (List Da)), (((List.set (List.set (List.set s0 m1 ([] ++ [Da.bool (decide (Int.tmod s1 (3 : Int) = (0 : Int)))] ++ [Da.int IntKind.i64 n, Da.int IntKind.i64 n1, Da.sl xs, Da.int IntKind.i64 n2, Da.int IntKind.i64 n3, Da.sl xs1])) m3 ([Da.bool b1] ++ [Da.int IntKind.i64 (IntKind.wrap IntKind.i64 (s1 + (1 : Int)))] ++ [Da.int IntKind.i64 n5, Da.sl xs2, Da.int IntKind.i64 n6, Da.int IntKind.i64 n7, Da.sl xs3])) m5 ([Da.bool b2, Da.int IntKind.i64 n8] ++ [Da.int IntKind.i64 (IntKind.wrap IntKind.i64 (IntKind.wrap IntKind.i64 (s1 + (1 : Int)) + (1 : Int)))] ++ [Da.sl xs4, Da.int IntKind.i64 n10, Da.int IntKind.i64 n11, Da.sl xs5]))[m7]?) = some [(.bool b4), (.int .i64 n16), (.int .i64 n17), (.sl xs8), (.int .i64 n18), (.int .i64 n19), (.sl xs9)] ∧ (Do (∀ (y : List Da), y ∈ xs8 → List.length y = Prod.fst ((3 : Nat), (40 : Nat), [At.d (Da.int IntKind.i64 (0 : Int)), At.d (Da.int IntKind.i64 (0 : Int)), At.e0])) ∧ (∃ (ys1 : List (List Da)), (∃ (n20 : Int), (XC Try.prog 126 [(.one (.ol 2000)), (Z (IntKind.wrap IntKind.i64 (IntKind.wrap IntKind.i64 (IntKind.wrap IntKind.i64 (s1 + (1 : Int)) + (1 : Int)) + (1 : Int))))] [(2000, (.mt 49 3 xs8))] (Z n20) [(2000, (.mt 49 3 ys1))] ∧ (∃ (m8 : Nat), (s5 = ((↑m8 : Int)) ∧ (Do (m8 < List.length (List.set (List.set (List.set (List.set s0 m1 ([] ++ [Da.bool (decide (Int.tmod s1 (3 : Int) = (0 : Int)))] ++ [Da.int IntKind.i64 n, Da.int IntKind.i64 n1, Da.sl xs, Da.int IntKind.i64 n2, Da.int IntKind.i64 n3, Da.sl xs1])) m3 ([Da.bool b1] ++ [Da.int IntKind.i64 (IntKind.wrap IntKind.i64 (s1 + (1 : Int)))] ++ [Da.int IntKind.i64 n5, Da.sl xs2, Da.int IntKind.i64 n6, Da.int IntKind.i64 n7, Da.sl xs3])) m5 ([Da.bool b2, Da.int IntKind.i64 n8] ++ [Da.int IntKind.i64 (IntKind.wrap IntKind.i64 (IntKind.wrap IntKind.i64 (s1 + (1 : Int)) + (1 : Int)))] ++ [Da.sl xs4, Da.int IntKind.i64 n10, Da.int IntKind.i64 n11, Da.sl xs5])) m7 ([Da.bool b4, Da.int IntKind.i64 n16, Da.int IntKind.i64 n17] ++ [Da.sl ys1] ++ [Da.int IntKind.i64 n18, Da.int IntKind.i64 n19, Da.sl xs9]))) ∧ (∃ (m9 : Nat), ((m8 * (7 : Nat) + (4 : Nat) + (0 : Nat)) = (m9 * (7 : Nat) + Nat.succ (nat_lit 3)) ∧ (∃ (b5 : Bool), (∃ (n21 : Int), (∃ (n22 : Int), (∃ (xs10 : List (List Da)), (∃ (n23 : Int), (∃ (n24 : Int), (∃ (xs11 : List (List Da)), (((List.set (List.set (List.set (List.set s0 m1 ([] ++ [Da.bool (decide (Int.tmod s1 (3 : Int) = (0 : Int)))] ++ [Da.int IntKind.i64 n, Da.int IntKind.i64 n1, Da.sl xs, Da.int IntKind.i64 n2, Da.int IntKind.i64 n3, Da.sl xs1])) m3 ([Da.bool b1] ++ [Da.int IntKind.i64 (IntKind.wrap IntKind.i64 (s1 + (1 : Int)))] ++ [Da.int IntKind.i64 n5, Da.sl xs2, Da.int IntKind.i64 n6, Da.int IntKind.i64 n7, Da.sl xs3])) m5 ([Da.bool b2, Da.int IntKind.i64 n8] ++ [Da.int IntKind.i64 (IntKind.wrap IntKind.i64 (IntKind.wrap IntKind.i64 (s1 + (1 : Int)) + (1 : Int)))] ++ [Da.sl xs4, Da.int IntKind.i64 n10, Da.int IntKind.i64 n11, Da.sl xs5])) m7 ([Da.bool b4, Da.int IntKind.i64 n16, Da.int IntKind.i64 n17] ++ [Da.sl ys1] ++ [Da.int IntKind.i64 n18, Da.int IntKind.i64 n19, Da.sl xs9]))[m9]?) = some [(.bool b5), (.int .i64 n21), (.int .i64 n22), (.sl xs10), (.int .i64 n23), (.int .i64 n24), (.sl xs11)] ∧ (∃ (m10 : Nat), (s5 = ((↑m10 : Int)) ∧ (Do (m10 < List.length (List.set (List.set (List.set (List.set (List.set s0 m1 ([] ++ [Da.bool (decide (Int.tmod s1 (3 : Int) = (0 : Int)))] ++ [Da.int IntKind.i64 n, Da.int IntKind.i64 n1, Da.sl xs, Da.int IntKind.i64 n2, Da.int IntKind.i64 n3, Da.sl xs1])) m3 ([Da.bool b1] ++ [Da.int IntKind.i64 (IntKind.wrap IntKind.i64 (s1 + (1 : Int)))] ++ [Da.int IntKind.i64 n5, Da.sl xs2, Da.int IntKind.i64 n6, Da.int IntKind.i64 n7, Da.sl xs3])) m5 ([Da.bool b2, Da.int IntKind.i64 n8] ++ [Da.int IntKind.i64 (IntKind.wrap IntKind.i64 (IntKind.wrap IntKind.i64 (s1 + (1 : Int)) + (1 : Int)))] ++ [Da.sl xs4, Da.int IntKind.i64 n10, Da.int IntKind.i64 n11, Da.sl xs5])) m7 ([Da.bool b4, Da.int IntKind.i64 n16, Da.int IntKind.i64 n17] ++ [Da.sl ys1] ++ [Da.int IntKind.i64 n18, Da.int IntKind.i64 n19, Da.sl xs9])) m9 ([Da.bool b5, Da.int IntKind.i64 n21, Da.int IntKind.i64 n22, Da.sl xs10] ++ [Da.int IntKind.i64 n20] ++ [Da.int IntKind.i64 n24, Da.sl xs11]))) ∧ (∃ (m11 : Nat), ((m10 * (7 : Nat) + (4 : Nat) + (1 : Nat)) = (m11 * (7 : Nat) + Nat.succ (nat_lit 4)) ∧ (∃ (b6 : Bool), (∃ (n25 : Int), (∃ (n26 : Int), (∃ (xs12 : List (List Da)), (∃ (n27 : Int), (∃ (n28 : Int), (∃ (xs13 : List (List Da)), (((List.set (List.set (List.set (List.set (List.set s0 m1 ([] ++ [Da.bool (decide (Int.tmod s1 (3 : Int) = (0 : Int)))] ++ [Da.int IntKind.i64 n, Da.int IntKind.i64 n1, Da.sl xs, Da.int IntKind.i64 n2, Da.int IntKind.i64 n3, Da.sl xs1])) m3 ([Da.bool b1] ++ [Da.int IntKind.i64 (IntKind.wrap IntKind.i64 (s1 + (1 : Int)))] ++ [Da.int IntKind.i64 n5, Da.sl xs2, Da.int IntKind.i64 n6, Da.int IntKind.i64 n7, Da.sl xs3])) m5 ([Da.bool b2, Da.int IntKind.i64 n8] ++ [Da.int IntKind.i64 (IntKind.wrap IntKind.i64 (IntKind.wrap IntKind.i64 (s1 + (1 : Int)) + (1 : Int)))] ++ [Da.sl xs4, Da.int IntKind.i64 n10, Da.int IntKind.i64 n11, Da.sl xs5])) m7 ([Da.bool b4, Da.int IntKind.i64 n16, Da.int IntKind.i64 n17] ++ [Da.sl ys1] ++ [Da.int IntKind.i64 n18, Da.int IntKind.i64 n19, Da.sl xs9])) m9 ([Da.bool b5, Da.int IntKind.i64 n21, Da.int IntKind.i64 n22, Da.sl xs10] ++ [Da.int IntKind.i64 n20] ++ [Da.int IntKind.i64 n24, Da.sl xs11]))[m11]?) = some [(.bool b6), (.int .i64 n25), (.int .i64 n26), (.sl xs12), (.int .i64 n27), (.int .i64 n28), (.sl xs13)] ∧ (∃ (m12 : Nat), (s5 = ((↑m12 : Int)) ∧ (Do (m12 < List.length (List.set (List.set (List.set (List.set (List.set (List.set s0 m1 ([] ++ [Da.bool (decide (Int.tmod s1 (3 : Int) = (0 : Int)))] ++ [Da.int IntKind.i64 n, Da.int IntKind.i64 n1, Da.sl xs, Da.int IntKind.i64 n2, Da.int IntKind.i64 n3, Da.sl xs1])) m3 ([Da.bool b1] ++ [Da.int IntKind.i64 (IntKind.wrap IntKind.i64 (s1 + (1 : Int)))] ++ [Da.int IntKind.i64 n5, Da.sl xs2, Da.int IntKind.i64 n6, Da.int IntKind.i64 n7, Da.sl xs3])) m5 ([Da.bool b2, Da.int IntKind.i64 n8] ++ [Da.int IntKind.i64 (IntKind.wrap IntKind.i64 (IntKind.wrap IntKind.i64 (s1 + (1 : Int)) + (1 : Int)))] ++ [Da.sl xs4, Da.int IntKind.i64 n10, Da.int IntKind.i64 n11, Da.sl xs5])) m7 ([Da.bool b4, Da.int IntKind.i64 n16, Da.int IntKind.i64 n17] ++ [Da.sl ys1] ++ [Da.int IntKind.i64 n18, Da.int IntKind.i64 n19, Da.sl xs9])) m9 ([Da.bool b5, Da.int IntKind.i64 n21, Da.int IntKind.i64 n22, Da.sl xs10] ++ [Da.int IntKind.i64 n20] ++ [Da.int IntKind.i64 n24, Da.sl xs11])) m11 ([Da.bool b6, Da.int IntKind.i64 n25, Da.int IntKind.i64 n26, Da.sl xs12, Da.int IntKind.i64 n27] ++ [Da.int IntKind.i64 (IntKind.wrap IntKind.i64 (n20 + (1 : Int)))] ++ [Da.sl xs13]))) ∧ (∃ (m13 : Nat), ((m12 * (7 : Nat) + (4 : Nat) + (2 : Nat)) = (m13 * (7 : Nat) + Nat.succ (nat_lit 5)) ∧ (∃ (b7 : Bool), (∃ (n29 : Int), (∃ (n30 : Int), (∃ (xs14 : List (List Da)), (∃ (n31 : Int), (∃ (n32 : Int), (∃ (xs15 : List (List Da)), (((List.set (List.set (List.set (List.set (List.set (List.set s0 m1 ([] ++ [Da.bool (decide (Int.tmod s1 (3 : Int) = (0 : Int)))] ++ [Da.int IntKind.i64 n, Da.int IntKind.i64 n1, Da.sl xs, Da.int IntKind.i64 n2, Da.int IntKind.i64 n3, Da.sl xs1])) m3 ([Da.bool b1] ++ [Da.int IntKind.i64 (IntKind.wrap IntKind.i64 (s1 + (1 : Int)))] ++ [Da.int IntKind.i64 n5, Da.sl xs2, Da.int IntKind.i64 n6, Da.int IntKind.i64 n7, Da.sl xs3])) m5 ([Da.bool b2, Da.int IntKind.i64 n8] ++ [Da.int IntKind.i64 (IntKind.wrap IntKind.i64 (IntKind.wrap IntKind.i64 (s1 + (1 : Int)) + (1 : Int)))] ++ [Da.sl xs4, Da.int IntKind.i64 n10, Da.int IntKind.i64 n11, Da.sl xs5])) m7 ([Da.bool b4, Da.int IntKind.i64 n16, Da.int IntKind.i64 n17] ++ [Da.sl ys1] ++ [Da.int IntKind.i64 n18, Da.int IntKind.i64 n19, Da.sl xs9])) m9 ([Da.bool b5, Da.int IntKind.i64 n21, Da.int IntKind.i64 n22, Da.sl xs10] ++ [Da.int IntKind.i64 n20] ++ [Da.int IntKind.i64 n24, Da.sl xs11])) m11 ([Da.bool b6, Da.int IntKind.i64 n25, Da.int IntKind.i64 n26, Da.sl xs12, Da.int IntKind.i64 n27] ++ [Da.int IntKind.i64 (IntKind.wrap IntKind.i64 (n20 + (1 : Int)))] ++ [Da.sl xs13]))[m13]?) = some [(.bool b7), (.int .i64 n29), (.int .i64 n30), (.sl xs14), (.int .i64 n31), (.int .i64 n32), (.sl xs15)] ∧ (∀ (a1 : Option Addr), (∀ (l1 : Nat), (∀ (r2 : Nat), ((a1 = a1 ∧ ((l1) = (l1) ∧ (r2) = (r2))) ∧ (∃ (b8 : Bool), (∃ (n33 : Int), (∃ (n34 : Int), (∃ (xs16 : List (List Da)), (∃ (n35 : Int), (∃ (n36 : Int), (∃ (xs17 : List (List Da)), (((List.set (List.set (List.set (List.set (List.set (List.set s0 m1 ([] ++ [Da.bool (decide (Int.tmod s1 (3 : Int) = (0 : Int)))] ++ [Da.int IntKind.i64 n, Da.int IntKind.i64 n1, Da.sl xs, Da.int IntKind.i64 n2, Da.int IntKind.i64 n3, Da.sl xs1])) m3 ([Da.bool b1] ++ [Da.int IntKind.i64 (IntKind.wrap IntKind.i64 (s1 + (1 : Int)))] ++ [Da.int IntKind.i64 n5, Da.sl xs2, Da.int IntKind.i64 n6, Da.int IntKind.i64 n7, Da.sl xs3])) m5 ([Da.bool b2, Da.int IntKind.i64 n8] ++ [Da.int IntKind.i64 (IntKind.wrap IntKind.i64 (IntKind.wrap IntKind.i64 (s1 + (1 : Int)) + (1 : Int)))] ++ [Da.sl xs4, Da.int IntKind.i64 n10, Da.int IntKind.i64 n11, Da.sl xs5])) m7 ([Da.bool b4, Da.int IntKind.i64 n16, Da.int IntKind.i64 n17] ++ [Da.sl ys1] ++ [Da.int IntKind.i64 n18, Da.int IntKind.i64 n19, Da.sl xs9])) m9 ([Da.bool b5, Da.int IntKind.i64 n21, Da.int IntKind.i64 n22, Da.sl xs10] ++ [Da.int IntKind.i64 n20] ++ [Da.int IntKind.i64 n24, Da.sl xs11])) m11 ([Da.bool b6, Da.int IntKind.i64 n25, Da.int IntKind.i64 n26, Da.sl xs12, Da.int IntKind.i64 n27] ++ [Da.int IntKind.i64 (IntKind.wrap IntKind.i64 (n20 + (1 : Int)))] ++ [Da.sl xs13]))[m13]?) = some [(.bool b8), (.int .i64 n33), (.int .i64 n34), (.sl xs16), (.int .i64 n35), (.int .i64 n36), (.sl xs17)] ∧ (Do (∀ (y : List Da), y ∈ xs17 → List.length y = Prod.fst ((3 : Nat), (40 : Nat), [At.d (Da.int IntKind.i64 (0 : Int)), At.d (Da.int IntKind.i64 (0 : Int)), At.e0])) ∧ (∃ (ys11 : List (List Da)), (∃ (n37 : Int), (XC Try.prog 126 [(.one (.ol 2000)), (Z (IntKind.wrap IntKind.i64 (IntKind.wrap IntKind.i64 (n20 + (1 : Int)) + (1 : Int))))] [(2000, (.mt 49 3 xs17))] (Z n37) [(2000, (.mt 49 3 ys11))] ∧ laws_markLitS_L2 r O n37 (IntKind.wrap IntKind.i64 (s5 + (1 : Int))) (List.set (List.set (List.set (List.set (List.set (List.set (List.set s0 m1 ([] ++ [Da.bool (decide (Int.tmod s1 (3 : Int) = (0 : Int)))] ++ [Da.int IntKind.i64 n, Da.int IntKind.i64 n1, Da.sl xs, Da.int IntKind.i64 n2, Da.int IntKind.i64 n3, Da.sl xs1])) m3 ([Da.bool b1] ++ [Da.int IntKind.i64 (IntKind.wrap IntKind.i64 (s1 + (1 : Int)))] ++ [Da.int IntKind.i64 n5, Da.sl xs2, Da.int IntKind.i64 n6, Da.int IntKind.i64 n7, Da.sl xs3])) m5 ([Da.bool b2, Da.int IntKind.i64 n8] ++ [Da.int IntKind.i64 (IntKind.wrap IntKind.i64 (IntKind.wrap IntKind.i64 (s1 + (1 : Int)) + (1 : Int)))] ++ [Da.sl xs4, Da.int IntKind.i64 n10, Da.int IntKind.i64 n11, Da.sl xs5])) m7 ([Da.bool b4, Da.int IntKind.i64 n16, Da.int IntKind.i64 n17] ++ [Da.sl ys1] ++ [Da.int IntKind.i64 n18, Da.int IntKind.i64 n19, Da.sl xs9])) m9 ([Da.bool b5, Da.int IntKind.i64 n21, Da.int IntKind.i64 n22, Da.sl xs10] ++ [Da.int IntKind.i64 n20] ++ [Da.int IntKind.i64 n24, Da.sl xs11])) m11 ([Da.bool b6, Da.int IntKind.i64 n25, Da.int IntKind.i64 n26, Da.sl xs12, Da.int IntKind.i64 n27] ++ [Da.int IntKind.i64 (IntKind.wrap IntKind.i64 (n20 + (1 : Int)))] ++ [Da.sl xs13])) m13 ([Da.bool b8, Da.int IntKind.i64 n33, Da.int IntKind.i64 n34, Da.sl xs16, Da.int IntKind.i64 n35, Da.int IntKind.i64 n36] ++ [Da.sl ys11] ++ [])))))))))))))))))))))))))))))))))))))))))))))))))))))))))))))))))))))))))))))))))))))))))))))))))))))))))))))))))))))))))))))))
  (((Z s1) = r ∧ [(2000, (.mt 90 7 s0))] = O))) : laws_markLitS_L2 r O s1 s5 s0 := by
  unfold laws_markLitS_L2
  refine cl_of (E := env) (hs := laws_markLitS_h) envOk mixed ?_
  exact to_vc (by kernel_rfl) h
theorem laws_markLitS_of {p : Int} {o2000 : List (List Da)} {r : AV} {O : List (Nat × Ob)} (h : laws_markLitS_L2 r O p ((0 : Int)) o2000) : XC Try.prog 94 [(.one (.ol 2000)), (Z p)] [(2000, (.mt 90 7 o2000))] r O :=
  xc_of (E := env) (hs := laws_markLitS_h) (c := (bodyOf Try.f94)) (n := 70) (res := [.tmp 4]) (rs := .c (.i .i64)) (ks := [(2000, (false))]) (dir := [2000]) envOk mixed rfl Try.func94 (by kernel_rfl) (by kernel_rfl) (by kernel_rfl) (by kernel_rfl) (to_vc (by kernel_rfl) h)

/-- loop.example/g00461/laws.heldLitS -/
def laws_heldLitS_h : Hints := ⟨[(2, ⟨[0, 1, 5], [], [], [], [], [], []⟩)], []⟩
def laws_heldLitS_L2 (r : AV) (O : List (Nat × Ob)) (s0 : List (List Da)) (s1 : Int) (s5 : Int) : Prop := CL 84 Try.prog (subC (bodyOf Try.f95) [1, 0, 1, 0, 0]) (kont Try.prog env laws_heldLitS_h 84 (bodyOf Try.f95) [1, 0, 1, 0, 0] (vRet env [.tmp 4] (.c (.i .i64)) [] [] r O) (retKE (vRet env [.tmp 4] (.c (.i .i64)) [] [] r O))).1 (kont Try.prog env laws_heldLitS_h 84 (bodyOf Try.f95) [1, 0, 1, 0, 0] (vRet env [.tmp 4] (.c (.i .i64)) [] [] r O) (retKE (vRet env [.tmp 4] (.c (.i .i64)) [] [] r O))).2 ⟨[(0, (L s0)), (1, (Z s1)), (5, (Z s5))], []⟩
theorem laws_heldLitS_L2_of {r : AV} {O : List (Nat × Ob)} {s0 : List (List Da)} {s1 : Int} {s5 : Int} (h : ifB (decide (s5 < (↑(List.length s0) : Int)))
  ((∃ (m : Nat), (s5 = ((↑m : Int)) ∧ (∃ (b : Bool), (∃ (n : Int), (∃ (n1 : Int), (∃ (xs : List (List Da)), (∃ (n2 : Int), (∃ (n3 : Int), (∃ (xs1 : List (List Da)), ((s0[m]?) = some [(.bool b), (.int .i64 n), (.int .i64 n1), (.sl xs), (.int .i64 n2), (.int .i64 n3), (.sl xs1)] ∧ (Do ((3 : Int) ≠ (0 : Int)) ∧ ifB (decide (b ≠ decide (Int.tmod s1 (3 : Int) = (0 : Int))))
  (((Z ((-1 : Int))) = r ∧ [] = O))
  ((∃ (m1 : Nat), (s5 = ((↑m1 : Int)) ∧ (∃ (b1 : Bool), (∃ (n4 : Int), (∃ (n5 : Int), (∃ (xs2 : List (List Da)), (∃ (n6 : Int), (∃ (n7 : Int), (∃ (xs3 : List (List Da)), ((s0[m1]?) = some [(.bool b1), (.int .i64 n4), (.int .i64 n5), (.sl xs2), (.int .i64 n6), (.int .i64 n7), (.sl xs3)] ∧ ifB (decide (n4 ≠ IntKind.wrap IntKind.i64 (s1 + (1 : Int))))
  (((Z ((-1 : Int))) = r ∧ [] = O))
  ((∃ (m2 : Nat), (s5 = ((↑m2 : Int)) ∧ (∃ (b2 : Bool), (∃ (n8 : Int), (∃ (n9 : Int), (∃ (xs4 : List (List Da)), (∃ (n10 : Int), (∃ (n11 : Int), (∃ (xs5 : List (List Da)), ((s0[m2]?) = some [(.bool b2), (.int .i64 n8), (.int .i64 n9), (.sl xs4), (.int .i64 n10), (.int .i64 n11), (.sl xs5)] ∧ ifB (decide (n9 ≠ IntKind.wrap IntKind.i64 (IntKind.wrap IntKind.i64 (s1 + (1 : Int)) + (1 : Int))))
  (((Z ((-1 : Int))) = r ∧ [] = O))
  ((∃ (m3 : Nat), (s5 = ((↑m3 : Int)) ∧ (∃ (b3 : Bool), (∃ (n12 : Int), (∃ (n13 : Int), (∃ (xs6 : List (List Da)), (∃ (n14 : Int), (∃ (n15 : Int), (∃ (xs7 : List (List Da)), ((s0[m3]?) = some [(.bool b3), (.int .i64 n12), (.int .i64 n13), (.sl xs6), (.int .i64 n14), (.int .i64 n15), (.sl xs7)] ∧ (∃ (n16 : Int), (XC Try.prog 129 [(L xs6), (Z (IntKind.wrap IntKind.i64 (IntKind.wrap IntKind.i64 (IntKind.wrap IntKind.i64 (s1 + (1 : Int)) + (1 : Int)) + (1 : Int))))] [] (Z n16) [] ∧ ifB (decide (n16 < (0 : Int)))
  (((Z ((-1 : Int))) = r ∧ [] = O))
  ((∃ (m4 : Nat), (s5 = ((↑m4 : Int)) ∧ (∃ (b4 : Bool), (∃ (n17 : Int), (∃ (n18 : Int), (∃ (xs8 : List (List Da)), (∃ (n19 : Int), (∃ (n20 : Int), (∃ (xs9 : List (List Da)), ((s0[m4]?) = some [(.bool b4), (.int .i64 n17), (.int .i64 n18), (.sl xs8), (.int .i64 n19), (.int .i64 n20), (.sl xs9)] ∧ ifB (decide (n19 ≠ n16))
  (((Z ((-1 : Int))) = r ∧ [] = O))
  ((∃ (m5 : Nat), (s5 = ((↑m5 : Int)) ∧ (∃ (b5 : Bool), (∃ (n21 : Int), (∃ (n22 : Int), (∃ (xs10 : List (List Da)), (∃ (n23 : Int), (∃ (n24 : Int), (∃ (xs11 : List (List Da)), ((s0[m5]?) = some [(.bool b5), (.int .i64 n21), (.int .i64 n22), (.sl xs10), (.int .i64 n23), (.int .i64 n24), (.sl xs11)] ∧ ifB (decide (n24 ≠ IntKind.wrap IntKind.i64 (n16 + (1 : Int))))
  (((Z ((-1 : Int))) = r ∧ [] = O))
  ((∃ (m6 : Nat), (s5 = ((↑m6 : Int)) ∧ (∃ (b6 : Bool), (∃ (n25 : Int), (∃ (n26 : Int), (∃ (xs12 : List (List Da)), (∃ (n27 : Int), (∃ (n28 : Int), (∃ (xs13 : List (List Da)), ((s0[m6]?) = some [(.bool b6), (.int .i64 n25), (.int .i64 n26), (.sl xs12), (.int .i64 n27), (.int .i64 n28), (.sl xs13)] ∧ (∃ (n29 : Int), (XC Try.prog 129 [(L xs13), (Z (IntKind.wrap IntKind.i64 (IntKind.wrap IntKind.i64 (n16 + (1 : Int)) + (1 : Int))))] [] (Z n29) [] ∧ ifB (decide (n29 < (0 : Int)))
  (((Z ((-1 : Int))) = r ∧ [] = O))
  (laws_heldLitS_L2 r O s0 n29 (IntKind.wrap IntKind.i64 (s5 + (1 : Int))))))))))))))))))))))))))))))))))))))))))))))))))))))))))))))))))))))))))))))))))))))
  (((Z s1) = r ∧ [] = O))) : laws_heldLitS_L2 r O s0 s1 s5 := by
  unfold laws_heldLitS_L2
  refine cl_of (E := env) (hs := laws_heldLitS_h) envOk mixed ?_
  exact to_vc (by kernel_rfl) h
theorem laws_heldLitS_of {p : List (List Da)} {p1 : Int} {r : AV} {O : List (Nat × Ob)} (h : laws_heldLitS_L2 r O p p1 ((0 : Int))) : XC Try.prog 95 [(L p), (Z p1)] [] r O :=
  xc_of (E := env) (hs := laws_heldLitS_h) (c := (bodyOf Try.f95)) (n := 84) (res := [.tmp 4]) (rs := .c (.i .i64)) (ks := []) (dir := []) envOk mixed rfl Try.func95 (by kernel_rfl) (by kernel_rfl) (by kernel_rfl) (by kernel_rfl) (to_vc (by kernel_rfl) h)

/-- internal/stringslite.HasPrefix -/
def stringslite_HasPrefix_h : Hints := ⟨[], []⟩
theorem stringslite_HasPrefix_of {s : ByteArray} {prefix_ : ByteArray} {r : AV} {O : List (Nat × Ob)} (h : ifB (decide ((↑(ByteArray.size prefix_) : Int) ≤ (↑(ByteArray.size s) : Int)))
  ((∃ (n : Nat), (((↑(ByteArray.size prefix_) : Int)) = ((↑n : Int)) ∧ (Do ((0 : Nat) ≤ n ∧ n ≤ ByteArray.size s) ∧ ((B (decide (ByteArray.extract s (0 : Nat) n = prefix_))) = r ∧ [] = O)))))
  (((B (false)) = r ∧ [] = O))) : XC Try.prog 171 [(T s), (T prefix_)] [] r O :=
  xc_of (E := env) (hs := stringslite_HasPrefix_h) (c := (bodyOf Try.f171)) (n := 18) (res := [.tmp 4]) (rs := .c .b) (ks := []) (dir := []) envOk mixed rfl Try.func171 (by kernel_rfl) (by kernel_rfl) (by kernel_rfl) (by kernel_rfl) (to_vc (by kernel_rfl) h)

/-- loop.example/g00461/impl.isSmall -/
def impl_isSmall_h : Hints := ⟨[], []⟩
theorem impl_isSmall_of {c : Int} {r : AV} {O : List (Nat × Ob)} (h : ifB (decide ((97 : Int) ≤ c))
  (((B (decide (c ≤ (122 : Int)))) = r ∧ [] = O))
  (((B (false)) = r ∧ [] = O))) : XC Try.prog 172 [(I .u8 c)] [] r O :=
  xc_of (E := env) (hs := impl_isSmall_h) (c := (bodyOf Try.f172)) (n := 9) (res := [.tmp 2]) (rs := .c .b) (ks := []) (dir := []) envOk mixed rfl Try.func172 (by kernel_rfl) (by kernel_rfl) (by kernel_rfl) (by kernel_rfl) (to_vc (by kernel_rfl) h)

/-- loop.example/g00461/impl.isDigit -/
def impl_isDigit_h : Hints := ⟨[], []⟩
theorem impl_isDigit_of {c : Int} {r : AV} {O : List (Nat × Ob)} (h : ifB (decide ((48 : Int) ≤ c))
  (((B (decide (c ≤ (57 : Int)))) = r ∧ [] = O))
  (((B (false)) = r ∧ [] = O))) : XC Try.prog 173 [(I .u8 c)] [] r O :=
  xc_of (E := env) (hs := impl_isDigit_h) (c := (bodyOf Try.f173)) (n := 9) (res := [.tmp 2]) (rs := .c .b) (ks := []) (dir := []) envOk mixed rfl Try.func173 (by kernel_rfl) (by kernel_rfl) (by kernel_rfl) (by kernel_rfl) (to_vc (by kernel_rfl) h)

/-- internal/stringslite.IndexByte -/
def stringslite_IndexByte_h : Hints := ⟨[], []⟩
theorem stringslite_IndexByte_of {s : ByteArray} {c : Int} {r : AV} {O : List (Nat × Ob)} (h : ((Z (firstIdx s (Nat.toUInt8 (Int.toNat c)))) = r ∧ [] = O)) : XC Try.prog 174 [(T s), (I .u8 c)] [] r O :=
  xc_of (E := env) (hs := stringslite_IndexByte_h) (c := (bodyOf Try.f174)) (n := 8) (res := [.tmp 4]) (rs := .c (.i .i64)) (ks := []) (dir := []) envOk mixed rfl Try.func174 (by kernel_rfl) (by kernel_rfl) (by kernel_rfl) (by kernel_rfl) (to_vc (by kernel_rfl) h)

/-- loop.example/g00461/impl.copyTerms -/
def impl_copyTerms_h : Hints := ⟨[(3, ⟨[3, 7, 8, 9], [], [], [], [], [], []⟩)], []⟩
def impl_copyTerms_L3 (r : AV) (O : List (Nat × Ob)) (s7 : List (List Da)) (s8 : Int) (s9 : Int) (out : List (List Da)) : Prop := CL 20 Try.prog (subC (bodyOf Try.f175) [1, 1, 0, 1, 0, 0]) (kont Try.prog env impl_copyTerms_h 20 (bodyOf Try.f175) [1, 1, 0, 1, 0, 0] (vRet env [.tmp 2] (.o 49 3) [] [] r O) (retKE (vRet env [.tmp 2] (.o 49 3) [] [] r O))).1 (kont Try.prog env impl_copyTerms_h 20 (bodyOf Try.f175) [1, 1, 0, 1, 0, 0] (vRet env [.tmp 2] (.o 49 3) [] [] r O) (retKE (vRet env [.tmp 2] (.o 49 3) [] [] r O))).2 ⟨[(3, (.one (.ol 1900))), (7, (L s7)), (8, (Z s8)), (9, (Z s9))], [(1900, (.tr 49 3 out))]⟩
theorem impl_copyTerms_L3_of {r : AV} {O : List (Nat × Ob)} {s7 : List (List Da)} {s8 : Int} {s9 : Int} {out : List (List Da)} (h : ifB (decide (s9 < s8))
  ((∃ (m : Nat), (s9 = ((↑m : Int)) ∧ (∃ (n : Int), (∃ (n1 : Int), (∃ (xs : List (List Da)), ((s7[m]?) = some [(.int .i64 n), (.int .i64 n1), (.sl xs)] ∧ (∃ (n2 : Int), (∃ (n3 : Int), (∃ (xs1 : List (List Da)), (XC Try.prog 128 [(.dat [(.int .i64 n), (.int .i64 n1), (.sl xs)])] [] (.agg [(.d (.int .i64 n2)), (.d (.int .i64 n3)), (.ol 0)]) [(0, (.tr 49 3 xs1))] ∧ (Do ((List.length out + List.length [[Da.int IntKind.i64 n2, Da.int IntKind.i64 n3, Da.sl xs1]]) * (40 : Nat) ≤ (140737488355328 : Nat)) ∧ impl_copyTerms_L3 r O s7 s8 (IntKind.wrap IntKind.i64 (s9 + (1 : Int))) (out ++ [[Da.int IntKind.i64 n2, Da.int IntKind.i64 n3, Da.sl xs1]])))))))))))))
  (((.one (.ol 0)) = r ∧ [(0, (.tr 49 3 out))] = O))) : impl_copyTerms_L3 r O s7 s8 s9 out := by
  unfold impl_copyTerms_L3
  refine cl_of (E := env) (hs := impl_copyTerms_h) envOk mixed ?_
  exact to_vc (by kernel_rfl) h
theorem impl_copyTerms_of {list : List (List Da)} {r : AV} {O : List (Nat × Ob)} (h : impl_copyTerms_L3 r O list ((↑(List.length list) : Int)) ((0 : Int)) []) : XC Try.prog 175 [(L list)] [] r O :=
  xc_of (E := env) (hs := impl_copyTerms_h) (c := (bodyOf Try.f175)) (n := 20) (res := [.tmp 2]) (rs := .o 49 3) (ks := []) (dir := []) envOk mixed rfl Try.func175 (by kernel_rfl) (by kernel_rfl) (by kernel_rfl) (by kernel_rfl) (to_vc (by kernel_rfl) h)

/-- loop.example/g00461/laws.szLit -/
def laws_szLit_h : Hints := ⟨[], []⟩
theorem laws_szLit_of {a : Bool} {a1 : Int} {a2 : Int} {a3 : List (List Da)} {a4 : Int} {a5 : Int} {a6 : List (List Da)} {left : Int} {r : AV} {O : List (Nat × Ob)} (h : (∃ (n : Int), (XC Try.prog 47 [(.dat [(.int .i64 a1), (.int .i64 a2), (.sl a3)]), (Z left)] [] (Z n) [] ∧ ifB (decide (n < (0 : Int)))
  (((Z ((-1 : Int))) = r ∧ [] = O))
  ((∃ (n1 : Int), (XC Try.prog 47 [(.dat [(.int .i64 a4), (.int .i64 a5), (.sl a6)]), (Z n)] [] (Z n1) [] ∧ ifB (decide (n1 < (0 : Int)))
  (((Z ((-1 : Int))) = r ∧ [] = O))
  (((Z n1) = r ∧ [] = O)))))))) : XC Try.prog 74 [(.dat [(.bool a), (.int .i64 a1), (.int .i64 a2), (.sl a3), (.int .i64 a4), (.int .i64 a5), (.sl a6)]), (Z left)] [] r O :=
  xc_of (E := env) (hs := laws_szLit_h) (c := (bodyOf Try.f74)) (n := 18) (res := [.tmp 4]) (rs := .c (.i .i64)) (ks := []) (dir := []) envOk mixed rfl Try.func74 (by kernel_rfl) (by kernel_rfl) (by kernel_rfl) (by kernel_rfl) (to_vc (by kernel_rfl) h)

/-- loop.example/g00461/laws.toLit -/
def laws_toLit_h : Hints := ⟨[], []⟩
theorem laws_toLit_of {a : Bool} {a1 : Int} {a2 : Int} {a3 : List (List Da)} {a4 : Int} {a5 : Int} {a6 : List (List Da)} {r : AV} {O : List (Nat × Ob)} (h : (∃ (n : Int), (∃ (n1 : Int), (∃ (xs : List (List Da)), (XC Try.prog 49 [(.dat [(.int .i64 a1), (.int .i64 a2), (.sl a3)])] [] (.agg [(.d (.int .i64 n)), (.d (.int .i64 n1)), (.ol 0)]) [(0, (.tr 49 3 xs))] ∧ (∃ (n2 : Int), (∃ (n3 : Int), (∃ (xs1 : List (List Da)), (XC Try.prog 49 [(.dat [(.int .i64 a4), (.int .i64 a5), (.sl a6)])] [] (.agg [(.d (.int .i64 n2)), (.d (.int .i64 n3)), (.ol 0)]) [(0, (.tr 49 3 xs1))] ∧ ((.agg [(.d (.bool a)), (.d (.int .i64 n)), (.d (.int .i64 n1)), (.ol 0), (.d (.int .i64 n2)), (.d (.int .i64 n3)), (.ol 1)]) = r ∧ [(0, (.tr 49 3 xs)), (1, (.tr 49 3 xs1))] = O)))))))))) : XC Try.prog 77 [(.dat [(.bool a), (.int .i64 a1), (.int .i64 a2), (.sl a3), (.int .i64 a4), (.int .i64 a5), (.sl a6)])] [] r O :=
  xc_of (E := env) (hs := laws_toLit_h) (c := (bodyOf Try.f77)) (n := 16) (res := [.cell 2 90]) (rs := .s [.k .b, .k (.i .i64), .k (.i .i64), .o 49 3, .k (.i .i64), .k (.i .i64), .o 49 3]) (ks := []) (dir := []) envOk mixed rfl Try.func77 (by kernel_rfl) (by kernel_rfl) (by kernel_rfl) (by kernel_rfl) (to_vc (by kernel_rfl) h)

/-- loop.example/g00461/impl.renamed -/
def impl_renamed_impl_Shift_1_h : Hints := ⟨[(3, ⟨[1, 2, 4, 5, 10, 11, 12], [], [], [], [], [], []⟩)], []⟩
def impl_renamed_impl_Shift_1_L3 (r : AV) (O : List (Nat × Ob)) (s10 : List (List Da)) (s11 : Int) (s12 : Int) (o2000 : Int) (t : Int) (t1 : Int) (t2 : List (List Da)) (s4 : Int) (s41 : Int) (kids : List (List Da)) : Prop := CL 33 Try.prog (subC (bodyOf Try.f176) [1, 1, 0, 1, 0, 0]) (kont Try.prog env impl_renamed_impl_Shift_1_h 33 (bodyOf Try.f176) [1, 1, 0, 1, 0, 0] (vRet env [.cell 4 49] (.s [.k (.i .i64), .k (.i .i64), .o 49 3]) [(2000, (true))] [2000] r O) (retKE (vRet env [.cell 4 49] (.s [.k (.i .i64), .k (.i .i64), .o 49 3]) [(2000, (true))] [2000] r O))).1 (kont Try.prog env impl_renamed_impl_Shift_1_h 33 (bodyOf Try.f176) [1, 1, 0, 1, 0, 0] (vRet env [.cell 4 49] (.s [.k (.i .i64), .k (.i .i64), .o 49 3]) [(2000, (true))] [2000] r O) (retKE (vRet env [.cell 4 49] (.s [.k (.i .i64), .k (.i .i64), .o 49 3]) [(2000, (true))] [2000] r O))).2 ⟨[(1, (.one (.clo 132 [(2000, 0)]))), (2, (.one (.op 1900 0))), (4, (.one (.op 1901 0))), (5, (.one (.ol 1902))), (10, (L s10)), (11, (Z s11)), (12, (Z s12))], [(2000, (.var [(.d (.int .i64 o2000))])), (1900, (.var [(.d (.int .i64 t)), (.d (.int .i64 t1)), (.d (.sl t2))])), (1901, (.var [(.d (.int .i64 s4)), (.d (.int .i64 s41)), .e0])), (1902, (.tr 49 3 kids))]⟩
theorem impl_renamed_impl_Shift_1_L3_of {r : AV} {O : List (Nat × Ob)} {s10 : List (List Da)} {s11 : Int} {s12 : Int} {o2000 : Int} {t : Int} {t1 : Int} {t2 : List (List Da)} {s4 : Int} {s41 : Int} {kids : List (List Da)} (h : ifB (decide (s12 < s11))
  ((∃ (m : Nat), (s12 = ((↑m : Int)) ∧ (∃ (n : Int), (∃ (n1 : Int), (∃ (xs : List (List Da)), ((s10[m]?) = some [(.int .i64 n), (.int .i64 n1), (.sl xs)] ∧ (∃ (n2 : Int), (∃ (n3 : Int), (∃ (xs1 : List (List Da)), (∃ (m1 : Int), (XC Try.prog 176 [(.dat [(.int .i64 n), (.int .i64 n1), (.sl xs)]), (.one (.clo 132 [(2000, 0)]))] [(2000, (.var [(.d (.int .i64 o2000))]))] (.agg [(.d (.int .i64 n2)), (.d (.int .i64 n3)), (.ol 0)]) [(2000, (.var [(.d (.int .i64 m1))])), (0, (.tr 49 3 xs1))] ∧ (Do ((List.length kids + List.length [[Da.int IntKind.i64 n2, Da.int IntKind.i64 n3, Da.sl xs1]]) * (40 : Nat) ≤ (140737488355328 : Nat)) ∧ impl_renamed_impl_Shift_1_L3 r O s10 s11 (IntKind.wrap IntKind.i64 (s12 + (1 : Int))) m1 t t1 t2 s4 s41 (kids ++ [[Da.int IntKind.i64 n2, Da.int IntKind.i64 n3, Da.sl xs1]]))))))))))))))
  ((∃ (b : Bool), (XC Try.prog 102 [(.dat [(.int .i64 t), (.int .i64 t1), (.sl t2)])] [] (B b) [] ∧ ifB b
  ((∃ (n4 : Int), (∃ (m2 : Int), (XC Try.prog 132 [(Z t1), (.one (.op 2000 0))] [(2000, (.var [(.d (.int .i64 o2000))]))] (Z n4) [(2000, (.var [(.d (.int .i64 m2))]))] ∧ ((.agg [(.d (.int .i64 t)), (.d (.int .i64 n4)), (.ol 0)]) = r ∧ [(2000, (.var [(.d (.int .i64 m2))])), (0, (.tr 49 3 kids))] = O)))))
  (((.agg [(.d (.int .i64 t)), (.d (.int .i64 t1)), (.ol 0)]) = r ∧ [(2000, (.var [(.d (.int .i64 o2000))])), (0, (.tr 49 3 kids))] = O)))))) : impl_renamed_impl_Shift_1_L3 r O s10 s11 s12 o2000 t t1 t2 s4 s41 kids := by
  unfold impl_renamed_impl_Shift_1_L3
  refine cl_of (E := env) (hs := impl_renamed_impl_Shift_1_h) envOk mixed ?_
  exact to_vc (by kernel_rfl) h
theorem impl_renamed_impl_Shift_1_of {t : Int} {t1 : Int} {t2 : List (List Da)} {o2000 : Int} {r : AV} {O : List (Nat × Ob)} (h : impl_renamed_impl_Shift_1_L3 r O t2 ((↑(List.length t2) : Int)) ((0 : Int)) o2000 t t1 t2 ((0 : Int)) ((0 : Int)) []) : XC Try.prog 176 [(.dat [(.int .i64 t), (.int .i64 t1), (.sl t2)]), (.one (.clo 132 [(2000, 0)]))] [(2000, (.var [(.d (.int .i64 o2000))]))] r O :=
  xc_of (E := env) (hs := impl_renamed_impl_Shift_1_h) (c := (bodyOf Try.f176)) (n := 33) (res := [.cell 4 49]) (rs := .s [.k (.i .i64), .k (.i .i64), .o 49 3]) (ks := [(2000, (true))]) (dir := [2000]) envOk mixed rfl Try.func176 (by kernel_rfl) (by kernel_rfl) (by kernel_rfl) (by kernel_rfl) (to_vc (by kernel_rfl) h)

/-- loop.example/g00461/laws.eqLit -/
def laws_eqLit_h : Hints := ⟨[], []⟩
theorem laws_eqLit_of {a : Bool} {a1 : Int} {a2 : Int} {a3 : List (List Da)} {a4 : Int} {a5 : Int} {a6 : List (List Da)} {b : Bool} {b1 : Int} {b2 : Int} {b3 : List (List Da)} {b4 : Int} {b5 : Int} {b6 : List (List Da)} {r : AV} {O : List (Nat × Ob)} (h : ifB (decide (a ≠ b))
  (((B (false)) = r ∧ [] = O))
  ((∃ (b7 : Bool), (XC Try.prog 52 [(.dat [(.int .i64 a1), (.int .i64 a2), (.sl a3)]), (.dat [(.int .i64 b1), (.int .i64 b2), (.sl b3)])] [] (B b7) [] ∧ ifB (!b7)
  (((B (false)) = r ∧ [] = O))
  ((∃ (b8 : Bool), (XC Try.prog 52 [(.dat [(.int .i64 a4), (.int .i64 a5), (.sl a6)]), (.dat [(.int .i64 b4), (.int .i64 b5), (.sl b6)])] [] (B b8) [] ∧ ifB (!b8)
  (((B (false)) = r ∧ [] = O))
  (((B (true)) = r ∧ [] = O))))))))) : XC Try.prog 64 [(.dat [(.bool a), (.int .i64 a1), (.int .i64 a2), (.sl a3), (.int .i64 a4), (.int .i64 a5), (.sl a6)]), (.dat [(.bool b), (.int .i64 b1), (.int .i64 b2), (.sl b3), (.int .i64 b4), (.int .i64 b5), (.sl b6)])] [] r O :=
  xc_of (E := env) (hs := laws_eqLit_h) (c := (bodyOf Try.f64)) (n := 22) (res := [.tmp 4]) (rs := .c .b) (ks := []) (dir := []) envOk mixed rfl Try.func64 (by kernel_rfl) (by kernel_rfl) (by kernel_rfl) (by kernel_rfl) (to_vc (by kernel_rfl) h)

/-- loop.example/g00461/impl.isVar -/
def impl_isVar_h : Hints := ⟨[], []⟩
theorem impl_isVar_of {t : Int} {t1 : Int} {t2 : List (List Da)} {r : AV} {O : List (Nat × Ob)} (h : ((B (decide (t = (-1 : Int)))) = r ∧ [] = O)) : XC Try.prog 102 [(.dat [(.int .i64 t), (.int .i64 t1), (.sl t2)])] [] r O :=
  xc_of (E := env) (hs := impl_isVar_h) (c := (bodyOf Try.f102)) (n := 6) (res := [.tmp 2]) (rs := .c .b) (ks := []) (dir := []) envOk mixed rfl Try.func102 (by kernel_rfl) (by kernel_rfl) (by kernel_rfl) (by kernel_rfl) (to_vc (by kernel_rfl) h)

/-- loop.example/g00461/impl.Shift$1 -/
def impl_Shift_1_h : Hints := ⟨[], []⟩
theorem impl_Shift_1_of {v : Int} {o2000 : Int} {r : AV} {O : List (Nat × Ob)} (h : ((Z (IntKind.wrap IntKind.i64 (v + o2000))) = r ∧ [(2000, (.var [(.d (.int .i64 o2000))]))] = O)) : XC Try.prog 132 [(Z v), (.one (.op 2000 0))] [(2000, (.var [(.d (.int .i64 o2000))]))] r O :=
  xc_of (E := env) (hs := impl_Shift_1_h) (c := (bodyOf Try.f132)) (n := 7) (res := [.tmp 3]) (rs := .c (.i .i64)) (ks := [(2000, (true))]) (dir := [2000]) envOk mixed rfl Try.func132 (by kernel_rfl) (by kernel_rfl) (by kernel_rfl) (by kernel_rfl) (to_vc (by kernel_rfl) h)

end AM
end Go.Proofs.Ythbbibeilmfheaa
