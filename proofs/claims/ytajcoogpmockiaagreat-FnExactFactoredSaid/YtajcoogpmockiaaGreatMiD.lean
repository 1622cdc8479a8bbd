/- A part of the proof of the law that the last of these texts states, for every input; no conditions. -/
import Derived.Test.YtajcoogpmockiaaGreatMiC
set_option linter.unusedVariables false
set_option linter.unusedSimpArgs false
set_option maxRecDepth 100000
namespace Go.Proofs.YtajcoogpmockiaaGreat
namespace AM
open Go
open Go.Proofs.Tryz renaming prog → pg
attribute [local irreducible] vC
abbrev LL := List (List Da)
abbrev r3 (a b : Int) (c : List (List Da)) : List Da := [.int .i64 a, .int .i64 b, .sl c]
abbrev r6 (a b : Int) (c : List (List Da)) (d e : Int) (f : List (List Da)) : List Da := [.int .i64 a, .int .i64 b, .sl c, .int .i64 d, .int .i64 e, .sl f]
abbrev r7 (p : Bool) (a b : Int) (c : List (List Da)) (d e : Int) (f : List (List Da)) : List Da := [.bool p, .int .i64 a, .int .i64 b, .sl c, .int .i64 d, .int .i64 e, .sl f]
abbrev g3 (a b : Int) (k : Nat) : AV := .agg [.d (.int .i64 a), .d (.int .i64 b), .ol k]
abbrev g7 (p : Bool) (a b : Int) (k : Nat) (d e : Int) (l : Nat) : AV := .agg [.d (.bool p), .d (.int .i64 a), .d (.int .i64 b), .ol k, .d (.int .i64 d), .d (.int .i64 e), .ol l]
def CLk (n : Nat) (E : Env) (h : a8q) (b : Code) (p : List Nat) (R : St → Prop) (s : St) : Prop := CL n pg (subC b p) (kont pg E h n b p R (a8Aq R)).1 (kont pg E h n b p R (a8Aq R)).2 s
def a0Kq : a8q := ⟨[], []⟩
theorem p4q {p p_1 : LL} {p_2 p_3 : Int} {p_4 : LL} {r : AV} {O : List (Nat × Ob)} (h : ∃ n : Int, XC pg 9 [L p, Z (1048576 : Int)] [] (Z n) [] ∧ ifB (decide (n < (0 : Int)))
 ((B (true)) = r ∧ [] = O)
 (∃ n1 : Int, XC pg 10 [.dat [.sl p_1], Z n] [] (Z n1) [] ∧ ifB (decide (n1 < (0 : Int)))
 ((B (true)) = r ∧ [] = O)
 (∃ n2 : Int, XC pg 24 [L p_4, Z n1] [] (Z n2) [] ∧ ifB (decide (n2 < (0 : Int)))
 ((B (true)) = r ∧ [] = O)
 (∃ xs : LL, XC pg 12 [L p] [] (.one (.ol 0)) [(0, .tr 89 3 xs)] ∧ ∃ xs1 : LL, XC pg 13 [.dat [.sl p_1]] [] (.agg [.ol 0]) [(0, .tr 85 7 xs1)] ∧ ∃ xs2 : LL, XC pg 26 [L p_4] [] (.one (.ol 0)) [(0, .tr 116 4 xs2)] ∧ ∃ xs3 : LL, ∃ b : Bool, XC pg 25 [L xs, .dat [.sl xs1], Z p_2, Z p_3, L xs2] [] (.tup [.dat [.sl xs3], B b]) [] ∧ ∃ xs4 : LL, XC pg 12 [L p] [] (.one (.ol 0)) [(0, .tr 89 3 xs4)] ∧ ∃ xs5 : LL, XC pg 13 [.dat [.sl p_1]] [] (.agg [.ol 0]) [(0, .tr 85 7 xs5)] ∧ ∃ xs6 : LL, XC pg 26 [L p_4] [] (.one (.ol 0)) [(0, .tr 116 4 xs6)] ∧ ∃ xs7 : LL, ∃ b1 : Bool, XC pg 27 [L xs4, .dat [.sl xs5], Z p_2, Z p_3, L xs6] [] (.tup [.agg [.ol 0], B b1]) [(0, .tr 85 7 xs7)] ∧ ∃ b2 : Bool, XC pg 17 [.dat [.sl xs7], .dat [.sl xs3]] [] (B b2) [] ∧ ifB (!b2)
 ((B (false)) = r ∧ [] = O)
 (ifB (decide (b1 ≠ b))
 ((B (false)) = r ∧ [] = O)
 (∃ xs8 : LL, XC pg 12 [L p] [] (.one (.ol 0)) [(0, .tr 89 3 xs8)] ∧ ∃ b3 : Bool, XC pg 16 [L xs4, L xs8] [] (B b3) [] ∧ ifB (!b3)
 ((B (false)) = r ∧ [] = O)
 (∃ xs9 : LL, XC pg 13 [.dat [.sl p_1]] [] (.agg [.ol 0]) [(0, .tr 85 7 xs9)] ∧ ∃ b4 : Bool, XC pg 17 [.dat [.sl xs5], .dat [.sl xs9]] [] (B b4) [] ∧ ifB (!b4)
 ((B (false)) = r ∧ [] = O)
 (∃ xs10 : LL, XC pg 26 [L p_4] [] (.one (.ol 0)) [(0, .tr 116 4 xs10)] ∧ ∃ b5 : Bool, XC pg 28 [L xs6, L xs10] [] (B b5) [] ∧ ifB (!b5)
 ((B (false)) = r ∧ [] = O)
 (∃ n3 : Int, ∃ xs11 : LL, XC pg 18 [.one (.ol 2000), Z (1 : Int)] [(2000, .mt 89 3 xs4)] (Z n3) [(2000, .mt 89 3 xs11)] ∧ ∃ n4 : Int, ∃ xs12 : LL, XC pg 19 [.agg [.ol 2000], Z n3] [(2000, .mt 85 7 xs5)] (Z n4) [(2000, .mt 85 7 xs12)] ∧ ∃ n5 : Int, ∃ xs13 : LL, XC pg 29 [.one (.ol 2000), Z n4] [(2000, .mt 116 4 xs6)] (Z n5) [(2000, .mt 116 4 xs13)] ∧ ifB (decide (n5 < (0 : Int)))
 ((B (false)) = r ∧ [] = O)
 (∃ b6 : Bool, XC pg 17 [.dat [.sl xs7], .dat [.sl xs3]] [] (B b6) [] ∧ ifB (!b6)
 ((B (false)) = r ∧ [] = O)
 (ifB (decide (b1 ≠ b))
 ((B (false)) = r ∧ [] = O)
 (∃ n6 : Int, ∃ xs14 : LL, XC pg 19 [.agg [.ol 2000], Z (1 : Int)] [(2000, .mt 85 7 xs7)] (Z n6) [(2000, .mt 85 7 xs14)] ∧ ∃ n7 : Int, XC pg 30 [.dat [.sl xs14], Z (1 : Int)] [] (Z n7) [] ∧ ifB (decide (n7 < (0 : Int)))
 ((B (false)) = r ∧ [] = O)
 (ifB (decide (n7 ≠ n6))
 ((B (false)) = r ∧ [] = O)
 (∃ xs15 : LL, XC pg 12 [L p] [] (.one (.ol 0)) [(0, .tr 89 3 xs15)] ∧ ∃ xs16 : LL, XC pg 13 [.dat [.sl p_1]] [] (.agg [.ol 0]) [(0, .tr 85 7 xs16)] ∧ ∃ xs17 : LL, XC pg 26 [L p_4] [] (.one (.ol 0)) [(0, .tr 116 4 xs17)] ∧ ∃ xs18 : LL, ∃ b7 : Bool, XC pg 27 [L xs15, .dat [.sl xs16], Z p_2, Z p_3, L xs17] [] (.tup [.agg [.ol 0], B b7]) [(0, .tr 85 7 xs18)] ∧ ∃ b8 : Bool, XC pg 17 [.dat [.sl xs18], .dat [.sl xs3]] [] (B b8) [] ∧ ifB (!b8)
 ((B (false)) = r ∧ [] = O)
 (ifB (decide (b7 ≠ b))
 ((B (false)) = r ∧ [] = O)
 (∃ n8 : Int, XC pg 30 [.dat [.sl xs14], Z (1 : Int)] [] (Z n8) [] ∧ ifB (decide (n8 < (0 : Int)))
 ((B (false)) = r ∧ [] = O)
 (ifB (decide (n8 ≠ n6))
 ((B (false)) = r ∧ [] = O)
 ((B (true)) = r ∧ [] = O)))))))))))))))))) : XC pg 5 [.one (.d (.sl p)), .dat [.sl p_1], .one (.d (.int .i64 p_2)), .one (.d (.int .i64 p_3)), .one (.d (.sl p_4))] [] r O :=
 b1q (E := envL) (hs := a0Kq) (c := (a1q Tryz.f5)) (n := 152) (res := [.tmp 10]) (rs := .c .b) (ks := []) (dir := []) agzq a3q rfl Tryz.func5 (by kernel_rfl) (by kernel_rfl) (by kernel_rfl) (by kernel_rfl) (a5q (by kernel_rfl) h)
def a2Kq : a8q := ⟨[], []⟩
theorem a2cq {a : Bool} {a1 a2 : Int} {a3 : LL} {a4 a5 : Int} {a6 : LL} {b : Bool} {b1 b2 : Int} {b3 : LL} {b4 b5 : Int} {b6 : LL} {r : AV} {O : List (Nat × Ob)} (h : ifB (!a)
 (ifB b
 ((Z (-1 : Int)) = r ∧ [] = O)
 (ifB a
 (ifB (!b)
 ((Z (1 : Int)) = r ∧ [] = O)
 (∃ n : Int, XC pg 143 [.dat (r3 a1 a2 a3), .dat (r3 b1 b2 b3)] [] (Z n) [] ∧ ifB (decide (n ≠ (0 : Int)))
 ((Z n) = r ∧ [] = O)
 (∃ n1 : Int, XC pg 143 [.dat (r3 a4 a5 a6), .dat (r3 b4 b5 b6)] [] (Z n1) [] ∧ (Z n1) = r ∧ [] = O)))
 (∃ n2 : Int, XC pg 143 [.dat (r3 a1 a2 a3), .dat (r3 b1 b2 b3)] [] (Z n2) [] ∧ ifB (decide (n2 ≠ (0 : Int)))
 ((Z n2) = r ∧ [] = O)
 (∃ n3 : Int, XC pg 143 [.dat (r3 a4 a5 a6), .dat (r3 b4 b5 b6)] [] (Z n3) [] ∧ (Z n3) = r ∧ [] = O))))
 (ifB a
 (ifB (!b)
 ((Z (1 : Int)) = r ∧ [] = O)
 (∃ n4 : Int, XC pg 143 [.dat (r3 a1 a2 a3), .dat (r3 b1 b2 b3)] [] (Z n4) [] ∧ ifB (decide (n4 ≠ (0 : Int)))
 ((Z n4) = r ∧ [] = O)
 (∃ n5 : Int, XC pg 143 [.dat (r3 a4 a5 a6), .dat (r3 b4 b5 b6)] [] (Z n5) [] ∧ (Z n5) = r ∧ [] = O)))
 (∃ n6 : Int, XC pg 143 [.dat (r3 a1 a2 a3), .dat (r3 b1 b2 b3)] [] (Z n6) [] ∧ ifB (decide (n6 ≠ (0 : Int)))
 ((Z n6) = r ∧ [] = O)
 (∃ n7 : Int, XC pg 143 [.dat (r3 a4 a5 a6), .dat (r3 b4 b5 b6)] [] (Z n7) [] ∧ (Z n7) = r ∧ [] = O)))) : XC pg 135 [.dat [.bool a, .int .i64 a1, .int .i64 a2, .sl a3, .int .i64 a4, .int .i64 a5, .sl a6], .dat [.bool b, .int .i64 b1, .int .i64 b2, .sl b3, .int .i64 b4, .int .i64 b5, .sl b6]] [] r O :=
 b1q (E := env) (hs := a2Kq) (c := (a1q Tryz.f135)) (n := 35) (res := [.tmp 4]) (rs := .c (.i .i64)) (ks := []) (dir := []) envOk a3q rfl Tryz.func135 (by kernel_rfl) (by kernel_rfl) (by kernel_rfl) (by kernel_rfl) (a5q (by kernel_rfl) h)
def a6wq : a8q := ⟨[], []⟩
theorem a5oq {a : Bool} {a1 a2 : Int} {a3 : LL} {a4 a5 : Int} {a6 : LL} {b : Bool} {b1 b2 : Int} {b3 : LL} {b4 b5 : Int} {b6 : LL} {r : AV} {O : List (Nat × Ob)} (h : ∃ n : Int, XC pg 135 [.dat (r7 a a1 a2 a3 a4 a5 a6), .dat (r7 b b1 b2 b3 b4 b5 b6)] [] (Z n) [] ∧ (B (decide (n = (0 : Int)))) = r ∧ [] = O) : XC pg 71 [.dat [.bool a, .int .i64 a1, .int .i64 a2, .sl a3, .int .i64 a4, .int .i64 a5, .sl a6], .dat [.bool b, .int .i64 b1, .int .i64 b2, .sl b3, .int .i64 b4, .int .i64 b5, .sl b6]] [] r O :=
 b1q (E := env) (hs := a6wq) (c := (a1q Tryz.f71)) (n := 9) (res := [.tmp 4]) (rs := .c .b) (ks := []) (dir := []) envOk a3q rfl Tryz.func71 (by kernel_rfl) (by kernel_rfl) (by kernel_rfl) (by kernel_rfl) (a5q (by kernel_rfl) h)
def y8q : a8q := ⟨[(2, ⟨[2, 3, 26, 27, 28], [], [], [], [], [], []⟩), (10, ⟨[2, 3, 47, 48], [], [], [], [], [], []⟩)], []⟩
def B9q (r : AV) (O : List (Nat × Ob)) (s27 s28 : Int) (s2 s21 : Int) (s22 : LL) (s3 s31 : Int) (s32 s26 : LL) : Prop := CLk 66 env y8q (a1q Tryz.f143) [1, 0, 1, 0, 0] (c7q env [.tmp 4] (.c (.i .i64)) [] [] r O) ⟨[(2, (.one (.op 1900 0))), (3, (.one (.op 1901 0))), (26, (.one (.ol 1902))), (27, (Z s27)), (28, (Z s28))], [(1900, (.var [(.d (.int .i64 s2)), (.d (.int .i64 s21)), (.d (.sl s22))])), (1901, (.var [(.d (.int .i64 s3)), (.d (.int .i64 s31)), (.d (.sl s32))])), (1902, (.tr 217 2 s26))]⟩
def t9q (r : AV) (O : List (Nat × Ob)) (s47 s48 : Int) (s2 s21 : Int) (s22 : LL) (s3 s31 : Int) (s32 : LL) : Prop := CLk 66 env y8q (a1q Tryz.f143) [1, 1, 0, 1, 0, 0] (c7q env [.tmp 4] (.c (.i .i64)) [] [] r O) ⟨[(2, (.one (.op 1900 0))), (3, (.one (.op 1901 0))), (47, (Z s47)), (48, (Z s48))], [(1900, (.var [(.d (.int .i64 s2)), (.d (.int .i64 s21)), (.d (.sl s22))])), (1901, (.var [(.d (.int .i64 s3)), (.d (.int .i64 s31)), (.d (.sl s32))]))]⟩
theorem v9q {r : AV} {O : List (Nat × Ob)} {s27 s28 s2 s21 : Int} {s22 : LL} {s3 s31 : Int} {s32 s26 : LL} (h : ifB (decide (s28 < s27))
 (∃ m : Nat, s28 = (↑m : Int) ∧ Do (m < s26.length) ∧ ∃ n : Nat, (m * (2 : Nat)) = (n * (2 : Nat)) ∧ ∃ n1 n2 : Int, (s26[n]?) = some [.int .i64 n1, .int .i64 n2] ∧ ifB (decide (n1 < n2))
 ((Z (-1 : Int)) = r ∧ [] = O)
 (ifB (decide (n2 < n1))
 ((Z (1 : Int)) = r ∧ [] = O)
 (B9q r O s27 (IntKind.wrap .i64 (s28 + (1 : Int))) s2 s21 s22 s3 s31 s32 s26)))
 (t9q r O (↑(s22.length) : Int) (0 : Int) s2 s21 s22 s3 s31 s32)) : B9q r O s27 s28 s2 s21 s22 s3 s31 s32 s26 := by
 unfold B9q CLk
 refine c2q (E := env) (hs := y8q) envOk a3q ?_
 exact a5q (by kernel_rfl) h
theorem L9q {r : AV} {O : List (Nat × Ob)} {s47 s48 s2 s21 : Int} {s22 : LL} {s3 s31 : Int} {s32 : LL} (h : ifB (decide (s48 < s47))
 (∃ m : Nat, s48 = (↑m : Int) ∧ ∃ n n1 : Int, ∃ xs : LL, (s22[m]?) = some (r3 n n1 xs) ∧ ∃ m1 : Nat, s48 = (↑m1 : Int) ∧ ∃ n2 n3 : Int, ∃ xs1 : LL, (s32[m1]?) = some (r3 n2 n3 xs1) ∧ ∃ n4 : Int, XC pg 143 [.dat (r3 n n1 xs), .dat (r3 n2 n3 xs1)] [] (Z n4) [] ∧ ifB (decide (n4 ≠ (0 : Int)))
 ((Z n4) = r ∧ [] = O)
 (t9q r O s47 (IntKind.wrap .i64 (s48 + (1 : Int))) s2 s21 s22 s3 s31 s32))
 ((Z (0 : Int)) = r ∧ [] = O)) : t9q r O s47 s48 s2 s21 s22 s3 s31 s32 := by
 unfold t9q CLk
 refine c2q (E := env) (hs := y8q) envOk a3q ?_
 exact a5q (by kernel_rfl) h
theorem a5Lq {p p1 : Int} {p2 : LL} {p_1 p_11 : Int} {p_12 : LL} {r : AV} {O : List (Nat × Ob)} (h : B9q r O (↑(List.length [[Da.int IntKind.i64 p, Da.int IntKind.i64 p_1], [Da.int IntKind.i64 p1, Da.int IntKind.i64 p_11], [Da.int IntKind.i64 (↑(p2.length) : Int), Da.int IntKind.i64 (↑(p_12.length) : Int)]]) : Int) (0 : Int) p p1 p2 p_1 p_11 p_12 [[.int .i64 p, .int .i64 p_1], [.int .i64 p1, .int .i64 p_11], [.int .i64 (↑(p2.length) : Int), .int .i64 (↑(p_12.length) : Int)]]) : XC pg 143 [.dat [.int .i64 p, .int .i64 p1, .sl p2], .dat [.int .i64 p_1, .int .i64 p_11, .sl p_12]] [] r O :=
 b1q (E := env) (hs := y8q) (c := (a1q Tryz.f143)) (n := 66) (res := [.tmp 4]) (rs := .c (.i .i64)) (ks := []) (dir := []) envOk a3q rfl Tryz.func143 (by kernel_rfl) (by kernel_rfl) (by kernel_rfl) (by kernel_rfl) (a5q (by kernel_rfl) h)
def S6q : a8q := ⟨[(5, ⟨[0, 1, 5], [], [], [], [], [], []⟩)], []⟩
def y7q (r : AV) (O : List (Nat × Ob)) (a : LL) (left i : Int) : Prop := CLk 27 env S6q (a1q Tryz.f9) [1, 1, 1, 0, 1, 0, 0] (c7q env [.tmp 4] (.c (.i .i64)) [] [] r O) ⟨[(0, (L a)), (1, (Z left)), (5, (Z i))], []⟩
theorem U7q {r : AV} {O : List (Nat × Ob)} {a : LL} {left i : Int} (h : ifB (decide (i < (↑(a.length) : Int)))
 (∃ m : Nat, i = (↑m : Int) ∧ ∃ q : ByteArray, ∃ n : Int, ∃ b : Bool, (a[m]?) = some [.str q, .int .i64 n, .bool b] ∧ ∃ n1 : Int, XC pg 44 [.dat [.str q, .int .i64 n, .bool b], Z left] [] (Z n1) [] ∧ ifB (decide (n1 < (0 : Int)))
 ((Z (-1 : Int)) = r ∧ [] = O)
 (y7q r O a n1 (IntKind.wrap .i64 (i + (1 : Int)))))
 ((Z left) = r ∧ [] = O)) : y7q r O a left i := by
 unfold y7q CLk
 refine c2q (E := env) (hs := S6q) envOk a3q ?_
 exact a5q (by kernel_rfl) h
theorem a65q {a : LL} {left : Int} {r : AV} {O : List (Nat × Ob)} (h : ifB (decide (IntKind.wrap .i64 (left - (↑(a.length) : Int)) < (0 : Int)))
 ((Z (-1 : Int)) = r ∧ [] = O)
 (y7q r O a (IntKind.wrap .i64 (left - (↑(a.length) : Int))) (0 : Int))) : XC pg 9 [(L a), (Z left)] [] r O :=
 b1q (E := env) (hs := S6q) (c := (a1q Tryz.f9)) (n := 27) (res := [.tmp 4]) (rs := .c (.i .i64)) (ks := []) (dir := []) envOk a3q rfl Tryz.func9 (by kernel_rfl) (by kernel_rfl) (by kernel_rfl) (by kernel_rfl) (a5q (by kernel_rfl) h)
def a4Oq : a8q := ⟨[], []⟩
theorem a4Gq {a : LL} {left : Int} {r : AV} {O : List (Nat × Ob)} (h : ∃ n : Int, XC pg 45 [L a, Z left] [] (Z n) [] ∧ ifB (decide (n < (0 : Int)))
 ((Z (-1 : Int)) = r ∧ [] = O)
 ((Z n) = r ∧ [] = O)) : XC pg 10 [(.dat [(.sl a)]), (Z left)] [] r O :=
 b1q (E := env) (hs := a4Oq) (c := (a1q Tryz.f10)) (n := 12) (res := [.tmp 4]) (rs := .c (.i .i64)) (ks := []) (dir := []) envOk a3q rfl Tryz.func10 (by kernel_rfl) (by kernel_rfl) (by kernel_rfl) (by kernel_rfl) (a5q (by kernel_rfl) h)
def N7q : a8q := ⟨[(5, ⟨[0, 1, 5], [], [], [], [], [], []⟩)], []⟩
def x0q (r : AV) (O : List (Nat × Ob)) (a : LL) (left i : Int) : Prop := CLk 27 env N7q (a1q Tryz.f24) [1, 1, 1, 0, 1, 0, 0] (c7q env [.tmp 4] (.c (.i .i64)) [] [] r O) ⟨[(0, (L a)), (1, (Z left)), (5, (Z i))], []⟩
theorem Q2q {r : AV} {O : List (Nat × Ob)} {a : LL} {left i : Int} (h : ifB (decide (i < (↑(a.length) : Int)))
 (∃ m : Nat, i = (↑m : Int) ∧ ∃ n n1 n2 : Int, ∃ xs : LL, (a[m]?) = some [.int .i64 n, .int .i64 n1, .int .i64 n2, .sl xs] ∧ ∃ n3 : Int, XC pg 63 [.dat [.int .i64 n, .int .i64 n1, .int .i64 n2, .sl xs], Z left] [] (Z n3) [] ∧ ifB (decide (n3 < (0 : Int)))
 ((Z (-1 : Int)) = r ∧ [] = O)
 (x0q r O a n3 (IntKind.wrap .i64 (i + (1 : Int)))))
 ((Z left) = r ∧ [] = O)) : x0q r O a left i := by
 unfold x0q CLk
 refine c2q (E := env) (hs := N7q) envOk a3q ?_
 exact a5q (by kernel_rfl) h
theorem a5Uq {a : LL} {left : Int} {r : AV} {O : List (Nat × Ob)} (h : ifB (decide (IntKind.wrap .i64 (left - (↑(a.length) : Int)) < (0 : Int)))
 ((Z (-1 : Int)) = r ∧ [] = O)
 (x0q r O a (IntKind.wrap .i64 (left - (↑(a.length) : Int))) (0 : Int))) : XC pg 24 [(L a), (Z left)] [] r O :=
 b1q (E := env) (hs := N7q) (c := (a1q Tryz.f24)) (n := 27) (res := [.tmp 4]) (rs := .c (.i .i64)) (ks := []) (dir := []) envOk a3q rfl Tryz.func24 (by kernel_rfl) (by kernel_rfl) (by kernel_rfl) (by kernel_rfl) (a5q (by kernel_rfl) h)
def R4q : a8q := ⟨[(3, ⟨[0, 3, 4], [], [], [], [], [], []⟩)], []⟩
def z4q (r : AV) (O : List (Nat × Ob)) (a : LL) (i : Int) (out : LL) : Prop := CLk 23 env R4q (a1q Tryz.f12) [1, 1, 0, 1, 0, 0] (c7q env [.tmp 2] (.o 89 3) [] [] r O) ⟨[(0, (L a)), (3, (.one (.ol 1900))), (4, (Z i))], [(1900, (.tr 89 3 out))]⟩
theorem U1q {r : AV} {O : List (Nat × Ob)} {a : LL} {i : Int} {out : LL} (h : ifB (decide (i < (↑(a.length) : Int)))
 (∃ m : Nat, i = (↑m : Int) ∧ ∃ q : ByteArray, ∃ n : Int, ∃ b : Bool, (a[m]?) = some [.str q, .int .i64 n, .bool b] ∧ ∃ q1 : ByteArray, ∃ n1 : Int, ∃ b1 : Bool, XC pg 49 [.dat [.str q, .int .i64 n, .bool b]] [] (.dat [.str q1, .int .i64 n1, .bool b1]) [] ∧ ∃ m1 : Nat, i = (↑m1 : Int) ∧ Do (m1 < out.length) ∧ ∃ m2 : Nat, (m1 * (3 : Nat)) = (m2 * (3 : Nat) + (0 : Nat)) ∧ ∃ q2 : ByteArray, ∃ n2 : Int, ∃ b2 : Bool, (out[m2]?) = some [.str q2, .int .i64 n2, .bool b2] ∧ z4q r O a (IntKind.wrap .i64 (i + (1 : Int))) (List.set out m2 ([] ++ [Da.str q1, Da.int IntKind.i64 n1, Da.bool b1] ++ [])))
 ((.one (.ol 0)) = r ∧ [(0, .tr 89 3 out)] = O)) : z4q r O a i out := by
 unfold z4q CLk
 refine c2q (E := env) (hs := R4q) envOk a3q ?_
 exact a5q (by kernel_rfl) h
theorem a6Jq {a : LL} {r : AV} {O : List (Nat × Ob)} (h : ∃ l c : Nat, (↑(a.length) : Int) = (↑l : Int) ∧ (↑(a.length) : Int) = (↑c : Int) ∧ Do (l ≤ c ∧ (32 : Nat) * c ≤ (281474976710656 : Nat) ∧ c ≤ (281474976710656 : Nat)) ∧ z4q r O a (0 : Int) (List.replicate l [Da.str { data := #[] }, Da.int IntKind.i64 (0 : Int), Da.bool false])) : XC pg 12 [(L a)] [] r O :=
 b1q (E := env) (hs := R4q) (c := (a1q Tryz.f12)) (n := 23) (res := [.tmp 2]) (rs := .o 89 3) (ks := []) (dir := []) envOk a3q rfl Tryz.func12 (by kernel_rfl) (by kernel_rfl) (by kernel_rfl) (by kernel_rfl) (a5q (by kernel_rfl) h)
def a5Pq : a8q := ⟨[], []⟩
theorem a4Dq {a : LL} {r : AV} {O : List (Nat × Ob)} (h : ∃ xs : LL, XC pg 50 [L a] [] (.one (.ol 0)) [(0, .tr 85 7 xs)] ∧ (.agg [.ol 0]) = r ∧ [(0, .tr 85 7 xs)] = O) : XC pg 13 [(.dat [(.sl a)])] [] r O :=
 b1q (E := env) (hs := a5Pq) (c := (a1q Tryz.f13)) (n := 9) (res := [.cell 2 39]) (rs := .s [.o 85 7]) (ks := []) (dir := []) envOk a3q rfl Tryz.func13 (by kernel_rfl) (by kernel_rfl) (by kernel_rfl) (by kernel_rfl) (a5q (by kernel_rfl) h)
def N4q : a8q := ⟨[(3, ⟨[0, 3, 4], [], [], [], [], [], []⟩)], []⟩
def w0q (r : AV) (O : List (Nat × Ob)) (a : LL) (i : Int) (out : LL) : Prop := CLk 23 env N4q (a1q Tryz.f26) [1, 1, 0, 1, 0, 0] (c7q env [.tmp 2] (.o 116 4) [] [] r O) ⟨[(0, (L a)), (3, (.one (.ol 1900))), (4, (Z i))], [(1900, (.tr 116 4 out))]⟩
theorem R1q {r : AV} {O : List (Nat × Ob)} {a : LL} {i : Int} {out : LL} (h : ifB (decide (i < (↑(a.length) : Int)))
 (∃ m : Nat, i = (↑m : Int) ∧ ∃ n n1 n2 : Int, ∃ xs : LL, (a[m]?) = some [.int .i64 n, .int .i64 n1, .int .i64 n2, .sl xs] ∧ ∃ n3 n4 n5 : Int, ∃ xs1 : LL, XC pg 69 [.dat [.int .i64 n, .int .i64 n1, .int .i64 n2, .sl xs]] [] (.agg [.d (.int .i64 n3), .d (.int .i64 n4), .d (.int .i64 n5), .ol 0]) [(0, .tr 30 3 xs1)] ∧ ∃ m1 : Nat, i = (↑m1 : Int) ∧ Do (m1 < out.length) ∧ ∃ m2 : Nat, (m1 * (4 : Nat)) = (m2 * (4 : Nat) + (0 : Nat)) ∧ ∃ n6 n7 n8 : Int, ∃ xs2 : LL, (out[m2]?) = some [.int .i64 n6, .int .i64 n7, .int .i64 n8, .sl xs2] ∧ w0q r O a (IntKind.wrap .i64 (i + (1 : Int))) (List.set out m2 ([] ++ [Da.int IntKind.i64 n3, Da.int IntKind.i64 n4, Da.int IntKind.i64 n5, Da.sl xs1] ++ [])))
 ((.one (.ol 0)) = r ∧ [(0, .tr 116 4 out)] = O)) : w0q r O a i out := by
 unfold w0q CLk
 refine c2q (E := env) (hs := N4q) envOk a3q ?_
 exact a5q (by kernel_rfl) h
theorem a4Jq {a : LL} {r : AV} {O : List (Nat × Ob)} (h : ∃ l c : Nat, (↑(a.length) : Int) = (↑l : Int) ∧ (↑(a.length) : Int) = (↑c : Int) ∧ Do (l ≤ c ∧ (48 : Nat) * c ≤ (281474976710656 : Nat) ∧ c ≤ (281474976710656 : Nat)) ∧ w0q r O a (0 : Int) (List.replicate l [Da.int IntKind.i64 (0 : Int), Da.int IntKind.i64 (0 : Int), Da.int IntKind.i64 (0 : Int), Da.sl []])) : XC pg 26 [(L a)] [] r O :=
 b1q (E := env) (hs := N4q) (c := (a1q Tryz.f26)) (n := 23) (res := [.tmp 2]) (rs := .o 116 4) (ks := []) (dir := []) envOk a3q rfl Tryz.func26 (by kernel_rfl) (by kernel_rfl) (by kernel_rfl) (by kernel_rfl) (a5q (by kernel_rfl) h)
def a5xq : a8q := ⟨[], []⟩
theorem a4Bq {p p1 : LL} {p2 p3 : Int} {p4 : LL} {r : AV} {O : List (Nat × Ob)} (h : ∃ b : Bool, XC pg 46 [L p, .dat [.sl p1]] [] (B b) [] ∧ ifB (!b)
 ((.tup [.dat [.sl []], B (false)]) = r ∧ [] = O)
 (∃ b1 : Bool, XC pg 64 [Z p2, Z (0 : Int), Z (IntKind.wrap .i64 ((↑(p1.length) : Int) - (1 : Int)))] [] (B b1) [] ∧ ifB (!b1)
 ((.tup [.dat [.sl []], B (false)]) = r ∧ [] = O)
 (∃ b2 : Bool, XC pg 64 [Z p3, Z (0 : Int), Z (IntKind.wrap .i64 ((↑(p1.length) : Int) - (1 : Int)))] [] (B b2) [] ∧ ifB (!b2)
 ((.tup [.dat [.sl []], B (false)]) = r ∧ [] = O)
 (ifB (decide (p2 = p3))
 ((.tup [.dat [.sl []], B (false)]) = r ∧ [] = O)
 (∃ m : Nat, p2 = (↑m : Int) ∧ ∃ b3 : Bool, ∃ n n1 : Int, ∃ xs : LL, ∃ n2 n3 : Int, ∃ xs1 : LL, (p1[m]?) = some (r7 b3 n n1 xs n2 n3 xs1) ∧ ∃ b4 : Bool, ∃ n4 n5 : Int, ∃ xs2 : LL, ∃ n6 n7 : Int, ∃ xs3 : LL, XC pg 66 [L p, L p4, .dat (r7 b3 n n1 xs n2 n3 xs1)] [] (.dat (r7 b4 n4 n5 xs2 n6 n7 xs3)) [] ∧ ∃ m1 : Nat, p3 = (↑m1 : Int) ∧ ∃ b5 : Bool, ∃ n8 n9 : Int, ∃ xs4 : LL, ∃ n10 n11 : Int, ∃ xs5 : LL, (p1[m1]?) = some (r7 b5 n8 n9 xs4 n10 n11 xs5) ∧ ∃ b6 : Bool, ∃ n12 n13 : Int, ∃ xs6 : LL, ∃ n14 n15 : Int, ∃ xs7 : LL, XC pg 66 [L p, L p4, .dat (r7 b5 n8 n9 xs4 n10 n11 xs5)] [] (.dat (r7 b6 n12 n13 xs6 n14 n15 xs7)) [] ∧ ∃ b7 : Bool, XC pg 65 [.dat (r7 b4 n4 n5 xs2 n6 n7 xs3), .dat (r7 b6 n12 n13 xs6 n14 n15 xs7)] [] (B b7) [] ∧ ifB (!b7)
 ((.tup [.dat [.sl []], B (false)]) = r ∧ [] = O)
 (∃ xs8 : LL, XC pg 68 [L p1, Z p3] [] (L xs8) [] ∧ ∃ xs9 : LL, ∃ b8 : Bool, XC pg 67 [L p, L xs8, L p4] [] (.tup [.dat [.sl xs9], B b8]) [] ∧ (.tup [.dat [.sl xs9], B b8]) = r ∧ [] = O)))))) : XC pg 25 [(L p), (.dat [(.sl p1)]), (Z p2), (Z p3), (L p4)] [] r O :=
 b1q (E := env) (hs := a5xq) (c := (a1q Tryz.f25)) (n := 74) (res := [.cell 10 39, .tmp 11]) (rs := .t [.d [.l], .c .b]) (ks := []) (dir := []) envOk a3q rfl Tryz.func25 (by kernel_rfl) (by kernel_rfl) (by kernel_rfl) (by kernel_rfl) (a5q (by kernel_rfl) h)
def a4Uq : a8q := ⟨[], []⟩
theorem a4pq {s c : LL} {i k : Int} {u : LL} {r : AV} {O : List (Nat × Ob)} (h : ∃ b : Bool, XC pg 51 [L s, .dat [.sl c]] [] (B b) [] ∧ ifB (!b)
 ((.tup [.agg [.ol 0], B (false)]) = r ∧ [(0, .tr 85 7 [])] = O)
 (∃ b1 : Bool, XC pg 70 [.dat [.sl c], Z i] [] (B b1) [] ∧ ifB (!b1)
 ((.tup [.agg [.ol 0], B (false)]) = r ∧ [(0, .tr 85 7 [])] = O)
 (∃ b2 : Bool, XC pg 70 [.dat [.sl c], Z k] [] (B b2) [] ∧ ifB (!b2)
 ((.tup [.agg [.ol 0], B (false)]) = r ∧ [(0, .tr 85 7 [])] = O)
 (ifB (decide (i = k))
 ((.tup [.agg [.ol 0], B (false)]) = r ∧ [(0, .tr 85 7 [])] = O)
 (∃ m : Nat, i = (↑m : Int) ∧ ∃ b3 : Bool, ∃ n n1 : Int, ∃ xs : LL, ∃ n2 n3 : Int, ∃ xs1 : LL, (c[m]?) = some (r7 b3 n n1 xs n2 n3 xs1) ∧ ∃ b4 : Bool, ∃ n4 n5 : Int, ∃ xs2 : LL, ∃ n6 n7 : Int, ∃ xs3 : LL, XC pg 72 [L s, L u, .dat (r7 b3 n n1 xs n2 n3 xs1)] [] (g7 b4 n4 n5 0 n6 n7 1) [(0, .tr 30 3 xs2), (1, .tr 30 3 xs3)] ∧ ∃ m1 : Nat, k = (↑m1 : Int) ∧ ∃ b5 : Bool, ∃ n8 n9 : Int, ∃ xs4 : LL, ∃ n10 n11 : Int, ∃ xs5 : LL, (c[m1]?) = some (r7 b5 n8 n9 xs4 n10 n11 xs5) ∧ ∃ b6 : Bool, ∃ n12 n13 : Int, ∃ xs6 : LL, ∃ n14 n15 : Int, ∃ xs7 : LL, XC pg 72 [L s, L u, .dat (r7 b5 n8 n9 xs4 n10 n11 xs5)] [] (g7 b6 n12 n13 0 n14 n15 1) [(0, .tr 30 3 xs6), (1, .tr 30 3 xs7)] ∧ ∃ b7 : Bool, XC pg 71 [.dat (r7 b4 n4 n5 xs2 n6 n7 xs3), .dat (r7 b6 n12 n13 xs6 n14 n15 xs7)] [] (B b7) [] ∧ ifB (!b7)
 ((.tup [.agg [.ol 0], B (false)]) = r ∧ [(0, .tr 85 7 [])] = O)
 (∃ xs8 : LL, XC pg 74 [.dat [.sl c], Z k] [] (L xs8) [] ∧ ∃ xs9 : LL, ∃ b8 : Bool, XC pg 73 [L s, L xs8, L u] [] (.tup [.agg [.ol 0], B b8]) [(0, .tr 85 7 xs9)] ∧ (.tup [.agg [.ol 0], B b8]) = r ∧ [(0, .tr 85 7 xs9)] = O)))))) : XC pg 27 [(L s), (.dat [(.sl c)]), (Z i), (Z k), (L u)] [] r O :=
 b1q (E := env) (hs := a4Uq) (c := (a1q Tryz.f27)) (n := 62) (res := [.cell 10 39, .tmp 11]) (rs := .t [.s [.o 85 7], .c .b]) (ks := []) (dir := []) envOk a3q rfl Tryz.func27 (by kernel_rfl) (by kernel_rfl) (by kernel_rfl) (by kernel_rfl) (a5q (by kernel_rfl) h)
def a51q : a8q := ⟨[], []⟩
theorem a4tq {a b : LL} {r : AV} {O : List (Nat × Ob)} (h : ∃ b1 : Bool, XC pg 56 [L a, L b] [] (B b1) [] ∧ ifB (!b1)
 ((B (false)) = r ∧ [] = O)
 ((B (true)) = r ∧ [] = O)) : XC pg 17 [(.dat [(.sl a)]), (.dat [(.sl b)])] [] r O :=
 b1q (E := env) (hs := a51q) (c := (a1q Tryz.f17)) (n := 11) (res := [.tmp 4]) (rs := .c .b) (ks := []) (dir := []) envOk a3q rfl Tryz.func17 (by kernel_rfl) (by kernel_rfl) (by kernel_rfl) (by kernel_rfl) (a5q (by kernel_rfl) h)
def R6q : a8q := ⟨[(4, ⟨[0, 1, 5], [], [], [], [], [], []⟩)], []⟩
def y9q (r : AV) (O : List (Nat × Ob)) (a b : LL) (i : Int) : Prop := CLk 27 env R6q (a1q Tryz.f16) [1, 1, 0, 1, 0, 0] (c7q env [.tmp 4] (.c .b) [] [] r O) ⟨[(0, (L a)), (1, (L b)), (5, (Z i))], []⟩
theorem V2q {r : AV} {O : List (Nat × Ob)} {a b : LL} {i : Int} (h : ifB (decide (i < (↑(a.length) : Int)))
 (∃ m : Nat, i = (↑m : Int) ∧ ∃ q : ByteArray, ∃ n : Int, ∃ b2 : Bool, (a[m]?) = some [.str q, .int .i64 n, .bool b2] ∧ ∃ m1 : Nat, i = (↑m1 : Int) ∧ ∃ q1 : ByteArray, ∃ n1 : Int, ∃ b3 : Bool, (b[m1]?) = some [.str q1, .int .i64 n1, .bool b3] ∧ ∃ b4 : Bool, XC pg 55 [.dat [.str q, .int .i64 n, .bool b2], .dat [.str q1, .int .i64 n1, .bool b3]] [] (B b4) [] ∧ ifB (!b4)
 ((B (false)) = r ∧ [] = O)
 (y9q r O a b (IntKind.wrap .i64 (i + (1 : Int)))))
 ((B (true)) = r ∧ [] = O)) : y9q r O a b i := by
 unfold y9q CLk
 refine c2q (E := env) (hs := R6q) envOk a3q ?_
 exact a5q (by kernel_rfl) h
theorem a6iq {a b : LL} {r : AV} {O : List (Nat × Ob)} (h : ifB (decide ((↑(a.length) : Int) ≠ (↑(b.length) : Int)))
 ((B (false)) = r ∧ [] = O)
 (y9q r O a b (0 : Int))) : XC pg 16 [(L a), (L b)] [] r O :=
 b1q (E := env) (hs := R6q) (c := (a1q Tryz.f16)) (n := 27) (res := [.tmp 4]) (rs := .c .b) (ks := []) (dir := []) envOk a3q rfl Tryz.func16 (by kernel_rfl) (by kernel_rfl) (by kernel_rfl) (by kernel_rfl) (a5q (by kernel_rfl) h)
def N2q : a8q := ⟨[(4, ⟨[0, 1, 5], [], [], [], [], [], []⟩)], []⟩
def w7q (r : AV) (O : List (Nat × Ob)) (a b : LL) (i : Int) : Prop := CLk 27 env N2q (a1q Tryz.f28) [1, 1, 0, 1, 0, 0] (c7q env [.tmp 4] (.c .b) [] [] r O) ⟨[(0, (L a)), (1, (L b)), (5, (Z i))], []⟩
theorem Q1q {r : AV} {O : List (Nat × Ob)} {a b : LL} {i : Int} (h : ifB (decide (i < (↑(a.length) : Int)))
 (∃ m : Nat, i = (↑m : Int) ∧ ∃ n n1 n2 : Int, ∃ xs : LL, (a[m]?) = some [.int .i64 n, .int .i64 n1, .int .i64 n2, .sl xs] ∧ ∃ m1 : Nat, i = (↑m1 : Int) ∧ ∃ n3 n4 n5 : Int, ∃ xs1 : LL, (b[m1]?) = some [.int .i64 n3, .int .i64 n4, .int .i64 n5, .sl xs1] ∧ ∃ b2 : Bool, XC pg 75 [.dat [.int .i64 n, .int .i64 n1, .int .i64 n2, .sl xs], .dat [.int .i64 n3, .int .i64 n4, .int .i64 n5, .sl xs1]] [] (B b2) [] ∧ ifB (!b2)
 ((B (false)) = r ∧ [] = O)
 (w7q r O a b (IntKind.wrap .i64 (i + (1 : Int)))))
 ((B (true)) = r ∧ [] = O)) : w7q r O a b i := by
 unfold w7q CLk
 refine c2q (E := env) (hs := N2q) envOk a3q ?_
 exact a5q (by kernel_rfl) h
theorem a52q {a b : LL} {r : AV} {O : List (Nat × Ob)} (h : ifB (decide ((↑(a.length) : Int) ≠ (↑(b.length) : Int)))
 ((B (false)) = r ∧ [] = O)
 (w7q r O a b (0 : Int))) : XC pg 28 [(L a), (L b)] [] r O :=
 b1q (E := env) (hs := N2q) (c := (a1q Tryz.f28)) (n := 27) (res := [.tmp 4]) (rs := .c .b) (ks := []) (dir := []) envOk a3q rfl Tryz.func28 (by kernel_rfl) (by kernel_rfl) (by kernel_rfl) (by kernel_rfl) (a5q (by kernel_rfl) h)
def I9q : a8q := ⟨[(2, ⟨[0, 1, 5], [], [], [], [], [], []⟩)], []⟩
def u3q (r : AV) (O : List (Nat × Ob)) (k i : Int) (a : LL) : Prop := CLk 37 env I9q (a1q Tryz.f18) [1, 0, 1, 0, 0] (c7q env [.tmp 4] (.c (.i .i64)) [(2000, (false))] [2000] r O) ⟨[(0, (.one (.ol 2000))), (1, (Z k)), (5, (Z i))], [(2000, (.mt 89 3 a))]⟩
theorem M1q {r : AV} {O : List (Nat × Ob)} {k i : Int} {a : LL} (h : ifB (decide (i < (↑(a.length) : Int)))
 (∃ q : ByteArray, XC pg 57 [Z k] [] (T q) [] ∧ ∃ m : Nat, i = (↑m : Int) ∧ Do (m < a.length) ∧ ∃ m1 : Nat, (m * (3 : Nat) + (0 : Nat)) = (m1 * (3 : Nat) + (0 : Nat)) ∧ ∃ q1 : ByteArray, ∃ n : Int, ∃ b : Bool, (a[m1]?) = some [.str q1, .int .i64 n, .bool b] ∧ ∃ m2 : Nat, i = (↑m2 : Int) ∧ Do (m2 < List.length (List.set a m1 ([] ++ [Da.str q] ++ [Da.int IntKind.i64 n, Da.bool b]))) ∧ ∃ m3 : Nat, (m2 * (3 : Nat) + (1 : Nat)) = (m3 * (3 : Nat) + Nat.succ (nat_lit 0)) ∧ ∃ q2 : ByteArray, ∃ n1 : Int, ∃ b1 : Bool, ((List.set a m1 ([] ++ [Da.str q] ++ [Da.int IntKind.i64 n, Da.bool b]))[m3]?) = some [.str q2, .int .i64 n1, .bool b1] ∧ Do ((3 : Int) ≠ (0 : Int)) ∧ ∃ m4 : Nat, i = (↑m4 : Int) ∧ Do (m4 < List.length (List.set (List.set a m1 ([] ++ [Da.str q] ++ [Da.int IntKind.i64 n, Da.bool b])) m3 ([Da.str q2] ++ [Da.int IntKind.i64 (IntKind.wrap .i64 (k + (1 : Int)))] ++ [Da.bool b1]))) ∧ ∃ m5 : Nat, (m4 * (3 : Nat) + (2 : Nat)) = (m5 * (3 : Nat) + Nat.succ (nat_lit 1)) ∧ ∃ q3 : ByteArray, ∃ n2 : Int, ∃ b2 : Bool, ((List.set (List.set a m1 ([] ++ [Da.str q] ++ [Da.int IntKind.i64 n, Da.bool b])) m3 ([Da.str q2] ++ [Da.int IntKind.i64 (IntKind.wrap .i64 (k + (1 : Int)))] ++ [Da.bool b1]))[m5]?) = some [.str q3, .int .i64 n2, .bool b2] ∧ u3q r O (IntKind.wrap .i64 (IntKind.wrap .i64 (IntKind.wrap .i64 (k + (1 : Int)) + (1 : Int)) + (1 : Int))) (IntKind.wrap .i64 (i + (1 : Int))) (List.set (List.set (List.set a m1 ([] ++ [Da.str q] ++ [Da.int IntKind.i64 n, Da.bool b])) m3 ([Da.str q2] ++ [Da.int IntKind.i64 (IntKind.wrap .i64 (k + (1 : Int)))] ++ [Da.bool b1])) m5 ([Da.str q3, Da.int IntKind.i64 n2] ++ [Da.bool (decide (Int.tmod (IntKind.wrap .i64 (IntKind.wrap .i64 (k + (1 : Int)) + (1 : Int))) (3 : Int) = (0 : Int)))] ++ [])))
 ((Z k) = r ∧ [(2000, .mt 89 3 a)] = O)) : u3q r O k i a := by
 unfold u3q CLk
 refine c2q (E := env) (hs := I9q) envOk a3q ?_
 exact a5q (by kernel_rfl) h
theorem a4qq {k : Int} {o2000 : LL} {r : AV} {O : List (Nat × Ob)} (h : u3q r O k (0 : Int) o2000) : XC pg 18 [(.one (.ol 2000)), (Z k)] [(2000, (.mt 89 3 o2000))] r O :=
 b1q (E := env) (hs := I9q) (c := (a1q Tryz.f18)) (n := 37) (res := [.tmp 4]) (rs := .c (.i .i64)) (ks := [(2000, (false))]) (dir := [2000]) envOk a3q rfl Tryz.func18 (by kernel_rfl) (by kernel_rfl) (by kernel_rfl) (by kernel_rfl) (a5q (by kernel_rfl) h)
def a3Eq : a8q := ⟨[], []⟩
theorem a2Bq {k : Int} {o2000 : LL} {r : AV} {O : List (Nat × Ob)} (h : ∃ n : Int, ∃ xs : LL, XC pg 58 [.one (.ol 2000), Z k] [(2000, .mt 85 7 o2000)] (Z n) [(2000, .mt 85 7 xs)] ∧ (Z n) = r ∧ [(2000, .mt 85 7 xs)] = O) : XC pg 19 [(.agg [(.ol 2000)]), (Z k)] [(2000, (.mt 85 7 o2000))] r O :=
 b1q (E := env) (hs := a3Eq) (c := (a1q Tryz.f19)) (n := 10) (res := [.tmp 4]) (rs := .c (.i .i64)) (ks := [(2000, (false))]) (dir := [2000]) envOk a3q rfl Tryz.func19 (by kernel_rfl) (by kernel_rfl) (by kernel_rfl) (by kernel_rfl) (a5q (by kernel_rfl) h)
def G1q : a8q := ⟨[(2, ⟨[0, 1, 5], [], [], [], [], [], []⟩)], []⟩
def s0q (r : AV) (O : List (Nat × Ob)) (k i : Int) (a : LL) : Prop := CLk 44 env G1q (a1q Tryz.f29) [1, 0, 1, 0, 0] (c7q env [.tmp 4] (.c (.i .i64)) [(2000, (false))] [2000] r O) ⟨[(0, (.one (.ol 2000))), (1, (Z k)), (5, (Z i))], [(2000, (.mt 116 4 a))]⟩
theorem J7q {r : AV} {O : List (Nat × Ob)} {k i : Int} {a : LL} (h : ifB (decide (i < (↑(a.length) : Int)))
 (∃ m : Nat, i = (↑m : Int) ∧ Do (m < a.length) ∧ ∃ m1 : Nat, (m * (4 : Nat) + (0 : Nat)) = (m1 * (4 : Nat) + (0 : Nat)) ∧ ∃ n n1 n2 : Int, ∃ xs : LL, (a[m1]?) = some [.int .i64 n, .int .i64 n1, .int .i64 n2, .sl xs] ∧ ∃ m2 : Nat, i = (↑m2 : Int) ∧ Do (m2 < List.length (List.set a m1 ([] ++ [Da.int IntKind.i64 k] ++ (r3 n1 n2 xs)))) ∧ ∃ m3 : Nat, (m2 * (4 : Nat) + (1 : Nat) + (0 : Nat)) = (m3 * (4 : Nat) + Nat.succ (nat_lit 0)) ∧ ∃ n3 n4 n5 : Int, ∃ xs1 : LL, ((List.set a m1 ([] ++ [Da.int IntKind.i64 k] ++ (r3 n1 n2 xs)))[m3]?) = some [.int .i64 n3, .int .i64 n4, .int .i64 n5, .sl xs1] ∧ ∃ m4 : Nat, i = (↑m4 : Int) ∧ Do (m4 < List.length (List.set (List.set a m1 ([] ++ [Da.int IntKind.i64 k] ++ (r3 n1 n2 xs))) m3 ([Da.int IntKind.i64 n3] ++ [Da.int IntKind.i64 (IntKind.wrap .i64 (k + (1 : Int)))] ++ [Da.int IntKind.i64 n5, Da.sl xs1]))) ∧ ∃ m5 : Nat, (m4 * (4 : Nat) + (1 : Nat) + (1 : Nat)) = (m5 * (4 : Nat) + Nat.succ (nat_lit 1)) ∧ ∃ n6 n7 n8 : Int, ∃ xs2 : LL, ((List.set (List.set a m1 ([] ++ [Da.int IntKind.i64 k] ++ (r3 n1 n2 xs))) m3 ([Da.int IntKind.i64 n3] ++ [Da.int IntKind.i64 (IntKind.wrap .i64 (k + (1 : Int)))] ++ [Da.int IntKind.i64 n5, Da.sl xs1]))[m5]?) = some [.int .i64 n6, .int .i64 n7, .int .i64 n8, .sl xs2] ∧ ∃ m6 : Nat, i = (↑m6 : Int) ∧ Do (m6 < List.length (List.set (List.set (List.set a m1 ([] ++ [Da.int IntKind.i64 k] ++ (r3 n1 n2 xs))) m3 ([Da.int IntKind.i64 n3] ++ [Da.int IntKind.i64 (IntKind.wrap .i64 (k + (1 : Int)))] ++ [Da.int IntKind.i64 n5, Da.sl xs1])) m5 ([Da.int IntKind.i64 n6, Da.int IntKind.i64 n7] ++ [Da.int IntKind.i64 (IntKind.wrap .i64 (IntKind.wrap .i64 (k + (1 : Int)) + (1 : Int)))] ++ [Da.sl xs2]))) ∧ ∃ m7 : Nat, (m6 * (4 : Nat) + (1 : Nat) + (2 : Nat)) = (m7 * (4 : Nat) + Nat.succ (nat_lit 2)) ∧ ∃ n9 n10 n11 : Int, ∃ xs3 : LL, ((List.set (List.set (List.set a m1 ([] ++ [Da.int IntKind.i64 k] ++ (r3 n1 n2 xs))) m3 ([Da.int IntKind.i64 n3] ++ [Da.int IntKind.i64 (IntKind.wrap .i64 (k + (1 : Int)))] ++ [Da.int IntKind.i64 n5, Da.sl xs1])) m5 ([Da.int IntKind.i64 n6, Da.int IntKind.i64 n7] ++ [Da.int IntKind.i64 (IntKind.wrap .i64 (IntKind.wrap .i64 (k + (1 : Int)) + (1 : Int)))] ++ [Da.sl xs2]))[m7]?) = some [.int .i64 n9, .int .i64 n10, .int .i64 n11, .sl xs3] ∧ ∀ (a1 : Option Addr), ∀ (l : Nat), ∀ (r1 : Nat), (a1 = a1 ∧ (l) = (l) ∧ (r1) = (r1)) ∧ ∃ n12 n13 n14 : Int, ∃ xs4 : LL, ((List.set (List.set (List.set a m1 ([] ++ [Da.int IntKind.i64 k] ++ (r3 n1 n2 xs))) m3 ([Da.int IntKind.i64 n3] ++ [Da.int IntKind.i64 (IntKind.wrap .i64 (k + (1 : Int)))] ++ [Da.int IntKind.i64 n5, Da.sl xs1])) m5 ([Da.int IntKind.i64 n6, Da.int IntKind.i64 n7] ++ [Da.int IntKind.i64 (IntKind.wrap .i64 (IntKind.wrap .i64 (k + (1 : Int)) + (1 : Int)))] ++ [Da.sl xs2]))[m7]?) = some [.int .i64 n12, .int .i64 n13, .int .i64 n14, .sl xs4] ∧ Do (∀ (y : List Da), y ∈ xs4 → y.length = Prod.fst ((3 : Nat), (40 : Nat), [At.d (Da.int IntKind.i64 (0 : Int)), At.d (Da.int IntKind.i64 (0 : Int)), At.e0])) ∧ ∃ ys1 : LL, ∃ n15 : Int, XC pg 76 [.one (.ol 2000), Z (IntKind.wrap .i64 (IntKind.wrap .i64 (IntKind.wrap .i64 (k + (1 : Int)) + (1 : Int)) + (1 : Int)))] [(2000, .mt 30 3 xs4)] (Z n15) [(2000, .mt 30 3 ys1)] ∧ s0q r O n15 (IntKind.wrap .i64 (i + (1 : Int))) (List.set (List.set (List.set (List.set a m1 ([] ++ [Da.int IntKind.i64 k] ++ (r3 n1 n2 xs))) m3 ([Da.int IntKind.i64 n3] ++ [Da.int IntKind.i64 (IntKind.wrap .i64 (k + (1 : Int)))] ++ [Da.int IntKind.i64 n5, Da.sl xs1])) m5 ([Da.int IntKind.i64 n6, Da.int IntKind.i64 n7] ++ [Da.int IntKind.i64 (IntKind.wrap .i64 (IntKind.wrap .i64 (k + (1 : Int)) + (1 : Int)))] ++ [Da.sl xs2])) m7 ([Da.int IntKind.i64 n12, Da.int IntKind.i64 n13, Da.int IntKind.i64 n14] ++ [Da.sl ys1] ++ [])))
 ((Z k) = r ∧ [(2000, .mt 116 4 a)] = O)) : s0q r O k i a := by
 unfold s0q CLk
 refine c2q (E := env) (hs := G1q) envOk a3q ?_
 exact a5q (by kernel_rfl) h
theorem a3Bq {k : Int} {o2000 : LL} {r : AV} {O : List (Nat × Ob)} (h : s0q r O k (0 : Int) o2000) : XC pg 29 [(.one (.ol 2000)), (Z k)] [(2000, (.mt 116 4 o2000))] r O :=
 b1q (E := env) (hs := G1q) (c := (a1q Tryz.f29)) (n := 44) (res := [.tmp 4]) (rs := .c (.i .i64)) (ks := [(2000, (false))]) (dir := [2000]) envOk a3q rfl Tryz.func29 (by kernel_rfl) (by kernel_rfl) (by kernel_rfl) (by kernel_rfl) (a5q (by kernel_rfl) h)
def a3wq : a8q := ⟨[], []⟩
theorem a32q {a : LL} {k : Int} {r : AV} {O : List (Nat × Ob)} (h : ∃ n : Int, XC pg 77 [L a, Z k] [] (Z n) [] ∧ ifB (decide (n < (0 : Int)))
 ((Z (-1 : Int)) = r ∧ [] = O)
 ((Z n) = r ∧ [] = O)) : XC pg 30 [(.dat [(.sl a)]), (Z k)] [] r O :=
 b1q (E := env) (hs := a3wq) (c := (a1q Tryz.f30)) (n := 12) (res := [.tmp 4]) (rs := .c (.i .i64)) (ks := []) (dir := []) envOk a3q rfl Tryz.func30 (by kernel_rfl) (by kernel_rfl) (by kernel_rfl) (by kernel_rfl) (a5q (by kernel_rfl) h)
def a8Qq : a8q := ⟨[], []⟩
theorem a8iq {a : ByteArray} {a1 : Int} {a2 : Bool} {left : Int} {r : AV} {O : List (Nat × Ob)} (h : ifB (decide (IntKind.wrap .i64 (left - (↑(ByteArray.size a) : Int)) < (0 : Int)))
 ((Z (-1 : Int)) = r ∧ [] = O)
 ((Z (IntKind.wrap .i64 (left - (↑(ByteArray.size a) : Int)))) = r ∧ [] = O)) : XC pg 44 [(.dat [(.str a), (.int .i64 a1), (.bool a2)]), (Z left)] [] r O :=
 b1q (E := env) (hs := a8Qq) (c := (a1q Tryz.f44)) (n := 13) (res := [.tmp 4]) (rs := .c (.i .i64)) (ks := []) (dir := []) envOk a3q rfl Tryz.func44 (by kernel_rfl) (by kernel_rfl) (by kernel_rfl) (by kernel_rfl) (a5q (by kernel_rfl) h)
def T6q : a8q := ⟨[(5, ⟨[0, 1, 5], [], [], [], [], [], []⟩)], []⟩
def z1q (r : AV) (O : List (Nat × Ob)) (a : LL) (left i : Int) : Prop := CLk 27 env T6q (a1q Tryz.f45) [1, 1, 1, 0, 1, 0, 0] (c7q env [.tmp 4] (.c (.i .i64)) [] [] r O) ⟨[(0, (L a)), (1, (Z left)), (5, (Z i))], []⟩
theorem U4q {r : AV} {O : List (Nat × Ob)} {a : LL} {left i : Int} (h : ifB (decide (i < (↑(a.length) : Int)))
 (∃ m : Nat, i = (↑m : Int) ∧ ∃ b : Bool, ∃ n n1 : Int, ∃ xs : LL, ∃ n2 n3 : Int, ∃ xs1 : LL, (a[m]?) = some (r7 b n n1 xs n2 n3 xs1) ∧ ∃ n4 : Int, XC pg 105 [.dat (r7 b n n1 xs n2 n3 xs1), Z left] [] (Z n4) [] ∧ ifB (decide (n4 < (0 : Int)))
 ((Z (-1 : Int)) = r ∧ [] = O)
 (z1q r O a n4 (IntKind.wrap .i64 (i + (1 : Int)))))
 ((Z left) = r ∧ [] = O)) : z1q r O a left i := by
 unfold z1q CLk
 refine c2q (E := env) (hs := T6q) envOk a3q ?_
 exact a5q (by kernel_rfl) h
theorem a6vq {a : LL} {left : Int} {r : AV} {O : List (Nat × Ob)} (h : ifB (decide (IntKind.wrap .i64 (left - (↑(a.length) : Int)) < (0 : Int)))
 ((Z (-1 : Int)) = r ∧ [] = O)
 (z1q r O a (IntKind.wrap .i64 (left - (↑(a.length) : Int))) (0 : Int))) : XC pg 45 [(L a), (Z left)] [] r O :=
 b1q (E := env) (hs := T6q) (c := (a1q Tryz.f45)) (n := 27) (res := [.tmp 4]) (rs := .c (.i .i64)) (ks := []) (dir := []) envOk a3q rfl Tryz.func45 (by kernel_rfl) (by kernel_rfl) (by kernel_rfl) (by kernel_rfl) (a5q (by kernel_rfl) h)
def a8aq : a8q := ⟨[], []⟩
theorem a6aq {a a1 a2 : Int} {a3 : LL} {left : Int} {r : AV} {O : List (Nat × Ob)} (h : ∃ n : Int, XC pg 130 [.dat (r3 a1 a2 a3), Z left] [] (Z n) [] ∧ ifB (decide (n < (0 : Int)))
 ((Z (-1 : Int)) = r ∧ [] = O)
 ((Z n) = r ∧ [] = O)) : XC pg 63 [(.dat [(.int .i64 a), (.int .i64 a1), (.int .i64 a2), (.sl a3)]), (Z left)] [] r O :=
 b1q (E := env) (hs := a8aq) (c := (a1q Tryz.f63)) (n := 12) (res := [.tmp 4]) (rs := .c (.i .i64)) (ks := []) (dir := []) envOk a3q rfl Tryz.func63 (by kernel_rfl) (by kernel_rfl) (by kernel_rfl) (by kernel_rfl) (a5q (by kernel_rfl) h)
def a9Rq : a8q := ⟨[], []⟩
theorem a81q {a : ByteArray} {a1 : Int} {a2 : Bool} {r : AV} {O : List (Nat × Ob)} (h : (.dat [.str a, .int .i64 a1, .bool a2]) = r ∧ [] = O) : XC pg 49 [(.dat [(.str a), (.int .i64 a1), (.bool a2)])] [] r O :=
 b1q (E := env) (hs := a9Rq) (c := (a1q Tryz.f49)) (n := 14) (res := [.cell 2 89]) (rs := .d [.s, (.i .i64), .b]) (ks := []) (dir := []) envOk a3q rfl Tryz.func49 (by kernel_rfl) (by kernel_rfl) (by kernel_rfl) (by kernel_rfl) (a5q (by kernel_rfl) h)
def S1q : a8q := ⟨[(3, ⟨[0, 3, 4], [], [], [], [], [], []⟩)], []⟩
def y4q (r : AV) (O : List (Nat × Ob)) (a : LL) (i : Int) (out : LL) : Prop := CLk 23 env S1q (a1q Tryz.f50) [1, 1, 0, 1, 0, 0] (c7q env [.tmp 2] (.o 85 7) [] [] r O) ⟨[(0, (L a)), (3, (.one (.ol 1900))), (4, (Z i))], [(1900, (.tr 85 7 out))]⟩
theorem U9q {r : AV} {O : List (Nat × Ob)} {a : LL} {i : Int} {out : LL} (h : ifB (decide (i < (↑(a.length) : Int)))
 (∃ m : Nat, i = (↑m : Int) ∧ ∃ b : Bool, ∃ n n1 : Int, ∃ xs : LL, ∃ n2 n3 : Int, ∃ xs1 : LL, (a[m]?) = some (r7 b n n1 xs n2 n3 xs1) ∧ ∃ b1 : Bool, ∃ n4 n5 : Int, ∃ xs2 : LL, ∃ n6 n7 : Int, ∃ xs3 : LL, XC pg 114 [.dat (r7 b n n1 xs n2 n3 xs1)] [] (g7 b1 n4 n5 0 n6 n7 1) [(0, .tr 30 3 xs2), (1, .tr 30 3 xs3)] ∧ ∃ m1 : Nat, i = (↑m1 : Int) ∧ Do (m1 < out.length) ∧ ∃ m2 : Nat, (m1 * (7 : Nat)) = (m2 * (7 : Nat) + (0 : Nat)) ∧ ∃ b2 : Bool, ∃ n8 n9 : Int, ∃ xs4 : LL, ∃ n10 n11 : Int, ∃ xs5 : LL, (out[m2]?) = some (r7 b2 n8 n9 xs4 n10 n11 xs5) ∧ y4q r O a (IntKind.wrap .i64 (i + (1 : Int))) (List.set out m2 ([] ++ (r7 b1 n4 n5 xs2 n6 n7 xs3) ++ [])))
 ((.one (.ol 0)) = r ∧ [(0, .tr 85 7 out)] = O)) : y4q r O a i out := by
 unfold y4q CLk
 refine c2q (E := env) (hs := S1q) envOk a3q ?_
 exact a5q (by kernel_rfl) h
theorem a6fq {a : LL} {r : AV} {O : List (Nat × Ob)} (h : ∃ l c : Nat, (↑(a.length) : Int) = (↑l : Int) ∧ (↑(a.length) : Int) = (↑c : Int) ∧ Do (l ≤ c ∧ (88 : Nat) * c ≤ (281474976710656 : Nat) ∧ c ≤ (281474976710656 : Nat)) ∧ y4q r O a (0 : Int) (List.replicate l (r7 false (0 : Int) (0 : Int) [] (0 : Int) (0 : Int) []))) : XC pg 50 [(L a)] [] r O :=
 b1q (E := env) (hs := S1q) (c := (a1q Tryz.f50)) (n := 23) (res := [.tmp 2]) (rs := .o 85 7) (ks := []) (dir := []) envOk a3q rfl Tryz.func50 (by kernel_rfl) (by kernel_rfl) (by kernel_rfl) (by kernel_rfl) (a5q (by kernel_rfl) h)
def a8mq : a8q := ⟨[], []⟩
theorem a6jq {a a1 a2 : Int} {a3 : LL} {r : AV} {O : List (Nat × Ob)} (h : ∃ n n1 : Int, ∃ xs : LL, XC pg 133 [.dat (r3 a1 a2 a3)] [] (g3 n n1 0) [(0, .tr 30 3 xs)] ∧ (.agg [.d (.int .i64 a), .d (.int .i64 n), .d (.int .i64 n1), .ol 0]) = r ∧ [(0, .tr 30 3 xs)] = O) : XC pg 69 [(.dat [(.int .i64 a), (.int .i64 a1), (.int .i64 a2), (.sl a3)])] [] r O :=
 b1q (E := env) (hs := a8mq) (c := (a1q Tryz.f69)) (n := 12) (res := [.cell 2 116]) (rs := .s [.k (.i .i64), .k (.i .i64), .k (.i .i64), .o 30 3]) (ks := []) (dir := []) envOk a3q rfl Tryz.func69 (by kernel_rfl) (by kernel_rfl) (by kernel_rfl) (by kernel_rfl) (a5q (by kernel_rfl) h)
def J0q : a8q := ⟨[(2, ⟨[0, 3, 5], [], [], [], [], [], []⟩)], []⟩
def o0q (r : AV) (O : List (Nat × Ob)) (s : LL) (i : Int) (c : LL) : Prop := CLk 44 env J0q (a1q Tryz.f46) [1, 0, 1, 0, 0] (c7q env [.tmp 4] (.c .b) [] [] r O) ⟨[(0, (L s)), (3, (.one (.op 1900 0))), (5, (Z i))], [(1900, (.var [(.d (.sl c))]))]⟩
theorem M4q {r : AV} {O : List (Nat × Ob)} {s : LL} {i : Int} {c : LL} (h : ifB (decide (i < (↑(c.length) : Int)))
 (∃ m : Nat, i = (↑m : Int) ∧ ∃ b : Bool, ∃ n n1 : Int, ∃ xs : LL, ∃ n2 n3 : Int, ∃ xs1 : LL, (c[m]?) = some (r7 b n n1 xs n2 n3 xs1) ∧ ∃ b1 : Bool, XC pg 106 [L s, .dat (r7 b n n1 xs n2 n3 xs1)] [] (B b1) [] ∧ ifB (!b1)
 ((B (false)) = r ∧ [] = O)
 (ifB (decide ((0 : Int) < i))
 (∃ m1 : Nat, (IntKind.wrap .i64 (i - (1 : Int))) = (↑m1 : Int) ∧ ∃ b2 : Bool, ∃ n4 n5 : Int, ∃ xs2 : LL, ∃ n6 n7 : Int, ∃ xs3 : LL, (c[m1]?) = some (r7 b2 n4 n5 xs2 n6 n7 xs3) ∧ ∃ m2 : Nat, i = (↑m2 : Int) ∧ ∃ b3 : Bool, ∃ n8 n9 : Int, ∃ xs4 : LL, ∃ n10 n11 : Int, ∃ xs5 : LL, (c[m2]?) = some (r7 b3 n8 n9 xs4 n10 n11 xs5) ∧ ∃ b4 : Bool, XC pg 107 [.dat (r7 b2 n4 n5 xs2 n6 n7 xs3), .dat (r7 b3 n8 n9 xs4 n10 n11 xs5)] [] (B b4) [] ∧ ifB (!b4)
 ((B (false)) = r ∧ [] = O)
 (o0q r O s (IntKind.wrap .i64 (i + (1 : Int))) c))
 (o0q r O s (IntKind.wrap .i64 (i + (1 : Int))) c)))
 ((B (decide ((↑(c.length) : Int) ≤ (8 : Int)))) = r ∧ [] = O)) : o0q r O s i c := by
 unfold o0q CLk
 refine c2q (E := env) (hs := J0q) envOk a3q ?_
 exact a5q (by kernel_rfl) h
theorem a4Eq {s c : LL} {r : AV} {O : List (Nat × Ob)} (h : o0q r O s (0 : Int) c) : XC pg 46 [(L s), (.dat [(.sl c)])] [] r O :=
 b1q (E := env) (hs := J0q) (c := (a1q Tryz.f46)) (n := 44) (res := [.tmp 4]) (rs := .c .b) (ks := []) (dir := []) envOk a3q rfl Tryz.func46 (by kernel_rfl) (by kernel_rfl) (by kernel_rfl) (by kernel_rfl) (a5q (by kernel_rfl) h)
def aaDq : a8q := ⟨[], []⟩
theorem a8Sq {x lo hi : Int} {r : AV} {O : List (Nat × Ob)} (h : ifB (decide (lo ≤ x))
 ((B (decide (x ≤ hi))) = r ∧ [] = O)
 ((B (false)) = r ∧ [] = O)) : XC pg 64 [(Z x), (Z lo), (Z hi)] [] r O :=
 b1q (E := env) (hs := aaDq) (c := (a1q Tryz.f64)) (n := 15) (res := [.tmp 6]) (rs := .c .b) (ks := []) (dir := []) envOk a3q rfl Tryz.func64 (by kernel_rfl) (by kernel_rfl) (by kernel_rfl) (by kernel_rfl) (a5q (by kernel_rfl) h)
def a4Sq : a8q := ⟨[], []⟩
theorem a4Cq {s u : LL} {l : Bool} {l1 l2 : Int} {l3 : LL} {l4 l5 : Int} {l6 : LL} {r : AV} {O : List (Nat × Ob)} (h : ∃ n n1 : Int, ∃ xs : LL, XC pg 79 [L s, L u, .dat (r3 l1 l2 l3)] [] (.dat (r3 n n1 xs)) [] ∧ ∃ n2 n3 : Int, ∃ xs1 : LL, XC pg 79 [L s, L u, .dat (r3 l4 l5 l6)] [] (.dat (r3 n2 n3 xs1)) [] ∧ ∃ b : Bool, ∃ n4 n5 : Int, ∃ xs2 : LL, ∃ n6 n7 : Int, ∃ xs3 : LL, XC pg 92 [L s, B l, .dat (r3 n n1 xs), .dat (r3 n2 n3 xs1)] [] (.dat (r7 b n4 n5 xs2 n6 n7 xs3)) [] ∧ (.dat (r7 b n4 n5 xs2 n6 n7 xs3)) = r ∧ [] = O) : XC pg 66 [(L s), (L u), (.dat [(.bool l), (.int .i64 l1), (.int .i64 l2), (.sl l3), (.int .i64 l4), (.int .i64 l5), (.sl l6)])] [] r O :=
 b1q (E := env) (hs := a4Sq) (c := (a1q Tryz.f66)) (n := 21) (res := [.cell 6 85]) (rs := .d [.b, (.i .i64), (.i .i64), .l, (.i .i64), (.i .i64), .l]) (ks := []) (dir := []) envOk a3q rfl Tryz.func66 (by kernel_rfl) (by kernel_rfl) (by kernel_rfl) (by kernel_rfl) (a5q (by kernel_rfl) h)
def a6rq : a8q := ⟨[], []⟩
theorem a5Dq {a : Bool} {a1 a2 : Int} {a3 : LL} {a4 a5 : Int} {a6 : LL} {b : Bool} {b1 b2 : Int} {b3 : LL} {b4 b5 : Int} {b6 : LL} {r : AV} {O : List (Nat × Ob)} (h : ifB (decide (a = b))
 (∃ b7 : Bool, XC pg 78 [.dat (r3 a1 a2 a3), .dat (r3 b1 b2 b3)] [] (B b7) [] ∧ ifB b7
 (∃ b8 : Bool, XC pg 78 [.dat (r3 a4 a5 a6), .dat (r3 b4 b5 b6)] [] (B b8) [] ∧ (B b8) = r ∧ [] = O)
 ((B (false)) = r ∧ [] = O))
 ((B (false)) = r ∧ [] = O)) : XC pg 65 [(.dat [(.bool a), (.int .i64 a1), (.int .i64 a2), (.sl a3), (.int .i64 a4), (.int .i64 a5), (.sl a6)]), (.dat [(.bool b), (.int .i64 b1), (.int .i64 b2), (.sl b3), (.int .i64 b4), (.int .i64 b5), (.sl b6)])] [] r O :=
 b1q (E := env) (hs := a6rq) (c := (a1q Tryz.f65)) (n := 24) (res := [.tmp 4]) (rs := .c .b) (ks := []) (dir := []) envOk a3q rfl Tryz.func65 (by kernel_rfl) (by kernel_rfl) (by kernel_rfl) (by kernel_rfl) (a5q (by kernel_rfl) h)
def a8pq : a8q := ⟨[], []⟩
theorem a74q {list : LL} {at_ : Int} {r : AV} {O : List (Nat × Ob)} (h : ∃ n : Nat, at_ = (↑n : Int) ∧ Do ((0 : Nat) ≤ n ∧ n ≤ list.length) ∧ Do (∀ (c : List Da), c ∈ list → c.length = TI.n { agg := true, n := (7 : Nat), b := (88 : Nat), el := none, fs := [some ((0 : Nat), (1 : Nat), false), some ((1 : Nat), (3 : Nat), true), some ((4 : Nat), (3 : Nat), true)], pr := (5 : Nat), ik := none }) ∧ Do (∀ (y : List Da), y ∈ List.drop (0 : Nat) (List.take n list) → y.length = Prod.fst ((7 : Nat), (88 : Nat), [At.d (Da.bool false), At.d (Da.int IntKind.i64 (0 : Int)), At.d (Da.int IntKind.i64 (0 : Int)), At.e0, At.d (Da.int IntKind.i64 (0 : Int)), At.d (Da.int IntKind.i64 (0 : Int)), At.e0])) ∧ Do ((List.length ([] : LL) + List.length (List.drop (0 : Nat) (List.take n list))) * 88 ≤ 140737488355328) ∧ ∃ n1 : Nat, (IntKind.wrap .i64 (at_ + (1 : Int))) = (↑n1 : Int) ∧ Do (n1 ≤ list.length ∧ list.length ≤ list.length) ∧ Do (∀ (c : List Da), c ∈ list → c.length = TI.n { agg := true, n := (7 : Nat), b := (88 : Nat), el := none, fs := [some ((0 : Nat), (1 : Nat), false), some ((1 : Nat), (3 : Nat), true), some ((4 : Nat), (3 : Nat), true)], pr := (5 : Nat), ik := none }) ∧ Do (∀ (y : List Da), y ∈ List.drop n1 (List.take (list.length) list) → y.length = Prod.fst ((7 : Nat), (88 : Nat), [At.d (Da.bool false), At.d (Da.int IntKind.i64 (0 : Int)), At.d (Da.int IntKind.i64 (0 : Int)), At.e0, At.d (Da.int IntKind.i64 (0 : Int)), At.d (Da.int IntKind.i64 (0 : Int)), At.e0])) ∧ Do ((List.length ([] ++ List.drop (0 : Nat) (List.take n list)) + List.length (List.drop n1 (List.take (list.length) list))) * 88 ≤ 140737488355328) ∧ (L ([] ++ List.drop (0 : Nat) (List.take n list) ++ List.drop n1 (List.take (list.length) list))) = r ∧ [] = O) : XC pg 68 [(L list), (Z at_)] [] r O :=
 b1q (E := env) (hs := a8pq) (c := (a1q Tryz.f68)) (n := 17) (res := [.tmp 4]) (rs := .c .l) (ks := []) (dir := []) envOk a3q rfl Tryz.func68 (by kernel_rfl) (by kernel_rfl) (by kernel_rfl) (by kernel_rfl) (a5q (by kernel_rfl) h)
def a6Iq : a8q := ⟨[], []⟩
theorem a5Oq {s list u : LL} {r : AV} {O : List (Nat × Ob)} (h : ∃ xs : LL, XC pg 132 [L s, L u, .dat [.sl list]] [] (.dat [.sl xs]) [] ∧ ∃ xs1 : LL, XC pg 131 [L s, .dat [.sl xs]] [] (.dat [.sl xs1]) [] ∧ ∃ b : Bool, XC pg 46 [L s, .dat [.sl xs1]] [] (B b) [] ∧ ifB (!b)
 ((.tup [.dat [.sl []], B (false)]) = r ∧ [] = O)
 ((.tup [.dat [.sl xs1], B (true)]) = r ∧ [] = O)) : XC pg 67 [(L s), (L list), (L u)] [] r O :=
 b1q (E := env) (hs := a6Iq) (c := (a1q Tryz.f67)) (n := 22) (res := [.cell 6 39, .tmp 7]) (rs := .t [.d [.l], .c .b]) (ks := []) (dir := []) envOk a3q rfl Tryz.func67 (by kernel_rfl) (by kernel_rfl) (by kernel_rfl) (by kernel_rfl) (a5q (by kernel_rfl) h)
def J8q : a8q := ⟨[(2, ⟨[0, 3, 8, 9, 10], [], [], [], [], [], []⟩)], []⟩
def o1q (r : AV) (O : List (Nat × Ob)) (s s8 : LL) (s9 s10 : Int) (c : LL) : Prop := CLk 39 env J8q (a1q Tryz.f51) [1, 0, 1, 0, 0] (c7q env [.tmp 4] (.c .b) [] [] r O) ⟨[(0, (L s)), (3, (.one (.op 1900 0))), (8, (L s8)), (9, (Z s9)), (10, (Z s10))], [(1900, (.var [(.d (.sl c))]))]⟩
theorem M7q {r : AV} {O : List (Nat × Ob)} {s s8 : LL} {s9 s10 : Int} {c : LL} (h : ifB (decide (s10 < s9))
 (∃ m : Nat, s10 = (↑m : Int) ∧ ∃ b : Bool, ∃ n n1 : Int, ∃ xs : LL, ∃ n2 n3 : Int, ∃ xs1 : LL, (s8[m]?) = some (r7 b n n1 xs n2 n3 xs1) ∧ ∃ b1 : Bool, XC pg 115 [L s, .dat (r7 b n n1 xs n2 n3 xs1)] [] (B b1) [] ∧ ifB (!b1)
 ((B (false)) = r ∧ [] = O)
 (ifB (decide ((0 : Int) < s10))
 (∃ m1 : Nat, (IntKind.wrap .i64 (s10 - (1 : Int))) = (↑m1 : Int) ∧ ∃ b2 : Bool, ∃ n4 n5 : Int, ∃ xs2 : LL, ∃ n6 n7 : Int, ∃ xs3 : LL, (c[m1]?) = some (r7 b2 n4 n5 xs2 n6 n7 xs3) ∧ ∃ b3 : Bool, XC pg 116 [.dat (r7 b2 n4 n5 xs2 n6 n7 xs3), .dat (r7 b n n1 xs n2 n3 xs1)] [] (B b3) [] ∧ ifB (!b3)
 ((B (false)) = r ∧ [] = O)
 (o1q r O s s8 s9 (IntKind.wrap .i64 (s10 + (1 : Int))) c))
 (o1q r O s s8 s9 (IntKind.wrap .i64 (s10 + (1 : Int))) c)))
 ((B (decide ((↑(c.length) : Int) ≤ (8 : Int)))) = r ∧ [] = O)) : o1q r O s s8 s9 s10 c := by
 unfold o1q CLk
 refine c2q (E := env) (hs := J8q) envOk a3q ?_
 exact a5q (by kernel_rfl) h
theorem a4Aq {s c : LL} {r : AV} {O : List (Nat × Ob)} (h : o1q r O s c (↑(c.length) : Int) (0 : Int) c) : XC pg 51 [(L s), (.dat [(.sl c)])] [] r O :=
 b1q (E := env) (hs := J8q) (c := (a1q Tryz.f51)) (n := 39) (res := [.tmp 4]) (rs := .c .b) (ks := []) (dir := []) envOk a3q rfl Tryz.func51 (by kernel_rfl) (by kernel_rfl) (by kernel_rfl) (by kernel_rfl) (a5q (by kernel_rfl) h)
def a96q : a8q := ⟨[], []⟩
theorem a7Oq {c : LL} {i : Int} {r : AV} {O : List (Nat × Ob)} (h : ∃ b : Bool, XC pg 134 [Z i, Z (0 : Int), Z (IntKind.wrap .i64 ((↑(c.length) : Int) - (1 : Int)))] [] (B b) [] ∧ (B b) = r ∧ [] = O) : XC pg 70 [(.dat [(.sl c)]), (Z i)] [] r O :=
 b1q (E := env) (hs := a96q) (c := (a1q Tryz.f70)) (n := 11) (res := [.tmp 4]) (rs := .c .b) (ks := []) (dir := []) envOk a3q rfl Tryz.func70 (by kernel_rfl) (by kernel_rfl) (by kernel_rfl) (by kernel_rfl) (a5q (by kernel_rfl) h)
def a59q : a8q := ⟨[], []⟩
theorem a4fq {s u : LL} {l : Bool} {l1 l2 : Int} {l3 : LL} {l4 l5 : Int} {l6 : LL} {r : AV} {O : List (Nat × Ob)} (h : ∃ n n1 : Int, ∃ xs : LL, XC pg 81 [L s, L u, .dat (r3 l1 l2 l3)] [] (g3 n n1 0) [(0, .tr 30 3 xs)] ∧ ∃ n2 n3 : Int, ∃ xs1 : LL, XC pg 81 [L s, L u, .dat (r3 l4 l5 l6)] [] (g3 n2 n3 0) [(0, .tr 30 3 xs1)] ∧ ∃ b : Bool, ∃ n4 n5 : Int, ∃ xs2 : LL, ∃ n6 n7 : Int, ∃ xs3 : LL, XC pg 136 [L s, B l, .dat (r3 n n1 xs), .dat (r3 n2 n3 xs1)] [] (g7 b n4 n5 0 n6 n7 1) [(0, .tr 30 3 xs2), (1, .tr 30 3 xs3)] ∧ (g7 b n4 n5 0 n6 n7 1) = r ∧ [(0, .tr 30 3 xs2), (1, .tr 30 3 xs3)] = O) : XC pg 72 [(L s), (L u), (.dat [(.bool l), (.int .i64 l1), (.int .i64 l2), (.sl l3), (.int .i64 l4), (.int .i64 l5), (.sl l6)])] [] r O :=
 b1q (E := env) (hs := a59q) (c := (a1q Tryz.f72)) (n := 21) (res := [.cell 6 85]) (rs := .s [.k .b, .k (.i .i64), .k (.i .i64), .o 30 3, .k (.i .i64), .k (.i .i64), .o 30 3]) (ks := []) (dir := []) envOk a3q rfl Tryz.func72 (by kernel_rfl) (by kernel_rfl) (by kernel_rfl) (by kernel_rfl) (a5q (by kernel_rfl) h)
def a3vq : a8q := ⟨[], []⟩
theorem a2Oq {c : LL} {i : Int} {r : AV} {O : List (Nat × Ob)} (h : ∃ xs : LL, XC pg 140 [L c] [] (.one (.ol 0)) [(0, .lst 85 7 xs)] ∧ ∃ xs1 : LL, XC pg 139 [.one (.ol 2000), Z i, Z (IntKind.wrap .i64 (i + (1 : Int)))] [(2000, .lst 85 7 xs)] (.one (.ol 0)) [(0, .lst 85 7 xs1)] ∧ (L xs1) = r ∧ [] = O) : XC pg 74 [(.dat [(.sl c)]), (Z i)] [] r O :=
 b1q (E := env) (hs := a3vq) (c := (a1q Tryz.f74)) (n := 12) (res := [.tmp 4]) (rs := .c .l) (ks := []) (dir := []) envOk a3q rfl Tryz.func74 (by kernel_rfl) (by kernel_rfl) (by kernel_rfl) (by kernel_rfl) (a5q (by kernel_rfl) h)
def aaPq : a8q := ⟨[], []⟩
theorem a9Zq {s list u : LL} {r : AV} {O : List (Nat × Ob)} (h : ∃ xs : LL, XC pg 138 [L s, L u, .dat [.sl list]] [] (.agg [.ol 0]) [(0, .tr 85 7 xs)] ∧ ∃ xs1 : LL, XC pg 137 [L s, .dat [.sl xs]] [] (.agg [.ol 0]) [(0, .tr 85 7 xs1)] ∧ ∃ b : Bool, XC pg 51 [L s, .dat [.sl xs1]] [] (B b) [] ∧ ifB (!b)
 ((.tup [.agg [.ol 0], B (false)]) = r ∧ [(0, .tr 85 7 [])] = O)
 ((.tup [.agg [.ol 0], B (true)]) = r ∧ [(0, .tr 85 7 xs1)] = O)) : XC pg 73 [(L s), (L list), (L u)] [] r O :=
 b1q (E := env) (hs := aaPq) (c := (a1q Tryz.f73)) (n := 22) (res := [.cell 6 39, .tmp 7]) (rs := .t [.s [.o 85 7], .c .b]) (ks := []) (dir := []) envOk a3q rfl Tryz.func73 (by kernel_rfl) (by kernel_rfl) (by kernel_rfl) (by kernel_rfl) (a5q (by kernel_rfl) h)
def S4q : a8q := ⟨[(4, ⟨[0, 1, 5], [], [], [], [], [], []⟩)], []⟩
def z5q (r : AV) (O : List (Nat × Ob)) (a b : LL) (i : Int) : Prop := CLk 27 env S4q (a1q Tryz.f56) [1, 1, 0, 1, 0, 0] (c7q env [.tmp 4] (.c .b) [] [] r O) ⟨[(0, (L a)), (1, (L b)), (5, (Z i))], []⟩
theorem V5q {r : AV} {O : List (Nat × Ob)} {a b : LL} {i : Int} (h : ifB (decide (i < (↑(a.length) : Int)))
 (∃ m : Nat, i = (↑m : Int) ∧ ∃ b2 : Bool, ∃ n n1 : Int, ∃ xs : LL, ∃ n2 n3 : Int, ∃ xs1 : LL, (a[m]?) = some (r7 b2 n n1 xs n2 n3 xs1) ∧ ∃ m1 : Nat, i = (↑m1 : Int) ∧ ∃ b3 : Bool, ∃ n4 n5 : Int, ∃ xs2 : LL, ∃ n6 n7 : Int, ∃ xs3 : LL, (b[m1]?) = some (r7 b3 n4 n5 xs2 n6 n7 xs3) ∧ ∃ b4 : Bool, XC pg 126 [.dat (r7 b2 n n1 xs n2 n3 xs1), .dat (r7 b3 n4 n5 xs2 n6 n7 xs3)] [] (B b4) [] ∧ ifB (!b4)
 ((B (false)) = r ∧ [] = O)
 (z5q r O a b (IntKind.wrap .i64 (i + (1 : Int)))))
 ((B (true)) = r ∧ [] = O)) : z5q r O a b i := by
 unfold z5q CLk
 refine c2q (E := env) (hs := S4q) envOk a3q ?_
 exact a5q (by kernel_rfl) h
theorem a72q {a b : LL} {r : AV} {O : List (Nat × Ob)} (h : ifB (decide ((↑(a.length) : Int) ≠ (↑(b.length) : Int)))
 ((B (false)) = r ∧ [] = O)
 (z5q r O a b (0 : Int))) : XC pg 56 [(L a), (L b)] [] r O :=
 b1q (E := env) (hs := S4q) (c := (a1q Tryz.f56)) (n := 27) (res := [.tmp 4]) (rs := .c .b) (ks := []) (dir := []) envOk a3q rfl Tryz.func56 (by kernel_rfl) (by kernel_rfl) (by kernel_rfl) (by kernel_rfl) (a5q (by kernel_rfl) h)
def aa9q : a8q := ⟨[], []⟩
theorem a7Vq {a : ByteArray} {a1 : Int} {a2 : Bool} {b : ByteArray} {b1 : Int} {b2 : Bool} {r : AV} {O : List (Nat × Ob)} (h : ifB (decide (a ≠ b))
 ((B (false)) = r ∧ [] = O)
 (ifB (decide (a1 ≠ b1))
 ((B (false)) = r ∧ [] = O)
 (ifB (decide (a2 ≠ b2))
 ((B (false)) = r ∧ [] = O)
 ((B (true)) = r ∧ [] = O)))) : XC pg 55 [(.dat [(.str a), (.int .i64 a1), (.bool a2)]), (.dat [(.str b), (.int .i64 b1), (.bool b2)])] [] r O :=
 b1q (E := env) (hs := aa9q) (c := (a1q Tryz.f55)) (n := 20) (res := [.tmp 4]) (rs := .c .b) (ks := []) (dir := []) envOk a3q rfl Tryz.func55 (by kernel_rfl) (by kernel_rfl) (by kernel_rfl) (by kernel_rfl) (a5q (by kernel_rfl) h)
def a7Zq : a8q := ⟨[], []⟩
theorem a6Yq {a a1 a2 : Int} {a3 : LL} {b b1 b2 : Int} {b3 : LL} {r : AV} {O : List (Nat × Ob)} (h : ifB (decide (a ≠ b))
 ((B (false)) = r ∧ [] = O)
 (∃ b4 : Bool, XC pg 54 [.dat (r3 a1 a2 a3), .dat (r3 b1 b2 b3)] [] (B b4) [] ∧ ifB (!b4)
 ((B (false)) = r ∧ [] = O)
 ((B (true)) = r ∧ [] = O))) : XC pg 75 [(.dat [(.int .i64 a), (.int .i64 a1), (.int .i64 a2), (.sl a3)]), (.dat [(.int .i64 b), (.int .i64 b1), (.int .i64 b2), (.sl b3)])] [] r O :=
 b1q (E := env) (hs := a7Zq) (c := (a1q Tryz.f75)) (n := 16) (res := [.tmp 4]) (rs := .c .b) (ks := []) (dir := []) envOk a3q rfl Tryz.func75 (by kernel_rfl) (by kernel_rfl) (by kernel_rfl) (by kernel_rfl) (a5q (by kernel_rfl) h)
def K6q : a8q := ⟨[(4, ⟨[0, 3], [], [], [], [], [], []⟩)], []⟩
def u0q (r : AV) (O : List (Nat × Ob)) (k : Int) (out : ByteArray) : Prop := CLk 20 env K6q (a1q Tryz.f57) [1, 1, 1, 0, 0, 0] (c7q env [.tmp 2] (.c .s) [] [] r O) ⟨[(0, (Z k)), (3, (T out))], []⟩
theorem L6q {r : AV} {O : List (Nat × Ob)} {k : Int} {out : ByteArray} (h : ifB (decide ((0 : Int) < k))
 (Do ((10 : Int) ≠ (0 : Int)) ∧ ∃ ns : List Int, [[.int .u8 (IntKind.wrap IntKind.u8 (IntKind.wrap .i64 ((48 : Int) + Int.tmod k (10 : Int))))]] = (List.map (fun n => [Da.int IntKind.u8 n]) ns) ∧ Do (ByteArray.size (strOfNums ns ++ out) ≤ (281474976710656 : Nat)) ∧ Do ((10 : Int) ≠ (0 : Int)) ∧ u0q r O (IntKind.wrap .i64 (Int.tdiv k (10 : Int))) (strOfNums ns ++ out))
 (Do (ByteArray.size ({ data := #[(109 : UInt8)] } ++ out) ≤ (281474976710656 : Nat)) ∧ (T ({ data := #[(109 : UInt8)] } ++ out)) = r ∧ [] = O)) : u0q r O k out := by
 unfold u0q CLk
 refine c2q (E := env) (hs := K6q) envOk a3q ?_
 exact a5q (by kernel_rfl) h
theorem a4lq {k : Int} {r : AV} {O : List (Nat × Ob)} (h : ifB (decide (k ≤ (0 : Int)))
 ((T ({ data := #[(109 : UInt8), (48 : UInt8)] })) = r ∧ [] = O)
 (u0q r O k ({ data := #[] }))) : XC pg 57 [(Z k)] [] r O :=
 b1q (E := env) (hs := K6q) (c := (a1q Tryz.f57)) (n := 20) (res := [.tmp 2]) (rs := .c .s) (ks := []) (dir := []) envOk a3q rfl Tryz.func57 (by kernel_rfl) (by kernel_rfl) (by kernel_rfl) (by kernel_rfl) (a5q (by kernel_rfl) h)
def K2q : a8q := ⟨[(2, ⟨[0, 1, 5], [], [], [], [], [], []⟩)], []⟩
def u5q (r : AV) (O : List (Nat × Ob)) (s1 s5 : Int) (s0 : LL) : Prop := CLk 70 env K2q (a1q Tryz.f58) [1, 0, 1, 0, 0] (c7q env [.tmp 4] (.c (.i .i64)) [(2000, (false))] [2000] r O) ⟨[(0, (.one (.ol 2000))), (1, (Z s1)), (5, (Z s5))], [(2000, (.mt 85 7 s0))]⟩
theorem M3q {r : AV} {O : List (Nat × Ob)} {s1 s5 : Int} {s0 : LL} (h : ifB (decide (s5 < (↑(s0.length) : Int)))
 (Do ((3 : Int) ≠ (0 : Int)) ∧ ∃ m : Nat, s5 = (↑m : Int) ∧ Do (m < s0.length) ∧ ∃ m1 : Nat, (m * (7 : Nat) + (0 : Nat)) = (m1 * (7 : Nat) + (0 : Nat)) ∧ ∃ b : Bool, ∃ n n1 : Int, ∃ xs : LL, ∃ n2 n3 : Int, ∃ xs1 : LL, (s0[m1]?) = some (r7 b n n1 xs n2 n3 xs1) ∧ ∃ m2 : Nat, s5 = (↑m2 : Int) ∧ Do (m2 < List.length (List.set s0 m1 ([] ++ [Da.bool (decide (Int.tmod s1 (3 : Int) = (0 : Int)))] ++ (r6 n n1 xs n2 n3 xs1)))) ∧ ∃ m3 : Nat, (m2 * (7 : Nat) + (1 : Nat) + (0 : Nat)) = (m3 * (7 : Nat) + Nat.succ (nat_lit 0)) ∧ ∃ b1 : Bool, ∃ n4 n5 : Int, ∃ xs2 : LL, ∃ n6 n7 : Int, ∃ xs3 : LL, ((List.set s0 m1 ([] ++ [Da.bool (decide (Int.tmod s1 (3 : Int) = (0 : Int)))] ++ (r6 n n1 xs n2 n3 xs1)))[m3]?) = some (r7 b1 n4 n5 xs2 n6 n7 xs3) ∧ ∃ m4 : Nat, s5 = (↑m4 : Int) ∧ Do (m4 < List.length (List.set (List.set s0 m1 ([] ++ [Da.bool (decide (Int.tmod s1 (3 : Int) = (0 : Int)))] ++ (r6 n n1 xs n2 n3 xs1))) m3 ([Da.bool b1] ++ [Da.int IntKind.i64 (IntKind.wrap .i64 (s1 + (1 : Int)))] ++ [Da.int IntKind.i64 n5, Da.sl xs2, Da.int IntKind.i64 n6, Da.int IntKind.i64 n7, Da.sl xs3]))) ∧ ∃ m5 : Nat, (m4 * (7 : Nat) + (1 : Nat) + (1 : Nat)) = (m5 * (7 : Nat) + Nat.succ (nat_lit 1)) ∧ ∃ b2 : Bool, ∃ n8 n9 : Int, ∃ xs4 : LL, ∃ n10 n11 : Int, ∃ xs5 : LL, ((List.set (List.set s0 m1 ([] ++ [Da.bool (decide (Int.tmod s1 (3 : Int) = (0 : Int)))] ++ (r6 n n1 xs n2 n3 xs1))) m3 ([Da.bool b1] ++ [Da.int IntKind.i64 (IntKind.wrap .i64 (s1 + (1 : Int)))] ++ [Da.int IntKind.i64 n5, Da.sl xs2, Da.int IntKind.i64 n6, Da.int IntKind.i64 n7, Da.sl xs3]))[m5]?) = some (r7 b2 n8 n9 xs4 n10 n11 xs5) ∧ ∃ m6 : Nat, s5 = (↑m6 : Int) ∧ Do (m6 < List.length (List.set (List.set (List.set s0 m1 ([] ++ [Da.bool (decide (Int.tmod s1 (3 : Int) = (0 : Int)))] ++ (r6 n n1 xs n2 n3 xs1))) m3 ([Da.bool b1] ++ [Da.int IntKind.i64 (IntKind.wrap .i64 (s1 + (1 : Int)))] ++ [Da.int IntKind.i64 n5, Da.sl xs2, Da.int IntKind.i64 n6, Da.int IntKind.i64 n7, Da.sl xs3])) m5 ([Da.bool b2, Da.int IntKind.i64 n8] ++ [Da.int IntKind.i64 (IntKind.wrap .i64 (IntKind.wrap .i64 (s1 + (1 : Int)) + (1 : Int)))] ++ [Da.sl xs4, Da.int IntKind.i64 n10, Da.int IntKind.i64 n11, Da.sl xs5]))) ∧ ∃ m7 : Nat, (m6 * (7 : Nat) + (1 : Nat) + (2 : Nat)) = (m7 * (7 : Nat) + Nat.succ (nat_lit 2)) ∧ ∃ b3 : Bool, ∃ n12 n13 : Int, ∃ xs6 : LL, ∃ n14 n15 : Int, ∃ xs7 : LL, ((List.set (List.set (List.set s0 m1 ([] ++ [Da.bool (decide (Int.tmod s1 (3 : Int) = (0 : Int)))] ++ (r6 n n1 xs n2 n3 xs1))) m3 ([Da.bool b1] ++ [Da.int IntKind.i64 (IntKind.wrap .i64 (s1 + (1 : Int)))] ++ [Da.int IntKind.i64 n5, Da.sl xs2, Da.int IntKind.i64 n6, Da.int IntKind.i64 n7, Da.sl xs3])) m5 ([Da.bool b2, Da.int IntKind.i64 n8] ++ [Da.int IntKind.i64 (IntKind.wrap .i64 (IntKind.wrap .i64 (s1 + (1 : Int)) + (1 : Int)))] ++ [Da.sl xs4, Da.int IntKind.i64 n10, Da.int IntKind.i64 n11, Da.sl xs5]))[m7]?) = some (r7 b3 n12 n13 xs6 n14 n15 xs7) ∧ ∀ (a : Option Addr), ∀ (l : Nat), ∀ (r1 : Nat), (a = a ∧ (l) = (l) ∧ (r1) = (r1)) ∧ ∃ b4 : Bool, ∃ n16 n17 : Int, ∃ xs8 : LL, ∃ n18 n19 : Int, ∃ xs9 : LL, ((List.set (List.set (List.set s0 m1 ([] ++ [Da.bool (decide (Int.tmod s1 (3 : Int) = (0 : Int)))] ++ (r6 n n1 xs n2 n3 xs1))) m3 ([Da.bool b1] ++ [Da.int IntKind.i64 (IntKind.wrap .i64 (s1 + (1 : Int)))] ++ [Da.int IntKind.i64 n5, Da.sl xs2, Da.int IntKind.i64 n6, Da.int IntKind.i64 n7, Da.sl xs3])) m5 ([Da.bool b2, Da.int IntKind.i64 n8] ++ [Da.int IntKind.i64 (IntKind.wrap .i64 (IntKind.wrap .i64 (s1 + (1 : Int)) + (1 : Int)))] ++ [Da.sl xs4, Da.int IntKind.i64 n10, Da.int IntKind.i64 n11, Da.sl xs5]))[m7]?) = some (r7 b4 n16 n17 xs8 n18 n19 xs9) ∧ Do (∀ (y : List Da), y ∈ xs8 → y.length = Prod.fst ((3 : Nat), (40 : Nat), [At.d (Da.int IntKind.i64 (0 : Int)), At.d (Da.int IntKind.i64 (0 : Int)), At.e0])) ∧ ∃ ys1 : LL, ∃ n20 : Int, XC pg 76 [.one (.ol 2000), Z (IntKind.wrap .i64 (IntKind.wrap .i64 (IntKind.wrap .i64 (s1 + (1 : Int)) + (1 : Int)) + (1 : Int)))] [(2000, .mt 30 3 xs8)] (Z n20) [(2000, .mt 30 3 ys1)] ∧ ∃ m8 : Nat, s5 = (↑m8 : Int) ∧ Do (m8 < List.length (List.set (List.set (List.set (List.set s0 m1 ([] ++ [Da.bool (decide (Int.tmod s1 (3 : Int) = (0 : Int)))] ++ (r6 n n1 xs n2 n3 xs1))) m3 ([Da.bool b1] ++ [Da.int IntKind.i64 (IntKind.wrap .i64 (s1 + (1 : Int)))] ++ [Da.int IntKind.i64 n5, Da.sl xs2, Da.int IntKind.i64 n6, Da.int IntKind.i64 n7, Da.sl xs3])) m5 ([Da.bool b2, Da.int IntKind.i64 n8] ++ [Da.int IntKind.i64 (IntKind.wrap .i64 (IntKind.wrap .i64 (s1 + (1 : Int)) + (1 : Int)))] ++ [Da.sl xs4, Da.int IntKind.i64 n10, Da.int IntKind.i64 n11, Da.sl xs5])) m7 ([Da.bool b4, Da.int IntKind.i64 n16, Da.int IntKind.i64 n17] ++ [Da.sl ys1] ++ (r3 n18 n19 xs9)))) ∧ ∃ m9 : Nat, (m8 * (7 : Nat) + (4 : Nat) + (0 : Nat)) = (m9 * (7 : Nat) + Nat.succ (nat_lit 3)) ∧ ∃ b5 : Bool, ∃ n21 n22 : Int, ∃ xs10 : LL, ∃ n23 n24 : Int, ∃ xs11 : LL, ((List.set (List.set (List.set (List.set s0 m1 ([] ++ [Da.bool (decide (Int.tmod s1 (3 : Int) = (0 : Int)))] ++ (r6 n n1 xs n2 n3 xs1))) m3 ([Da.bool b1] ++ [Da.int IntKind.i64 (IntKind.wrap .i64 (s1 + (1 : Int)))] ++ [Da.int IntKind.i64 n5, Da.sl xs2, Da.int IntKind.i64 n6, Da.int IntKind.i64 n7, Da.sl xs3])) m5 ([Da.bool b2, Da.int IntKind.i64 n8] ++ [Da.int IntKind.i64 (IntKind.wrap .i64 (IntKind.wrap .i64 (s1 + (1 : Int)) + (1 : Int)))] ++ [Da.sl xs4, Da.int IntKind.i64 n10, Da.int IntKind.i64 n11, Da.sl xs5])) m7 ([Da.bool b4, Da.int IntKind.i64 n16, Da.int IntKind.i64 n17] ++ [Da.sl ys1] ++ (r3 n18 n19 xs9)))[m9]?) = some (r7 b5 n21 n22 xs10 n23 n24 xs11) ∧ ∃ m10 : Nat, s5 = (↑m10 : Int) ∧ Do (m10 < List.length (List.set (List.set (List.set (List.set (List.set s0 m1 ([] ++ [Da.bool (decide (Int.tmod s1 (3 : Int) = (0 : Int)))] ++ (r6 n n1 xs n2 n3 xs1))) m3 ([Da.bool b1] ++ [Da.int IntKind.i64 (IntKind.wrap .i64 (s1 + (1 : Int)))] ++ [Da.int IntKind.i64 n5, Da.sl xs2, Da.int IntKind.i64 n6, Da.int IntKind.i64 n7, Da.sl xs3])) m5 ([Da.bool b2, Da.int IntKind.i64 n8] ++ [Da.int IntKind.i64 (IntKind.wrap .i64 (IntKind.wrap .i64 (s1 + (1 : Int)) + (1 : Int)))] ++ [Da.sl xs4, Da.int IntKind.i64 n10, Da.int IntKind.i64 n11, Da.sl xs5])) m7 ([Da.bool b4, Da.int IntKind.i64 n16, Da.int IntKind.i64 n17] ++ [Da.sl ys1] ++ (r3 n18 n19 xs9))) m9 ([Da.bool b5, Da.int IntKind.i64 n21, Da.int IntKind.i64 n22, Da.sl xs10] ++ [Da.int IntKind.i64 n20] ++ [Da.int IntKind.i64 n24, Da.sl xs11]))) ∧ ∃ m11 : Nat, (m10 * (7 : Nat) + (4 : Nat) + (1 : Nat)) = (m11 * (7 : Nat) + Nat.succ (nat_lit 4)) ∧ ∃ b6 : Bool, ∃ n25 n26 : Int, ∃ xs12 : LL, ∃ n27 n28 : Int, ∃ xs13 : LL, ((List.set (List.set (List.set (List.set (List.set s0 m1 ([] ++ [Da.bool (decide (Int.tmod s1 (3 : Int) = (0 : Int)))] ++ (r6 n n1 xs n2 n3 xs1))) m3 ([Da.bool b1] ++ [Da.int IntKind.i64 (IntKind.wrap .i64 (s1 + (1 : Int)))] ++ [Da.int IntKind.i64 n5, Da.sl xs2, Da.int IntKind.i64 n6, Da.int IntKind.i64 n7, Da.sl xs3])) m5 ([Da.bool b2, Da.int IntKind.i64 n8] ++ [Da.int IntKind.i64 (IntKind.wrap .i64 (IntKind.wrap .i64 (s1 + (1 : Int)) + (1 : Int)))] ++ [Da.sl xs4, Da.int IntKind.i64 n10, Da.int IntKind.i64 n11, Da.sl xs5])) m7 ([Da.bool b4, Da.int IntKind.i64 n16, Da.int IntKind.i64 n17] ++ [Da.sl ys1] ++ (r3 n18 n19 xs9))) m9 ([Da.bool b5, Da.int IntKind.i64 n21, Da.int IntKind.i64 n22, Da.sl xs10] ++ [Da.int IntKind.i64 n20] ++ [Da.int IntKind.i64 n24, Da.sl xs11]))[m11]?) = some (r7 b6 n25 n26 xs12 n27 n28 xs13) ∧ ∃ m12 : Nat, s5 = (↑m12 : Int) ∧ Do (m12 < List.length (List.set (List.set (List.set (List.set (List.set (List.set s0 m1 ([] ++ [Da.bool (decide (Int.tmod s1 (3 : Int) = (0 : Int)))] ++ (r6 n n1 xs n2 n3 xs1))) m3 ([Da.bool b1] ++ [Da.int IntKind.i64 (IntKind.wrap .i64 (s1 + (1 : Int)))] ++ [Da.int IntKind.i64 n5, Da.sl xs2, Da.int IntKind.i64 n6, Da.int IntKind.i64 n7, Da.sl xs3])) m5 ([Da.bool b2, Da.int IntKind.i64 n8] ++ [Da.int IntKind.i64 (IntKind.wrap .i64 (IntKind.wrap .i64 (s1 + (1 : Int)) + (1 : Int)))] ++ [Da.sl xs4, Da.int IntKind.i64 n10, Da.int IntKind.i64 n11, Da.sl xs5])) m7 ([Da.bool b4, Da.int IntKind.i64 n16, Da.int IntKind.i64 n17] ++ [Da.sl ys1] ++ (r3 n18 n19 xs9))) m9 ([Da.bool b5, Da.int IntKind.i64 n21, Da.int IntKind.i64 n22, Da.sl xs10] ++ [Da.int IntKind.i64 n20] ++ [Da.int IntKind.i64 n24, Da.sl xs11])) m11 ([Da.bool b6, Da.int IntKind.i64 n25, Da.int IntKind.i64 n26, Da.sl xs12, Da.int IntKind.i64 n27] ++ [Da.int IntKind.i64 (IntKind.wrap .i64 (n20 + (1 : Int)))] ++ [Da.sl xs13]))) ∧ ∃ m13 : Nat, (m12 * (7 : Nat) + (4 : Nat) + (2 : Nat)) = (m13 * (7 : Nat) + Nat.succ (nat_lit 5)) ∧ ∃ b7 : Bool, ∃ n29 n30 : Int, ∃ xs14 : LL, ∃ n31 n32 : Int, ∃ xs15 : LL, ((List.set (List.set (List.set (List.set (List.set (List.set s0 m1 ([] ++ [Da.bool (decide (Int.tmod s1 (3 : Int) = (0 : Int)))] ++ (r6 n n1 xs n2 n3 xs1))) m3 ([Da.bool b1] ++ [Da.int IntKind.i64 (IntKind.wrap .i64 (s1 + (1 : Int)))] ++ [Da.int IntKind.i64 n5, Da.sl xs2, Da.int IntKind.i64 n6, Da.int IntKind.i64 n7, Da.sl xs3])) m5 ([Da.bool b2, Da.int IntKind.i64 n8] ++ [Da.int IntKind.i64 (IntKind.wrap .i64 (IntKind.wrap .i64 (s1 + (1 : Int)) + (1 : Int)))] ++ [Da.sl xs4, Da.int IntKind.i64 n10, Da.int IntKind.i64 n11, Da.sl xs5])) m7 ([Da.bool b4, Da.int IntKind.i64 n16, Da.int IntKind.i64 n17] ++ [Da.sl ys1] ++ (r3 n18 n19 xs9))) m9 ([Da.bool b5, Da.int IntKind.i64 n21, Da.int IntKind.i64 n22, Da.sl xs10] ++ [Da.int IntKind.i64 n20] ++ [Da.int IntKind.i64 n24, Da.sl xs11])) m11 ([Da.bool b6, Da.int IntKind.i64 n25, Da.int IntKind.i64 n26, Da.sl xs12, Da.int IntKind.i64 n27] ++ [Da.int IntKind.i64 (IntKind.wrap .i64 (n20 + (1 : Int)))] ++ [Da.sl xs13]))[m13]?) = some (r7 b7 n29 n30 xs14 n31 n32 xs15) ∧ ∀ (a1 : Option Addr), ∀ (l1 : Nat), ∀ (r2 : Nat), (a1 = a1 ∧ (l1) = (l1) ∧ (r2) = (r2)) ∧ ∃ b8 : Bool, ∃ n33 n34 : Int, ∃ xs16 : LL, ∃ n35 n36 : Int, ∃ xs17 : LL, ((List.set (List.set (List.set (List.set (List.set (List.set s0 m1 ([] ++ [Da.bool (decide (Int.tmod s1 (3 : Int) = (0 : Int)))] ++ (r6 n n1 xs n2 n3 xs1))) m3 ([Da.bool b1] ++ [Da.int IntKind.i64 (IntKind.wrap .i64 (s1 + (1 : Int)))] ++ [Da.int IntKind.i64 n5, Da.sl xs2, Da.int IntKind.i64 n6, Da.int IntKind.i64 n7, Da.sl xs3])) m5 ([Da.bool b2, Da.int IntKind.i64 n8] ++ [Da.int IntKind.i64 (IntKind.wrap .i64 (IntKind.wrap .i64 (s1 + (1 : Int)) + (1 : Int)))] ++ [Da.sl xs4, Da.int IntKind.i64 n10, Da.int IntKind.i64 n11, Da.sl xs5])) m7 ([Da.bool b4, Da.int IntKind.i64 n16, Da.int IntKind.i64 n17] ++ [Da.sl ys1] ++ (r3 n18 n19 xs9))) m9 ([Da.bool b5, Da.int IntKind.i64 n21, Da.int IntKind.i64 n22, Da.sl xs10] ++ [Da.int IntKind.i64 n20] ++ [Da.int IntKind.i64 n24, Da.sl xs11])) m11 ([Da.bool b6, Da.int IntKind.i64 n25, Da.int IntKind.i64 n26, Da.sl xs12, Da.int IntKind.i64 n27] ++ [Da.int IntKind.i64 (IntKind.wrap .i64 (n20 + (1 : Int)))] ++ [Da.sl xs13]))[m13]?) = some (r7 b8 n33 n34 xs16 n35 n36 xs17) ∧ Do (∀ (y : List Da), y ∈ xs17 → y.length = Prod.fst ((3 : Nat), (40 : Nat), [At.d (Da.int IntKind.i64 (0 : Int)), At.d (Da.int IntKind.i64 (0 : Int)), At.e0])) ∧ ∃ ys11 : LL, ∃ n37 : Int, XC pg 76 [.one (.ol 2000), Z (IntKind.wrap .i64 (IntKind.wrap .i64 (n20 + (1 : Int)) + (1 : Int)))] [(2000, .mt 30 3 xs17)] (Z n37) [(2000, .mt 30 3 ys11)] ∧ u5q r O n37 (IntKind.wrap .i64 (s5 + (1 : Int))) (List.set (List.set (List.set (List.set (List.set (List.set (List.set s0 m1 ([] ++ [Da.bool (decide (Int.tmod s1 (3 : Int) = (0 : Int)))] ++ (r6 n n1 xs n2 n3 xs1))) m3 ([Da.bool b1] ++ [Da.int IntKind.i64 (IntKind.wrap .i64 (s1 + (1 : Int)))] ++ [Da.int IntKind.i64 n5, Da.sl xs2, Da.int IntKind.i64 n6, Da.int IntKind.i64 n7, Da.sl xs3])) m5 ([Da.bool b2, Da.int IntKind.i64 n8] ++ [Da.int IntKind.i64 (IntKind.wrap .i64 (IntKind.wrap .i64 (s1 + (1 : Int)) + (1 : Int)))] ++ [Da.sl xs4, Da.int IntKind.i64 n10, Da.int IntKind.i64 n11, Da.sl xs5])) m7 ([Da.bool b4, Da.int IntKind.i64 n16, Da.int IntKind.i64 n17] ++ [Da.sl ys1] ++ (r3 n18 n19 xs9))) m9 ([Da.bool b5, Da.int IntKind.i64 n21, Da.int IntKind.i64 n22, Da.sl xs10] ++ [Da.int IntKind.i64 n20] ++ [Da.int IntKind.i64 n24, Da.sl xs11])) m11 ([Da.bool b6, Da.int IntKind.i64 n25, Da.int IntKind.i64 n26, Da.sl xs12, Da.int IntKind.i64 n27] ++ [Da.int IntKind.i64 (IntKind.wrap .i64 (n20 + (1 : Int)))] ++ [Da.sl xs13])) m13 ([Da.bool b8, Da.int IntKind.i64 n33, Da.int IntKind.i64 n34, Da.sl xs16, Da.int IntKind.i64 n35, Da.int IntKind.i64 n36] ++ [Da.sl ys11] ++ [])))
 ((Z s1) = r ∧ [(2000, .mt 85 7 s0)] = O)) : u5q r O s1 s5 s0 := by
 unfold u5q CLk
 refine c2q (E := env) (hs := K2q) envOk a3q ?_
 exact a5q (by kernel_rfl) h
theorem a3Zq {p : Int} {o2000 : LL} {r : AV} {O : List (Nat × Ob)} (h : u5q r O p (0 : Int) o2000) : XC pg 58 [(.one (.ol 2000)), (Z p)] [(2000, (.mt 85 7 o2000))] r O :=
 b1q (E := env) (hs := K2q) (c := (a1q Tryz.f58)) (n := 70) (res := [.tmp 4]) (rs := .c (.i .i64)) (ks := [(2000, (false))]) (dir := [2000]) envOk a3q rfl Tryz.func58 (by kernel_rfl) (by kernel_rfl) (by kernel_rfl) (by kernel_rfl) (a5q (by kernel_rfl) h)
def G8q : a8q := ⟨[(2, ⟨[0, 1, 5], [], [], [], [], [], []⟩)], []⟩
def s4q (r : AV) (O : List (Nat × Ob)) (k i : Int) (a : LL) : Prop := CLk 34 env G8q (a1q Tryz.f76) [1, 0, 1, 0, 0] (c7q env [.tmp 4] (.c (.i .i64)) [(2000, (false))] [2000] r O) ⟨[(0, (.one (.ol 2000))), (1, (Z k)), (5, (Z i))], [(2000, (.mt 30 3 a))]⟩
theorem L2q {r : AV} {O : List (Nat × Ob)} {k i : Int} {a : LL} (h : ifB (decide (i < (↑(a.length) : Int)))
 (∃ m : Nat, i = (↑m : Int) ∧ Do (m < a.length) ∧ ∃ m1 : Nat, (m * (3 : Nat) + (0 : Nat)) = (m1 * (3 : Nat) + (0 : Nat)) ∧ ∃ n n1 : Int, ∃ xs : LL, (a[m1]?) = some (r3 n n1 xs) ∧ ∃ m2 : Nat, i = (↑m2 : Int) ∧ Do (m2 < List.length (List.set a m1 ([] ++ [Da.int IntKind.i64 k] ++ [Da.int IntKind.i64 n1, Da.sl xs]))) ∧ ∃ m3 : Nat, (m2 * (3 : Nat) + (1 : Nat)) = (m3 * (3 : Nat) + Nat.succ (nat_lit 0)) ∧ ∃ n2 n3 : Int, ∃ xs1 : LL, ((List.set a m1 ([] ++ [Da.int IntKind.i64 k] ++ [Da.int IntKind.i64 n1, Da.sl xs]))[m3]?) = some (r3 n2 n3 xs1) ∧ ∃ m4 : Nat, i = (↑m4 : Int) ∧ Do (m4 < List.length (List.set (List.set a m1 ([] ++ [Da.int IntKind.i64 k] ++ [Da.int IntKind.i64 n1, Da.sl xs])) m3 ([Da.int IntKind.i64 n2] ++ [Da.int IntKind.i64 (IntKind.wrap .i64 (k + (1 : Int)))] ++ [Da.sl xs1]))) ∧ ∃ m5 : Nat, (m4 * (3 : Nat) + (2 : Nat)) = (m5 * (3 : Nat) + Nat.succ (nat_lit 1)) ∧ ∃ n4 n5 : Int, ∃ xs2 : LL, ((List.set (List.set a m1 ([] ++ [Da.int IntKind.i64 k] ++ [Da.int IntKind.i64 n1, Da.sl xs])) m3 ([Da.int IntKind.i64 n2] ++ [Da.int IntKind.i64 (IntKind.wrap .i64 (k + (1 : Int)))] ++ [Da.sl xs1]))[m5]?) = some (r3 n4 n5 xs2) ∧ ∀ (a1 : Option Addr), ∀ (l : Nat), ∀ (r1 : Nat), (a1 = a1 ∧ (l) = (l) ∧ (r1) = (r1)) ∧ ∃ n6 n7 : Int, ∃ xs3 : LL, ((List.set (List.set a m1 ([] ++ [Da.int IntKind.i64 k] ++ [Da.int IntKind.i64 n1, Da.sl xs])) m3 ([Da.int IntKind.i64 n2] ++ [Da.int IntKind.i64 (IntKind.wrap .i64 (k + (1 : Int)))] ++ [Da.sl xs1]))[m5]?) = some (r3 n6 n7 xs3) ∧ Do (∀ (y : List Da), y ∈ xs3 → y.length = Prod.fst ((3 : Nat), (40 : Nat), [At.d (Da.int IntKind.i64 (0 : Int)), At.d (Da.int IntKind.i64 (0 : Int)), At.e0])) ∧ ∃ ys1 : LL, ∃ n8 : Int, XC pg 76 [.one (.ol 2000), Z (IntKind.wrap .i64 (IntKind.wrap .i64 (k + (1 : Int)) + (1 : Int)))] [(2000, .mt 30 3 xs3)] (Z n8) [(2000, .mt 30 3 ys1)] ∧ s4q r O n8 (IntKind.wrap .i64 (i + (1 : Int))) (List.set (List.set (List.set a m1 ([] ++ [Da.int IntKind.i64 k] ++ [Da.int IntKind.i64 n1, Da.sl xs])) m3 ([Da.int IntKind.i64 n2] ++ [Da.int IntKind.i64 (IntKind.wrap .i64 (k + (1 : Int)))] ++ [Da.sl xs1])) m5 ([Da.int IntKind.i64 n6, Da.int IntKind.i64 n7] ++ [Da.sl ys1] ++ [])))
 ((Z k) = r ∧ [(2000, .mt 30 3 a)] = O)) : s4q r O k i a := by
 unfold s4q CLk
 refine c2q (E := env) (hs := G8q) envOk a3q ?_
 exact a5q (by kernel_rfl) h
theorem a3Cq {k : Int} {o2000 : LL} {r : AV} {O : List (Nat × Ob)} (h : s4q r O k (0 : Int) o2000) : XC pg 76 [(.one (.ol 2000)), (Z k)] [(2000, (.mt 30 3 o2000))] r O :=
 b1q (E := env) (hs := G8q) (c := (a1q Tryz.f76)) (n := 34) (res := [.tmp 4]) (rs := .c (.i .i64)) (ks := [(2000, (false))]) (dir := [2000]) envOk a3q rfl Tryz.func76 (by kernel_rfl) (by kernel_rfl) (by kernel_rfl) (by kernel_rfl) (a5q (by kernel_rfl) h)
def I8q : a8q := ⟨[(2, ⟨[0, 1, 5], [], [], [], [], [], []⟩)], []⟩
def u8q (r : AV) (O : List (Nat × Ob)) (s0 : LL) (s1 s5 : Int) : Prop := CLk 84 env I8q (a1q Tryz.f77) [1, 0, 1, 0, 0] (c7q env [.tmp 4] (.c (.i .i64)) [] [] r O) ⟨[(0, (L s0)), (1, (Z s1)), (5, (Z s5))], []⟩
theorem N0q {r : AV} {O : List (Nat × Ob)} {s0 : LL} {s1 s5 : Int} (h : ifB (decide (s5 < (↑(s0.length) : Int)))
 (∃ m : Nat, s5 = (↑m : Int) ∧ ∃ b : Bool, ∃ n n1 : Int, ∃ xs : LL, ∃ n2 n3 : Int, ∃ xs1 : LL, (s0[m]?) = some (r7 b n n1 xs n2 n3 xs1) ∧ Do ((3 : Int) ≠ (0 : Int)) ∧ ifB (decide (b ≠ decide (Int.tmod s1 (3 : Int) = (0 : Int))))
 ((Z (-1 : Int)) = r ∧ [] = O)
 (∃ m1 : Nat, s5 = (↑m1 : Int) ∧ ∃ b1 : Bool, ∃ n4 n5 : Int, ∃ xs2 : LL, ∃ n6 n7 : Int, ∃ xs3 : LL, (s0[m1]?) = some (r7 b1 n4 n5 xs2 n6 n7 xs3) ∧ ifB (decide (n4 ≠ IntKind.wrap .i64 (s1 + (1 : Int))))
 ((Z (-1 : Int)) = r ∧ [] = O)
 (∃ m2 : Nat, s5 = (↑m2 : Int) ∧ ∃ b2 : Bool, ∃ n8 n9 : Int, ∃ xs4 : LL, ∃ n10 n11 : Int, ∃ xs5 : LL, (s0[m2]?) = some (r7 b2 n8 n9 xs4 n10 n11 xs5) ∧ ifB (decide (n9 ≠ IntKind.wrap .i64 (IntKind.wrap .i64 (s1 + (1 : Int)) + (1 : Int))))
 ((Z (-1 : Int)) = r ∧ [] = O)
 (∃ m3 : Nat, s5 = (↑m3 : Int) ∧ ∃ b3 : Bool, ∃ n12 n13 : Int, ∃ xs6 : LL, ∃ n14 n15 : Int, ∃ xs7 : LL, (s0[m3]?) = some (r7 b3 n12 n13 xs6 n14 n15 xs7) ∧ ∃ n16 : Int, XC pg 127 [L xs6, Z (IntKind.wrap .i64 (IntKind.wrap .i64 (IntKind.wrap .i64 (s1 + (1 : Int)) + (1 : Int)) + (1 : Int)))] [] (Z n16) [] ∧ ifB (decide (n16 < (0 : Int)))
 ((Z (-1 : Int)) = r ∧ [] = O)
 (∃ m4 : Nat, s5 = (↑m4 : Int) ∧ ∃ b4 : Bool, ∃ n17 n18 : Int, ∃ xs8 : LL, ∃ n19 n20 : Int, ∃ xs9 : LL, (s0[m4]?) = some (r7 b4 n17 n18 xs8 n19 n20 xs9) ∧ ifB (decide (n19 ≠ n16))
 ((Z (-1 : Int)) = r ∧ [] = O)
 (∃ m5 : Nat, s5 = (↑m5 : Int) ∧ ∃ b5 : Bool, ∃ n21 n22 : Int, ∃ xs10 : LL, ∃ n23 n24 : Int, ∃ xs11 : LL, (s0[m5]?) = some (r7 b5 n21 n22 xs10 n23 n24 xs11) ∧ ifB (decide (n24 ≠ IntKind.wrap .i64 (n16 + (1 : Int))))
 ((Z (-1 : Int)) = r ∧ [] = O)
 (∃ m6 : Nat, s5 = (↑m6 : Int) ∧ ∃ b6 : Bool, ∃ n25 n26 : Int, ∃ xs12 : LL, ∃ n27 n28 : Int, ∃ xs13 : LL, (s0[m6]?) = some (r7 b6 n25 n26 xs12 n27 n28 xs13) ∧ ∃ n29 : Int, XC pg 127 [L xs13, Z (IntKind.wrap .i64 (IntKind.wrap .i64 (n16 + (1 : Int)) + (1 : Int)))] [] (Z n29) [] ∧ ifB (decide (n29 < (0 : Int)))
 ((Z (-1 : Int)) = r ∧ [] = O)
 (u8q r O s0 n29 (IntKind.wrap .i64 (s5 + (1 : Int)))))))))))
 ((Z s1) = r ∧ [] = O)) : u8q r O s0 s1 s5 := by
 unfold u8q CLk
 refine c2q (E := env) (hs := I8q) envOk a3q ?_
 exact a5q (by kernel_rfl) h
theorem a4kq {p : LL} {p1 : Int} {r : AV} {O : List (Nat × Ob)} (h : u8q r O p p1 (0 : Int)) : XC pg 77 [(L p), (Z p1)] [] r O :=
 b1q (E := env) (hs := I8q) (c := (a1q Tryz.f77)) (n := 84) (res := [.tmp 4]) (rs := .c (.i .i64)) (ks := []) (dir := []) envOk a3q rfl Tryz.func77 (by kernel_rfl) (by kernel_rfl) (by kernel_rfl) (by kernel_rfl) (a5q (by kernel_rfl) h)
def a9tq : a8q := ⟨[], []⟩
theorem a89q {a : Bool} {a1 a2 : Int} {a3 : LL} {a4 a5 : Int} {a6 : LL} {left : Int} {r : AV} {O : List (Nat × Ob)} (h : ∃ n : Int, XC pg 130 [.dat (r3 a1 a2 a3), Z left] [] (Z n) [] ∧ ifB (decide (n < (0 : Int)))
 ((Z (-1 : Int)) = r ∧ [] = O)
 (∃ n1 : Int, XC pg 130 [.dat (r3 a4 a5 a6), Z n] [] (Z n1) [] ∧ ifB (decide (n1 < (0 : Int)))
 ((Z (-1 : Int)) = r ∧ [] = O)
 ((Z n1) = r ∧ [] = O))) : XC pg 105 [(.dat [(.bool a), (.int .i64 a1), (.int .i64 a2), (.sl a3), (.int .i64 a4), (.int .i64 a5), (.sl a6)]), (Z left)] [] r O :=
 b1q (E := env) (hs := a9tq) (c := (a1q Tryz.f105)) (n := 18) (res := [.tmp 4]) (rs := .c (.i .i64)) (ks := []) (dir := []) envOk a3q rfl Tryz.func105 (by kernel_rfl) (by kernel_rfl) (by kernel_rfl) (by kernel_rfl) (a5q (by kernel_rfl) h)
def a8uq : a8q := ⟨[], []⟩
theorem a6Fq {a a1 : Int} {a2 : LL} {left : Int} {r : AV} {O : List (Nat × Ob)} (h : ∃ n : Int, XC pg 192 [L a2, Z left] [] (Z n) [] ∧ ifB (decide (n < (0 : Int)))
 ((Z (-1 : Int)) = r ∧ [] = O)
 ((Z n) = r ∧ [] = O)) : XC pg 130 [(.dat [(.int .i64 a), (.int .i64 a1), (.sl a2)]), (Z left)] [] r O :=
 b1q (E := env) (hs := a8uq) (c := (a1q Tryz.f130)) (n := 12) (res := [.tmp 4]) (rs := .c (.i .i64)) (ks := []) (dir := []) envOk a3q rfl Tryz.func130 (by kernel_rfl) (by kernel_rfl) (by kernel_rfl) (by kernel_rfl) (a5q (by kernel_rfl) h)
def aaaq : a8q := ⟨[], []⟩
theorem a7Cq {a : Bool} {a1 a2 : Int} {a3 : LL} {a4 a5 : Int} {a6 : LL} {r : AV} {O : List (Nat × Ob)} (h : ∃ n n1 : Int, ∃ xs : LL, XC pg 133 [.dat (r3 a1 a2 a3)] [] (g3 n n1 0) [(0, .tr 30 3 xs)] ∧ ∃ n2 n3 : Int, ∃ xs1 : LL, XC pg 133 [.dat (r3 a4 a5 a6)] [] (g3 n2 n3 0) [(0, .tr 30 3 xs1)] ∧ (g7 a n n1 0 n2 n3 1) = r ∧ [(0, .tr 30 3 xs), (1, .tr 30 3 xs1)] = O) : XC pg 114 [(.dat [(.bool a), (.int .i64 a1), (.int .i64 a2), (.sl a3), (.int .i64 a4), (.int .i64 a5), (.sl a6)])] [] r O :=
 b1q (E := env) (hs := aaaq) (c := (a1q Tryz.f114)) (n := 16) (res := [.cell 2 85]) (rs := .s [.k .b, .k (.i .i64), .k (.i .i64), .o 30 3, .k (.i .i64), .k (.i .i64), .o 30 3]) (ks := []) (dir := []) envOk a3q rfl Tryz.func114 (by kernel_rfl) (by kernel_rfl) (by kernel_rfl) (by kernel_rfl) (a5q (by kernel_rfl) h)
def a7Eq : a8q := ⟨[], []⟩
theorem a6Nq {a a1 : Int} {a2 : LL} {r : AV} {O : List (Nat × Ob)} (h : ∃ xs : LL, XC pg 195 [L a2] [] (.one (.ol 0)) [(0, .tr 30 3 xs)] ∧ (g3 a a1 0) = r ∧ [(0, .tr 30 3 xs)] = O) : XC pg 133 [(.dat [(.int .i64 a), (.int .i64 a1), (.sl a2)])] [] r O :=
 b1q (E := env) (hs := a7Eq) (c := (a1q Tryz.f133)) (n := 15) (res := [.cell 2 30]) (rs := .s [.k (.i .i64), .k (.i .i64), .o 30 3]) (ks := []) (dir := []) envOk a3q rfl Tryz.func133 (by kernel_rfl) (by kernel_rfl) (by kernel_rfl) (by kernel_rfl) (a5q (by kernel_rfl) h)
def a9Sq : a8q := ⟨[], []⟩
theorem a7Tq {s : LL} {l : Bool} {l1 l2 : Int} {l3 : LL} {l4 l5 : Int} {l6 : LL} {r : AV} {O : List (Nat × Ob)} (h : ∃ b : Bool, XC pg 110 [L s, .dat (r3 l1 l2 l3)] [] (B b) [] ∧ ifB b
 (∃ b1 : Bool, XC pg 110 [L s, .dat (r3 l4 l5 l6)] [] (B b1) [] ∧ ifB b1
 (∃ b2 : Bool, XC pg 154 [.dat (r3 l1 l2 l3), .dat (r3 l4 l5 l6)] [] (B b2) [] ∧ (B (!b2)) = r ∧ [] = O)
 ((B (false)) = r ∧ [] = O))
 ((B (false)) = r ∧ [] = O)) : XC pg 106 [(L s), (.dat [(.bool l), (.int .i64 l1), (.int .i64 l2), (.sl l3), (.int .i64 l4), (.int .i64 l5), (.sl l6)])] [] r O :=
 b1q (E := env) (hs := a9Sq) (c := (a1q Tryz.f106)) (n := 23) (res := [.tmp 4]) (rs := .c .b) (ks := []) (dir := []) envOk a3q rfl Tryz.func106 (by kernel_rfl) (by kernel_rfl) (by kernel_rfl) (by kernel_rfl) (a5q (by kernel_rfl) h)
def a4zq : a8q := ⟨[], []⟩
theorem a3xq {a : Bool} {a1 a2 : Int} {a3 : LL} {a4 a5 : Int} {a6 : LL} {b : Bool} {b1 b2 : Int} {b3 : LL} {b4 b5 : Int} {b6 : LL} {r : AV} {O : List (Nat × Ob)} (h : ifB (decide (a ≠ b))
 ((B b) = r ∧ [] = O)
 (∃ b7 : Bool, XC pg 78 [.dat (r3 a1 a2 a3), .dat (r3 b1 b2 b3)] [] (B b7) [] ∧ ifB (!b7)
 (∃ b8 : Bool, XC pg 154 [.dat (r3 a1 a2 a3), .dat (r3 b1 b2 b3)] [] (B b8) [] ∧ (B b8) = r ∧ [] = O)
 (∃ b9 : Bool, XC pg 154 [.dat (r3 a4 a5 a6), .dat (r3 b4 b5 b6)] [] (B b9) [] ∧ (B b9) = r ∧ [] = O))) : XC pg 107 [(.dat [(.bool a), (.int .i64 a1), (.int .i64 a2), (.sl a3), (.int .i64 a4), (.int .i64 a5), (.sl a6)]), (.dat [(.bool b), (.int .i64 b1), (.int .i64 b2), (.sl b3), (.int .i64 b4), (.int .i64 b5), (.sl b6)])] [] r O :=
 b1q (E := env) (hs := a4zq) (c := (a1q Tryz.f107)) (n := 28) (res := [.tmp 4]) (rs := .c .b) (ks := []) (dir := []) envOk a3q rfl Tryz.func107 (by kernel_rfl) (by kernel_rfl) (by kernel_rfl) (by kernel_rfl) (a5q (by kernel_rfl) h)
def a8Uq : a8q := ⟨[], []⟩
theorem a7Uq {s u : LL} {t t1 : Int} {t2 : LL} {r : AV} {O : List (Nat × Ob)} (h : ∃ n n1 : Int, ∃ xs : LL, XC pg 142 [L u, .dat (r3 t t1 t2)] [] (.dat (r3 n n1 xs)) [] ∧ ∃ n2 n3 : Int, ∃ xs1 : LL, XC pg 141 [L s, .dat (r3 n n1 xs)] [] (.dat (r3 n2 n3 xs1)) [] ∧ (.dat (r3 n2 n3 xs1)) = r ∧ [] = O) : XC pg 79 [(L s), (L u), (.dat [(.int .i64 t), (.int .i64 t1), (.sl t2)])] [] r O :=
 b1q (E := env) (hs := a8Uq) (c := (a1q Tryz.f79)) (n := 12) (res := [.cell 6 30]) (rs := .d [(.i .i64), (.i .i64), .l]) (ks := []) (dir := []) envOk a3q rfl Tryz.func79 (by kernel_rfl) (by kernel_rfl) (by kernel_rfl) (by kernel_rfl) (a5q (by kernel_rfl) h)
def a6Wq : a8q := ⟨[], []⟩
theorem a5Bq {s : LL} {pos : Bool} {a a1 : Int} {a2 : LL} {b b1 : Int} {b2 : LL} {r : AV} {O : List (Nat × Ob)} (h : ∃ n n1 : Int, ∃ xs : LL, XC pg 141 [L s, .dat (r3 a a1 a2)] [] (.dat (r3 n n1 xs)) [] ∧ ∃ n2 n3 : Int, ∃ xs1 : LL, XC pg 141 [L s, .dat (r3 b b1 b2)] [] (.dat (r3 n2 n3 xs1)) [] ∧ ∃ b3 : Bool, XC pg 154 [.dat (r3 n n1 xs), .dat (r3 n2 n3 xs1)] [] (B b3) [] ∧ ifB b3
 ((.dat (r7 pos n2 n3 xs1 n n1 xs)) = r ∧ [] = O)
 ((.dat (r7 pos n n1 xs n2 n3 xs1)) = r ∧ [] = O)) : XC pg 92 [(L s), (B pos), (.dat [(.int .i64 a), (.int .i64 a1), (.sl a2)]), (.dat [(.int .i64 b), (.int .i64 b1), (.sl b2)])] [] r O :=
 b1q (E := env) (hs := a6Wq) (c := (a1q Tryz.f92)) (n := 28) (res := [.cell 8 85]) (rs := .d [.b, (.i .i64), (.i .i64), .l, (.i .i64), (.i .i64), .l]) (ks := []) (dir := []) envOk a3q rfl Tryz.func92 (by kernel_rfl) (by kernel_rfl) (by kernel_rfl) (by kernel_rfl) (a5q (by kernel_rfl) h)
def L1q : a8q := ⟨[(4, ⟨[2, 3, 5], [], [], [], [], [], []⟩)], []⟩
def v0q (r : AV) (O : List (Nat × Ob)) (i a a1 : Int) (a2 : LL) (b b1 : Int) (b2 : LL) : Prop := CLk 46 env L1q (a1q Tryz.f78) [1, 1, 0, 1, 0, 0] (c7q env [.tmp 4] (.c .b) [] [] r O) ⟨[(2, (.one (.op 1900 0))), (3, (.one (.op 1901 0))), (5, (Z i))], [(1900, (.var [(.d (.int .i64 a)), (.d (.int .i64 a1)), (.d (.sl a2))])), (1901, (.var [(.d (.int .i64 b)), (.d (.int .i64 b1)), (.d (.sl b2))]))]⟩
theorem M5q {r : AV} {O : List (Nat × Ob)} {i a a1 : Int} {a2 : LL} {b b1 : Int} {b2 : LL} (h : ifB (decide (i < (↑(a2.length) : Int)))
 (∃ m : Nat, i = (↑m : Int) ∧ ∃ n n1 : Int, ∃ xs : LL, (a2[m]?) = some (r3 n n1 xs) ∧ ∃ m1 : Nat, i = (↑m1 : Int) ∧ ∃ n2 n3 : Int, ∃ xs1 : LL, (b2[m1]?) = some (r3 n2 n3 xs1) ∧ ∃ b4 : Bool, XC pg 78 [.dat (r3 n n1 xs), .dat (r3 n2 n3 xs1)] [] (B b4) [] ∧ ifB (!b4)
 ((B (false)) = r ∧ [] = O)
 (v0q r O (IntKind.wrap .i64 (i + (1 : Int))) a a1 a2 b b1 b2))
 ((B (true)) = r ∧ [] = O)) : v0q r O i a a1 a2 b b1 b2 := by
 unfold v0q CLk
 refine c2q (E := env) (hs := L1q) envOk a3q ?_
 exact a5q (by kernel_rfl) h
theorem a4wq {a a1 : Int} {a2 : LL} {b b1 : Int} {b2 : LL} {r : AV} {O : List (Nat × Ob)} (h : ifB (decide (a ≠ b))
 ((B (false)) = r ∧ [] = O)
 (ifB (decide (a1 ≠ b1))
 ((B (false)) = r ∧ [] = O)
 (ifB (decide ((↑(a2.length) : Int) ≠ (↑(b2.length) : Int)))
 ((B (false)) = r ∧ [] = O)
 (v0q r O (0 : Int) a a1 a2 b b1 b2)))) : XC pg 78 [(.dat [(.int .i64 a), (.int .i64 a1), (.sl a2)]), (.dat [(.int .i64 b), (.int .i64 b1), (.sl b2)])] [] r O :=
 b1q (E := env) (hs := L1q) (c := (a1q Tryz.f78)) (n := 46) (res := [.tmp 4]) (rs := .c .b) (ks := []) (dir := []) envOk a3q rfl Tryz.func78 (by kernel_rfl) (by kernel_rfl) (by kernel_rfl) (by kernel_rfl) (a5q (by kernel_rfl) h)
def D2q : a8q := ⟨[(3, ⟨[0, 1, 5, 6, 7, 8], [], [], [], [], [7], []⟩)], []⟩
def p5q (r : AV) (O : List (Nat × Ob)) (s u : LL) (i : Int) (c list : LL) : Prop := CLk 31 env D2q (a1q Tryz.f132) [1, 1, 0, 1, 0, 0] (c7q env [.cell 6 39] (.d [.l]) [] [] r O) ⟨[(0, (L s)), (1, (L u)), (5, (.one (.op 1900 0))), (6, (.one (.op 1901 0))), (7, (.one (.ol 1902))), (8, (Z i))], [(1900, (.var [(.d (.sl c))])), (1901, (.var [.e0])), (1902, (.lst 85 7 list))]⟩
theorem F6q {r : AV} {O : List (Nat × Ob)} {s u : LL} {i : Int} {c list : LL} (h : ifB (decide (i < (↑(c.length) : Int)))
 (∃ m : Nat, i = (↑m : Int) ∧ ∃ b : Bool, ∃ n n1 : Int, ∃ xs : LL, ∃ n2 n3 : Int, ∃ xs1 : LL, (c[m]?) = some (r7 b n n1 xs n2 n3 xs1) ∧ ∃ b1 : Bool, ∃ n4 n5 : Int, ∃ xs2 : LL, ∃ n6 n7 : Int, ∃ xs3 : LL, XC pg 66 [L s, L u, .dat (r7 b n n1 xs n2 n3 xs1)] [] (.dat (r7 b1 n4 n5 xs2 n6 n7 xs3)) [] ∧ Do ((list.length + List.length [(r7 b1 n4 n5 xs2 n6 n7 xs3)]) * 88 ≤ 140737488355328) ∧ p5q r O s u (IntKind.wrap .i64 (i + (1 : Int))) c (list ++ [(r7 b1 n4 n5 xs2 n6 n7 xs3)]))
 (∃ xs4 : LL, XC pg 194 [L s, L list] [] (.dat [.sl xs4]) [] ∧ (.dat [.sl xs4]) = r ∧ [] = O)) : p5q r O s u i c list := by
 unfold p5q CLk
 refine c2q (E := env) (hs := D2q) envOk a3q ?_
 exact a5q (by kernel_rfl) h
theorem a2fq {s u c : LL} {r : AV} {O : List (Nat × Ob)} (h : p5q r O s u (0 : Int) c []) : XC pg 132 [(L s), (L u), (.dat [(.sl c)])] [] r O :=
 b1q (E := env) (hs := D2q) (c := (a1q Tryz.f132)) (n := 31) (res := [.cell 6 39]) (rs := .d [.l]) (ks := []) (dir := []) envOk a3q rfl Tryz.func132 (by kernel_rfl) (by kernel_rfl) (by kernel_rfl) (by kernel_rfl) (a5q (by kernel_rfl) h)
def a0Hq : a8q := ⟨[(4, ⟨[0, 3, 4, 5, 6, 7], [], [], [], [], [6], []⟩)], []⟩
def C8q (r : AV) (O : List (Nat × Ob)) (s vars : LL) (i : Int) (c list : LL) : Prop := CLk 41 env a0Hq (a1q Tryz.f131) [1, 1, 1, 0, 1, 0, 0] (c7q env [.cell 4 39] (.d [.l]) [] [] r O) ⟨[(0, (L s)), (3, (.one (.op 1900 0))), (4, (.one (.op 1901 0))), (5, (L vars)), (6, (.one (.ol 1902))), (7, (Z i))], [(1900, (.var [(.d (.sl c))])), (1901, (.var [.e0])), (1902, (.lst 85 7 list))]⟩
theorem a05q {r : AV} {O : List (Nat × Ob)} {s vars : LL} {i : Int} {c list : LL} (h : ifB (decide (i < (↑(c.length) : Int)))
 (∃ m : Nat, i = (↑m : Int) ∧ ∃ b : Bool, ∃ n n1 : Int, ∃ xs : LL, ∃ n2 n3 : Int, ∃ xs1 : LL, (c[m]?) = some (r7 b n n1 xs n2 n3 xs1) ∧ ∃ n4 n5 : Int, ∃ xs2 : LL, XC pg 193 [.dat (r3 n n1 xs), L vars] [] (.dat (r3 n4 n5 xs2)) [] ∧ ∃ n6 n7 : Int, ∃ xs3 : LL, XC pg 193 [.dat (r3 n2 n3 xs1), L vars] [] (.dat (r3 n6 n7 xs3)) [] ∧ Do ((list.length + List.length [(r7 b n4 n5 xs2 n6 n7 xs3)]) * 88 ≤ 140737488355328) ∧ C8q r O s vars (IntKind.wrap .i64 (i + (1 : Int))) c (list ++ [(r7 b n4 n5 xs2 n6 n7 xs3)]))
 (∃ xs4 : LL, XC pg 194 [L s, L list] [] (.dat [.sl xs4]) [] ∧ (.dat [.sl xs4]) = r ∧ [] = O)) : C8q r O s vars i c list := by
 unfold C8q CLk
 refine c2q (E := env) (hs := a0Hq) envOk a3q ?_
 exact a5q (by kernel_rfl) h
theorem a8Rq {s c : LL} {r : AV} {O : List (Nat × Ob)} (h : ∃ xs : LL, XC pg 149 [.dat [.sl c]] [] (L xs) [] ∧ C8q r O s xs (0 : Int) c []) : XC pg 131 [(L s), (.dat [(.sl c)])] [] r O :=
 b1q (E := env) (hs := a0Hq) (c := (a1q Tryz.f131)) (n := 41) (res := [.cell 4 39]) (rs := .d [.l]) (ks := []) (dir := []) envOk a3q rfl Tryz.func131 (by kernel_rfl) (by kernel_rfl) (by kernel_rfl) (by kernel_rfl) (a5q (by kernel_rfl) h)
def a99q : a8q := ⟨[], []⟩
theorem a7Qq {s : LL} {l : Bool} {l1 l2 : Int} {l3 : LL} {l4 l5 : Int} {l6 : LL} {r : AV} {O : List (Nat × Ob)} (h : ∃ b : Bool, XC pg 120 [L s, .dat (r3 l1 l2 l3)] [] (B b) [] ∧ ifB b
 (∃ b1 : Bool, XC pg 120 [L s, .dat (r3 l4 l5 l6)] [] (B b1) [] ∧ ifB b1
 (∃ b2 : Bool, XC pg 171 [.dat (r3 l1 l2 l3), .dat (r3 l4 l5 l6)] [] (B b2) [] ∧ (B (!b2)) = r ∧ [] = O)
 ((B (false)) = r ∧ [] = O))
 ((B (false)) = r ∧ [] = O)) : XC pg 115 [(L s), (.dat [(.bool l), (.int .i64 l1), (.int .i64 l2), (.sl l3), (.int .i64 l4), (.int .i64 l5), (.sl l6)])] [] r O :=
 b1q (E := env) (hs := a99q) (c := (a1q Tryz.f115)) (n := 23) (res := [.tmp 4]) (rs := .c .b) (ks := []) (dir := []) envOk a3q rfl Tryz.func115 (by kernel_rfl) (by kernel_rfl) (by kernel_rfl) (by kernel_rfl) (a5q (by kernel_rfl) h)
def a49q : a8q := ⟨[], []⟩
theorem a3zq {a : Bool} {a1 a2 : Int} {a3 : LL} {a4 a5 : Int} {a6 : LL} {b : Bool} {b1 b2 : Int} {b3 : LL} {b4 b5 : Int} {b6 : LL} {r : AV} {O : List (Nat × Ob)} (h : ∃ n : Int, XC pg 135 [.dat (r7 a a1 a2 a3 a4 a5 a6), .dat (r7 b b1 b2 b3 b4 b5 b6)] [] (Z n) [] ∧ (B (decide (n < (0 : Int)))) = r ∧ [] = O) : XC pg 116 [(.dat [(.bool a), (.int .i64 a1), (.int .i64 a2), (.sl a3), (.int .i64 a4), (.int .i64 a5), (.sl a6)]), (.dat [(.bool b), (.int .i64 b1), (.int .i64 b2), (.sl b3), (.int .i64 b4), (.int .i64 b5), (.sl b6)])] [] r O :=
 b1q (E := env) (hs := a49q) (c := (a1q Tryz.f116)) (n := 9) (res := [.tmp 4]) (rs := .c .b) (ks := []) (dir := []) envOk a3q rfl Tryz.func116 (by kernel_rfl) (by kernel_rfl) (by kernel_rfl) (by kernel_rfl) (a5q (by kernel_rfl) h)
def aaLq : a8q := ⟨[], []⟩
theorem a8Yq {n low high : Int} {r : AV} {O : List (Nat × Ob)} (h : ifB (decide (low ≤ n))
 ((B (decide (n ≤ high))) = r ∧ [] = O)
 ((B (false)) = r ∧ [] = O)) : XC pg 134 [(Z n), (Z low), (Z high)] [] r O :=
 b1q (E := env) (hs := aaLq) (c := (a1q Tryz.f134)) (n := 15) (res := [.tmp 6]) (rs := .c .b) (ks := []) (dir := []) envOk a3q rfl Tryz.func134 (by kernel_rfl) (by kernel_rfl) (by kernel_rfl) (by kernel_rfl) (a5q (by kernel_rfl) h)
def a8Pq : a8q := ⟨[], []⟩
theorem a8cq {s u : LL} {t t1 : Int} {t2 : LL} {r : AV} {O : List (Nat × Ob)} (h : ∃ n n1 : Int, ∃ xs : LL, XC pg 145 [L u, .dat (r3 t t1 t2)] [] (g3 n n1 0) [(0, .tr 30 3 xs)] ∧ ∃ n2 n3 : Int, ∃ xs1 : LL, XC pg 144 [L s, .dat (r3 n n1 xs)] [] (g3 n2 n3 0) [(0, .tr 30 3 xs1)] ∧ (g3 n2 n3 0) = r ∧ [(0, .tr 30 3 xs1)] = O) : XC pg 81 [(L s), (L u), (.dat [(.int .i64 t), (.int .i64 t1), (.sl t2)])] [] r O :=
 b1q (E := env) (hs := a8Pq) (c := (a1q Tryz.f81)) (n := 12) (res := [.cell 6 30]) (rs := .s [.k (.i .i64), .k (.i .i64), .o 30 3]) (ks := []) (dir := []) envOk a3q rfl Tryz.func81 (by kernel_rfl) (by kernel_rfl) (by kernel_rfl) (by kernel_rfl) (a5q (by kernel_rfl) h)
def a6Zq : a8q := ⟨[], []⟩
theorem a5hq {s : LL} {pos : Bool} {a a1 : Int} {a2 : LL} {b b1 : Int} {b2 : LL} {r : AV} {O : List (Nat × Ob)} (h : ∃ n n1 : Int, ∃ xs : LL, XC pg 144 [L s, .dat (r3 a a1 a2)] [] (g3 n n1 0) [(0, .tr 30 3 xs)] ∧ ∃ n2 n3 : Int, ∃ xs1 : LL, XC pg 144 [L s, .dat (r3 b b1 b2)] [] (g3 n2 n3 0) [(0, .tr 30 3 xs1)] ∧ ∃ b3 : Bool, XC pg 171 [.dat (r3 n n1 xs), .dat (r3 n2 n3 xs1)] [] (B b3) [] ∧ ifB b3
 ((g7 pos n2 n3 0 n n1 1) = r ∧ [(0, .tr 30 3 xs1), (1, .tr 30 3 xs)] = O)
 ((g7 pos n n1 0 n2 n3 1) = r ∧ [(0, .tr 30 3 xs), (1, .tr 30 3 xs1)] = O)) : XC pg 136 [(L s), (B pos), (.dat [(.int .i64 a), (.int .i64 a1), (.sl a2)]), (.dat [(.int .i64 b), (.int .i64 b1), (.sl b2)])] [] r O :=
 b1q (E := env) (hs := a6Zq) (c := (a1q Tryz.f136)) (n := 26) (res := [.cell 8 85]) (rs := .s [.k .b, .k (.i .i64), .k (.i .i64), .o 30 3, .k (.i .i64), .k (.i .i64), .o 30 3]) (ks := []) (dir := []) envOk a3q rfl Tryz.func136 (by kernel_rfl) (by kernel_rfl) (by kernel_rfl) (by kernel_rfl) (a5q (by kernel_rfl) h)
def a2Dq : a8q := ⟨[], []⟩
theorem a2gq {s : LL} {r : AV} {O : List (Nat × Ob)} (h : ((List.flatten s = []) → ((.one (.ol 0)) = r ∧ [(0, .lst 85 7 [])] = O)) ∧ Do (∀ (y : List Da), y ∈ s → y.length = Prod.fst ((7 : Nat), (88 : Nat), [At.d (Da.bool false), At.d (Da.int IntKind.i64 (0 : Int)), At.d (Da.int IntKind.i64 (0 : Int)), At.e0, At.d (Da.int IntKind.i64 (0 : Int)), At.d (Da.int IntKind.i64 (0 : Int)), At.e0])) ∧ Do ((List.length ([] : LL) + s.length) * 88 ≤ 140737488355328) ∧ (.one (.ol 0)) = r ∧ [(0, .lst 85 7 ([] ++ s))] = O) : XC pg 140 [(L s)] [] r O :=
 b1q (E := env) (hs := a2Dq) (c := (a1q Tryz.f140)) (n := 8) (res := [.tmp 2]) (rs := .b 85 7) (ks := []) (dir := []) envOk a3q rfl Tryz.func140 (by kernel_rfl) (by kernel_rfl) (by kernel_rfl) (by kernel_rfl) (a5q (by kernel_rfl) h)
def a2eq : a8q := ⟨[], []⟩
theorem a1tq {i j : Int} {o2000 : LL} {r : AV} {O : List (Nat × Ob)} (h : (∀ (c : Nat), (o2000.length ≤ c) → ((c ≤ maxLen) → (∃ n : Nat, i = (↑n : Int) ∧ ∃ n1 : Nat, j = (↑n1 : Int) ∧ ∃ n2 : Nat, (↑(o2000.length) : Int) = (↑n2 : Int) ∧ Do (n ≤ n1 ∧ n1 ≤ n2 ∧ n2 ≤ o2000.length) ∧ ifB (decide (i = j))
 (Do (o2000.length ≤ o2000.length) ∧ (.one (.ol 0)) = r ∧ [(0, .lst 85 7 (List.take (o2000.length) o2000))] = O)
 (∃ n3 : Nat, i = (↑n3 : Int) ∧ Do ((0 : Nat) ≤ n3 ∧ (n3 ≤ o2000.length ∨ (0 : Nat) + n3 ≤ c)) ∧ ∃ n4 : Nat, j = (↑n4 : Int) ∧ Do (n4 ≤ o2000.length ∧ (o2000.length ≤ o2000.length ∨ (0 : Nat) + o2000.length ≤ c)) ∧ Do ((0 : Nat) + n4 + (o2000.length - n4) ≤ o2000.length) ∧ Do ((0 : Nat) + (0 : Nat) + (n3 - (0 : Nat)) ≤ o2000.length ∧ ((0 : Nat) + (0 : Nat) + (n3 - (0 : Nat)) + List.length (List.take (o2000.length - n4) (List.drop ((0 : Nat) + n4) o2000))) * 88 ≤ 140737488355328) ∧ ifB (decide ((0 : Nat) + (0 : Nat) + (n3 - (0 : Nat)) + List.length (List.take (o2000.length - n4) (List.drop ((0 : Nat) + n4) o2000)) ≤ c))
 (∃ n5 : Nat, (↑(n3 - (0 : Nat) + List.length (List.take (o2000.length - n4) (List.drop ((0 : Nat) + n4) o2000))) : Int) = (↑n5 : Int) ∧ ∃ n6 : Nat, (↑(o2000.length) : Int) = (↑n6 : Int) ∧ Do (n5 ≤ n6 ∧ (n6 ≤ n3 - (0 : Nat) + List.length (List.take (o2000.length - n4) (List.drop ((0 : Nat) + n4) o2000)) ∨ (0 : Nat) + (0 : Nat) + n6 ≤ c)) ∧ Do ((0 : Nat) + (0 : Nat) + n5 + (n6 - n5) ≤ List.length (List.take ((0 : Nat) + (0 : Nat) + (n3 - (0 : Nat))) o2000 ++ List.take (o2000.length - n4) (List.drop ((0 : Nat) + n4) o2000) ++ List.drop ((0 : Nat) + (0 : Nat) + (n3 - (0 : Nat)) + List.length (List.take (o2000.length - n4) (List.drop ((0 : Nat) + n4) o2000))) o2000)) ∧ Do (n3 - (0 : Nat) + List.length (List.take (o2000.length - n4) (List.drop ((0 : Nat) + n4) o2000)) ≤ List.length (List.take ((0 : Nat) + (0 : Nat) + n5) (List.take ((0 : Nat) + (0 : Nat) + (n3 - (0 : Nat))) o2000 ++ List.take (o2000.length - n4) (List.drop ((0 : Nat) + n4) o2000) ++ List.drop ((0 : Nat) + (0 : Nat) + (n3 - (0 : Nat)) + List.length (List.take (o2000.length - n4) (List.drop ((0 : Nat) + n4) o2000))) o2000) ++ List.replicate (n6 - n5) (r7 false (0 : Int) (0 : Int) [] (0 : Int) (0 : Int) []) ++ List.drop ((0 : Nat) + (0 : Nat) + n5 + (n6 - n5)) (List.take ((0 : Nat) + (0 : Nat) + (n3 - (0 : Nat))) o2000 ++ List.take (o2000.length - n4) (List.drop ((0 : Nat) + n4) o2000) ++ List.drop ((0 : Nat) + (0 : Nat) + (n3 - (0 : Nat)) + List.length (List.take (o2000.length - n4) (List.drop ((0 : Nat) + n4) o2000))) o2000))) ∧ (.one (.ol 0)) = r ∧ [(0, .lst 85 7 (List.take (n3 - (0 : Nat) + List.length (List.take (o2000.length - n4) (List.drop ((0 : Nat) + n4) o2000))) (List.take ((0 : Nat) + (0 : Nat) + n5) (List.take ((0 : Nat) + (0 : Nat) + (n3 - (0 : Nat))) o2000 ++ List.take (o2000.length - n4) (List.drop ((0 : Nat) + n4) o2000) ++ List.drop ((0 : Nat) + (0 : Nat) + (n3 - (0 : Nat)) + List.length (List.take (o2000.length - n4) (List.drop ((0 : Nat) + n4) o2000))) o2000) ++ List.replicate (n6 - n5) (r7 false (0 : Int) (0 : Int) [] (0 : Int) (0 : Int) []) ++ List.drop ((0 : Nat) + (0 : Nat) + n5 + (n6 - n5)) (List.take ((0 : Nat) + (0 : Nat) + (n3 - (0 : Nat))) o2000 ++ List.take (o2000.length - n4) (List.drop ((0 : Nat) + n4) o2000) ++ List.drop ((0 : Nat) + (0 : Nat) + (n3 - (0 : Nat)) + List.length (List.take (o2000.length - n4) (List.drop ((0 : Nat) + n4) o2000))) o2000))))] = O)
 (∃ n7 : Nat, (↑(List.length (List.take (n3 - (0 : Nat)) (List.drop ((0 : Nat) + (0 : Nat)) o2000) ++ List.take (o2000.length - n4) (List.drop ((0 : Nat) + n4) o2000))) : Int) = (↑n7 : Int) ∧ ∃ n8 : Nat, (↑(o2000.length) : Int) = (↑n8 : Int) ∧ Do (n7 ≤ n8 ∧ n8 ≤ List.length (List.take (n3 - (0 : Nat)) (List.drop ((0 : Nat) + (0 : Nat)) o2000) ++ List.take (o2000.length - n4) (List.drop ((0 : Nat) + n4) o2000))) ∧ Do ((0 : Nat) + n7 + (n8 - n7) ≤ List.length (List.take (n3 - (0 : Nat)) (List.drop ((0 : Nat) + (0 : Nat)) o2000) ++ List.take (o2000.length - n4) (List.drop ((0 : Nat) + n4) o2000))) ∧ (.one (.ol 0)) = r ∧ [(0, .lst 85 7 (List.take ((0 : Nat) + n7) (List.take (n3 - (0 : Nat)) (List.drop ((0 : Nat) + (0 : Nat)) o2000) ++ List.take (o2000.length - n4) (List.drop ((0 : Nat) + n4) o2000)) ++ List.replicate (n8 - n7) (r7 false (0 : Int) (0 : Int) [] (0 : Int) (0 : Int) []) ++ List.drop ((0 : Nat) + n7 + (n8 - n7)) (List.take (n3 - (0 : Nat)) (List.drop ((0 : Nat) + (0 : Nat)) o2000) ++ List.take (o2000.length - n4) (List.drop ((0 : Nat) + n4) o2000))))] = O)))))) : XC pg 139 [(.one (.ol 2000)), (Z i), (Z j)] [(2000, (.lst 85 7 o2000))] r O :=
 a8Bq (E := c6q) (hs := a2eq) (c := (a1q Tryz.f139)) (n := 33) (res := [.tmp 6]) (rs := .b 85 7) (ks := [(2000, (false))]) (dir := []) f9q a3q [(2000, 1000)] [1000] (by kernel_rfl) rfl Tryz.func139 (by kernel_rfl) (by kernel_rfl) (by kernel_rfl) (by kernel_rfl) (a5q (by kernel_rfl) h)
def D1q : a8q := ⟨[(3, ⟨[0, 1, 6, 7, 12, 13, 14], [], [], [], [], [], []⟩)], []⟩
def p7q (r : AV) (O : List (Nat × Ob)) (s u s12 : LL) (s13 s14 : Int) (list : LL) : Prop := CLk 29 env D1q (a1q Tryz.f138) [1, 1, 0, 1, 0, 0] (c7q env [.cell 6 39] (.s [.o 85 7]) [] [] r O) ⟨[(0, (L s)), (1, (L u)), (6, (.one (.op 1900 0))), (7, (.one (.ol 1901))), (12, (L s12)), (13, (Z s13)), (14, (Z s14))], [(1900, (.var [.e0])), (1901, (.tr 85 7 list))]⟩
theorem F1q {r : AV} {O : List (Nat × Ob)} {s u s12 : LL} {s13 s14 : Int} {list : LL} (h : ifB (decide (s14 < s13))
 (∃ m : Nat, s14 = (↑m : Int) ∧ ∃ b : Bool, ∃ n n1 : Int, ∃ xs : LL, ∃ n2 n3 : Int, ∃ xs1 : LL, (s12[m]?) = some (r7 b n n1 xs n2 n3 xs1) ∧ ∃ b1 : Bool, ∃ n4 n5 : Int, ∃ xs2 : LL, ∃ n6 n7 : Int, ∃ xs3 : LL, XC pg 72 [L s, L u, .dat (r7 b n n1 xs n2 n3 xs1)] [] (g7 b1 n4 n5 0 n6 n7 1) [(0, .tr 30 3 xs2), (1, .tr 30 3 xs3)] ∧ Do ((list.length + List.length [(r7 b1 n4 n5 xs2 n6 n7 xs3)]) * 88 ≤ 140737488355328) ∧ p7q r O s u s12 s13 (IntKind.wrap .i64 (s14 + (1 : Int))) (list ++ [(r7 b1 n4 n5 xs2 n6 n7 xs3)]))
 (∃ xs4 : LL, XC pg 196 [L s, L list] [] (.agg [.ol 0]) [(0, .tr 85 7 xs4)] ∧ (.agg [.ol 0]) = r ∧ [(0, .tr 85 7 xs4)] = O)) : p7q r O s u s12 s13 s14 list := by
 unfold p7q CLk
 refine c2q (E := env) (hs := D1q) envOk a3q ?_
 exact a5q (by kernel_rfl) h
theorem a2lq {s u c : LL} {r : AV} {O : List (Nat × Ob)} (h : p7q r O s u c (↑(c.length) : Int) (0 : Int) []) : XC pg 138 [(L s), (L u), (.dat [(.sl c)])] [] r O :=
 b1q (E := env) (hs := D1q) (c := (a1q Tryz.f138)) (n := 29) (res := [.cell 6 39]) (rs := .s [.o 85 7]) (ks := []) (dir := []) envOk a3q rfl Tryz.func138 (by kernel_rfl) (by kernel_rfl) (by kernel_rfl) (by kernel_rfl) (a5q (by kernel_rfl) h)
def aaIq : a8q := ⟨[], []⟩
theorem a9xq {s c : LL} {r : AV} {O : List (Nat × Ob)} (h : ∃ xs : LL, XC pg 156 [.dat [.sl c]] [] (.one (.ol 0)) [(0, .tr 3 1 xs)] ∧ ∃ xs1 xs2 : LL, XC pg 158 [.dat [.sl c], .one (.clo 197 [(2000, 0)])] [(2000, .var [.ol 2001]), (2001, .tr 3 1 xs)] (.agg [.ol 0]) [(2000, .var [.ol 1]), (0, .tr 85 7 xs1), (1, .tr 3 1 xs2)] ∧ ∃ xs3 : LL, XC pg 196 [L s, L xs1] [] (.agg [.ol 0]) [(0, .tr 85 7 xs3)] ∧ (.agg [.ol 0]) = r ∧ [(0, .tr 85 7 xs3)] = O) : XC pg 137 [(L s), (.dat [(.sl c)])] [] r O :=
 b1q (E := env) (hs := aaIq) (c := (a1q Tryz.f137)) (n := 14) (res := [.cell 4 39]) (rs := .s [.o 85 7]) (ks := []) (dir := []) envOk a3q rfl Tryz.func137 (by kernel_rfl) (by kernel_rfl) (by kernel_rfl) (by kernel_rfl) (a5q (by kernel_rfl) h)
def aafq : a8q := ⟨[], []⟩
theorem a7Lq {a : Bool} {a1 a2 : Int} {a3 : LL} {a4 a5 : Int} {a6 : LL} {b : Bool} {b1 b2 : Int} {b3 : LL} {b4 b5 : Int} {b6 : LL} {r : AV} {O : List (Nat × Ob)} (h : ifB (decide (a ≠ b))
 ((B (false)) = r ∧ [] = O)
 (∃ b7 : Bool, XC pg 54 [.dat (r3 a1 a2 a3), .dat (r3 b1 b2 b3)] [] (B b7) [] ∧ ifB (!b7)
 ((B (false)) = r ∧ [] = O)
 (∃ b8 : Bool, XC pg 54 [.dat (r3 a4 a5 a6), .dat (r3 b4 b5 b6)] [] (B b8) [] ∧ ifB (!b8)
 ((B (false)) = r ∧ [] = O)
 ((B (true)) = r ∧ [] = O)))) : XC pg 126 [(.dat [(.bool a), (.int .i64 a1), (.int .i64 a2), (.sl a3), (.int .i64 a4), (.int .i64 a5), (.sl a6)]), (.dat [(.bool b), (.int .i64 b1), (.int .i64 b2), (.sl b3), (.int .i64 b4), (.int .i64 b5), (.sl b6)])] [] r O :=
 b1q (E := env) (hs := aafq) (c := (a1q Tryz.f126)) (n := 22) (res := [.tmp 4]) (rs := .c .b) (ks := []) (dir := []) envOk a3q rfl Tryz.func126 (by kernel_rfl) (by kernel_rfl) (by kernel_rfl) (by kernel_rfl) (a5q (by kernel_rfl) h)
def a8fq : a8q := ⟨[], []⟩
theorem a6oq {a a1 : Int} {a2 : LL} {b b1 : Int} {b2 : LL} {r : AV} {O : List (Nat × Ob)} (h : ifB (decide (a ≠ b))
 ((B (false)) = r ∧ [] = O)
 (ifB (decide (a1 ≠ b1))
 ((B (false)) = r ∧ [] = O)
 (∃ b3 : Bool, XC pg 125 [L a2, L b2] [] (B b3) [] ∧ ifB (!b3)
 ((B (false)) = r ∧ [] = O)
 ((B (true)) = r ∧ [] = O)))) : XC pg 54 [(.dat [(.int .i64 a), (.int .i64 a1), (.sl a2)]), (.dat [(.int .i64 b), (.int .i64 b1), (.sl b2)])] [] r O :=
 b1q (E := env) (hs := a8fq) (c := (a1q Tryz.f54)) (n := 21) (res := [.tmp 4]) (rs := .c .b) (ks := []) (dir := []) envOk a3q rfl Tryz.func54 (by kernel_rfl) (by kernel_rfl) (by kernel_rfl) (by kernel_rfl) (a5q (by kernel_rfl) h)
def G5q : a8q := ⟨[(2, ⟨[0, 1, 5], [], [], [], [], [], []⟩)], []⟩
def s5q (r : AV) (O : List (Nat × Ob)) (a : LL) (k i : Int) : Prop := CLk 40 env G5q (a1q Tryz.f127) [1, 0, 1, 0, 0] (c7q env [.tmp 4] (.c (.i .i64)) [] [] r O) ⟨[(0, (L a)), (1, (Z k)), (5, (Z i))], []⟩
theorem K8q {r : AV} {O : List (Nat × Ob)} {a : LL} {k i : Int} (h : ifB (decide (i < (↑(a.length) : Int)))
 (∃ m : Nat, i = (↑m : Int) ∧ ∃ n n1 : Int, ∃ xs : LL, (a[m]?) = some (r3 n n1 xs) ∧ ifB (decide (n ≠ k))
 ((Z (-1 : Int)) = r ∧ [] = O)
 (∃ m1 : Nat, i = (↑m1 : Int) ∧ ∃ n2 n3 : Int, ∃ xs1 : LL, (a[m1]?) = some (r3 n2 n3 xs1) ∧ ifB (decide (n3 ≠ IntKind.wrap .i64 (k + (1 : Int))))
 ((Z (-1 : Int)) = r ∧ [] = O)
 (∃ m2 : Nat, i = (↑m2 : Int) ∧ ∃ n4 n5 : Int, ∃ xs2 : LL, (a[m2]?) = some (r3 n4 n5 xs2) ∧ ∃ n6 : Int, XC pg 127 [L xs2, Z (IntKind.wrap .i64 (IntKind.wrap .i64 (k + (1 : Int)) + (1 : Int)))] [] (Z n6) [] ∧ ifB (decide (n6 < (0 : Int)))
 ((Z (-1 : Int)) = r ∧ [] = O)
 (s5q r O a n6 (IntKind.wrap .i64 (i + (1 : Int)))))))
 ((Z k) = r ∧ [] = O)) : s5q r O a k i := by
 unfold s5q CLk
 refine c2q (E := env) (hs := G5q) envOk a3q ?_
 exact a5q (by kernel_rfl) h
theorem a3Fq {a : LL} {k : Int} {r : AV} {O : List (Nat × Ob)} (h : s5q r O a k (0 : Int)) : XC pg 127 [(L a), (Z k)] [] r O :=
 b1q (E := env) (hs := G5q) (c := (a1q Tryz.f127)) (n := 40) (res := [.tmp 4]) (rs := .c (.i .i64)) (ks := []) (dir := []) envOk a3q rfl Tryz.func127 (by kernel_rfl) (by kernel_rfl) (by kernel_rfl) (by kernel_rfl) (a5q (by kernel_rfl) h)
def N5q : a8q := ⟨[(5, ⟨[0, 1, 5], [], [], [], [], [], []⟩)], []⟩
def v8q (r : AV) (O : List (Nat × Ob)) (a : LL) (left i : Int) : Prop := CLk 27 env N5q (a1q Tryz.f192) [1, 1, 1, 0, 1, 0, 0] (c7q env [.tmp 4] (.c (.i .i64)) [] [] r O) ⟨[(0, (L a)), (1, (Z left)), (5, (Z i))], []⟩
theorem Q3q {r : AV} {O : List (Nat × Ob)} {a : LL} {left i : Int} (h : ifB (decide (i < (↑(a.length) : Int)))
 (∃ m : Nat, i = (↑m : Int) ∧ ∃ n n1 : Int, ∃ xs : LL, (a[m]?) = some (r3 n n1 xs) ∧ ∃ n2 : Int, XC pg 130 [.dat (r3 n n1 xs), Z left] [] (Z n2) [] ∧ ifB (decide (n2 < (0 : Int)))
 ((Z (-1 : Int)) = r ∧ [] = O)
 (v8q r O a n2 (IntKind.wrap .i64 (i + (1 : Int)))))
 ((Z left) = r ∧ [] = O)) : v8q r O a left i := by
 unfold v8q CLk
 refine c2q (E := env) (hs := N5q) envOk a3q ?_
 exact a5q (by kernel_rfl) h
theorem a5Iq {a : LL} {left : Int} {r : AV} {O : List (Nat × Ob)} (h : ifB (decide (IntKind.wrap .i64 (left - (↑(a.length) : Int)) < (0 : Int)))
 ((Z (-1 : Int)) = r ∧ [] = O)
 (v8q r O a (IntKind.wrap .i64 (left - (↑(a.length) : Int))) (0 : Int))) : XC pg 192 [(L a), (Z left)] [] r O :=
 b1q (E := env) (hs := N5q) (c := (a1q Tryz.f192)) (n := 27) (res := [.tmp 4]) (rs := .c (.i .i64)) (ks := []) (dir := []) envOk a3q rfl Tryz.func192 (by kernel_rfl) (by kernel_rfl) (by kernel_rfl) (by kernel_rfl) (a5q (by kernel_rfl) h)
def N3q : a8q := ⟨[(3, ⟨[0, 3, 4], [], [], [], [], [], []⟩)], []⟩
def w5q (r : AV) (O : List (Nat × Ob)) (a : LL) (i : Int) (out : LL) : Prop := CLk 23 env N3q (a1q Tryz.f195) [1, 1, 0, 1, 0, 0] (c7q env [.tmp 2] (.o 30 3) [] [] r O) ⟨[(0, (L a)), (3, (.one (.ol 1900))), (4, (Z i))], [(1900, (.tr 30 3 out))]⟩
theorem P7q {r : AV} {O : List (Nat × Ob)} {a : LL} {i : Int} {out : LL} (h : ifB (decide (i < (↑(a.length) : Int)))
 (∃ m : Nat, i = (↑m : Int) ∧ ∃ n n1 : Int, ∃ xs : LL, (a[m]?) = some (r3 n n1 xs) ∧ ∃ n2 n3 : Int, ∃ xs1 : LL, XC pg 133 [.dat (r3 n n1 xs)] [] (g3 n2 n3 0) [(0, .tr 30 3 xs1)] ∧ ∃ m1 : Nat, i = (↑m1 : Int) ∧ Do (m1 < out.length) ∧ ∃ m2 : Nat, (m1 * (3 : Nat)) = (m2 * (3 : Nat) + (0 : Nat)) ∧ ∃ n4 n5 : Int, ∃ xs2 : LL, (out[m2]?) = some (r3 n4 n5 xs2) ∧ w5q r O a (IntKind.wrap .i64 (i + (1 : Int))) (List.set out m2 ([] ++ (r3 n2 n3 xs1) ++ [])))
 ((.one (.ol 0)) = r ∧ [(0, .tr 30 3 out)] = O)) : w5q r O a i out := by
 unfold w5q CLk
 refine c2q (E := env) (hs := N3q) envOk a3q ?_
 exact a5q (by kernel_rfl) h
theorem a5wq {a : LL} {r : AV} {O : List (Nat × Ob)} (h : ∃ l c : Nat, (↑(a.length) : Int) = (↑l : Int) ∧ (↑(a.length) : Int) = (↑c : Int) ∧ Do (l ≤ c ∧ (40 : Nat) * c ≤ (281474976710656 : Nat) ∧ c ≤ (281474976710656 : Nat)) ∧ w5q r O a (0 : Int) (List.replicate l (r3 (0 : Int) (0 : Int) []))) : XC pg 195 [(L a)] [] r O :=
 b1q (E := env) (hs := N3q) (c := (a1q Tryz.f195)) (n := 23) (res := [.tmp 2]) (rs := .o 30 3) (ks := []) (dir := []) envOk a3q rfl Tryz.func195 (by kernel_rfl) (by kernel_rfl) (by kernel_rfl) (by kernel_rfl) (a5q (by kernel_rfl) h)
def a8rq : a8q := ⟨[], []⟩
theorem a6Qq {s : LL} {t t1 : Int} {t2 : LL} {r : AV} {O : List (Nat × Ob)} (h : ∃ b : Bool, XC pg 166 [L s] [] (B b) [] ∧ ifB b
 (∃ n : Int, XC pg 167 [.dat (r3 t t1 t2)] [] (Z n) [] ∧ ifB (decide (n ≤ (60 : Int)))
 (∃ b1 : Bool, XC pg 168 [L s, .dat (r3 t t1 t2)] [] (B b1) [] ∧ (B b1) = r ∧ [] = O)
 ((B (false)) = r ∧ [] = O))
 ((B (false)) = r ∧ [] = O)) : XC pg 110 [(L s), (.dat [(.int .i64 t), (.int .i64 t1), (.sl t2)])] [] r O :=
 b1q (E := env) (hs := a8rq) (c := (a1q Tryz.f110)) (n := 17) (res := [.tmp 4]) (rs := .c .b) (ks := []) (dir := []) envOk a3q rfl Tryz.func110 (by kernel_rfl) (by kernel_rfl) (by kernel_rfl) (by kernel_rfl) (a5q (by kernel_rfl) h)
def R3q : a8q := ⟨[(8, ⟨[2, 3, 5], [], [], [], [], [], []⟩)], []⟩
def z2q (r : AV) (O : List (Nat × Ob)) (s5 s2 s21 : Int) (s22 : LL) (s3 s31 : Int) (s32 : LL) : Prop := CLk 70 env R3q (a1q Tryz.f154) [1, 1, 1, 1, 0, 1, 0, 0] (c7q env [.tmp 4] (.c .b) [] [] r O) ⟨[(2, (.one (.op 1900 0))), (3, (.one (.op 1901 0))), (5, (Z s5))], [(1900, (.var [(.d (.int .i64 s2)), (.d (.int .i64 s21)), (.d (.sl s22))])), (1901, (.var [(.d (.int .i64 s3)), (.d (.int .i64 s31)), (.d (.sl s32))]))]⟩
theorem V1q {r : AV} {O : List (Nat × Ob)} {s5 s2 s21 : Int} {s22 : LL} {s3 s31 : Int} {s32 : LL} (h : ifB (decide (s5 < (↑(s22.length) : Int)))
 (∃ m : Nat, s5 = (↑m : Int) ∧ ∃ n n1 : Int, ∃ xs : LL, (s22[m]?) = some (r3 n n1 xs) ∧ ∃ m1 : Nat, s5 = (↑m1 : Int) ∧ ∃ n2 n3 : Int, ∃ xs1 : LL, (s32[m1]?) = some (r3 n2 n3 xs1) ∧ ∃ b : Bool, XC pg 78 [.dat (r3 n n1 xs), .dat (r3 n2 n3 xs1)] [] (B b) [] ∧ ifB (!b)
 (∃ m2 : Nat, s5 = (↑m2 : Int) ∧ ∃ n4 n5 : Int, ∃ xs2 : LL, (s22[m2]?) = some (r3 n4 n5 xs2) ∧ ∃ m3 : Nat, s5 = (↑m3 : Int) ∧ ∃ n6 n7 : Int, ∃ xs3 : LL, (s32[m3]?) = some (r3 n6 n7 xs3) ∧ ∃ b1 : Bool, XC pg 154 [.dat (r3 n4 n5 xs2), .dat (r3 n6 n7 xs3)] [] (B b1) [] ∧ (B b1) = r ∧ [] = O)
 (z2q r O (IntKind.wrap .i64 (s5 + (1 : Int))) s2 s21 s22 s3 s31 s32))
 ((B (false)) = r ∧ [] = O)) : z2q r O s5 s2 s21 s22 s3 s31 s32 := by
 unfold z2q CLk
 refine c2q (E := env) (hs := R3q) envOk a3q ?_
 exact a5q (by kernel_rfl) h
theorem a62q {p p1 : Int} {p2 : LL} {p3 p4 : Int} {p5 : LL} {r : AV} {O : List (Nat × Ob)} (h : ifB (decide (p ≠ p3))
 ((B (decide (p < p3))) = r ∧ [] = O)
 (ifB (decide (p1 ≠ p4))
 ((B (decide (p1 < p4))) = r ∧ [] = O)
 (ifB (decide ((↑(p2.length) : Int) ≠ (↑(p5.length) : Int)))
 ((B (decide ((↑(p2.length) : Int) < (↑(p5.length) : Int)))) = r ∧ [] = O)
 (z2q r O (0 : Int) p p1 p2 p3 p4 p5)))) : XC pg 154 [(.dat [(.int .i64 p), (.int .i64 p1), (.sl p2)]), (.dat [(.int .i64 p3), (.int .i64 p4), (.sl p5)])] [] r O :=
 b1q (E := env) (hs := R3q) (c := (a1q Tryz.f154)) (n := 70) (res := [.tmp 4]) (rs := .c .b) (ks := []) (dir := []) envOk a3q rfl Tryz.func154 (by kernel_rfl) (by kernel_rfl) (by kernel_rfl) (by kernel_rfl) (a5q (by kernel_rfl) h)
def Y5q : a8q := ⟨[(5, ⟨[0, 3, 4, 5, 6], [], [], [(5, (2, (30, 3)))], [], [5], []⟩)], []⟩
def v7q (r : AV) (O : List (Nat × Ob)) (u : LL) (i t t1 : Int) (t2 : LL) (s4 s41 : Int) (out out1 : Int) (out2 : LL) : Prop := CLk 45 env Y5q (a1q Tryz.f142) [1, 1, 1, 0, 1, 0, 0] (c7q env [.cell 4 30] (.d [(.i .i64), (.i .i64), .l]) [] [] r O) ⟨[(0, (L u)), (3, (.one (.op 1900 0))), (4, (.one (.op 1901 0))), (5, (.one (.op 1902 0))), (6, (Z i))], [(1900, (.var [(.d (.int .i64 t)), (.d (.int .i64 t1)), (.d (.sl t2))])), (1901, (.var [(.d (.int .i64 s4)), (.d (.int .i64 s41)), .e0])), (1902, (.var [(.d (.int .i64 out)), (.d (.int .i64 out1)), (.ol 1903)])), (1903, (.lst 30 3 out2))]⟩
theorem Y4q {r : AV} {O : List (Nat × Ob)} {u : LL} {i t t1 : Int} {t2 : LL} {s4 s41 out out1 : Int} {out2 : LL} (h : ifB (decide (i < (↑(t2.length) : Int)))
 (∃ m : Nat, i = (↑m : Int) ∧ ∃ n n1 : Int, ∃ xs : LL, (t2[m]?) = some (r3 n n1 xs) ∧ ∃ n2 n3 : Int, ∃ xs1 : LL, XC pg 142 [L u, .dat (r3 n n1 xs)] [] (.dat (r3 n2 n3 xs1)) [] ∧ Do ((out2.length + List.length [(r3 n2 n3 xs1)]) * 40 ≤ 140737488355328) ∧ v7q r O u (IntKind.wrap .i64 (i + (1 : Int))) t t1 t2 s4 s41 out out1 (out2 ++ [(r3 n2 n3 xs1)]))
 ((.dat (r3 out out1 out2)) = r ∧ [] = O)) : v7q r O u i t t1 t2 s4 s41 out out1 out2 := by
 unfold v7q CLk
 refine c2q (E := env) (hs := Y5q) envOk a3q ?_
 exact a5q (by kernel_rfl) h
theorem a82q {u : LL} {t t1 : Int} {t2 : LL} {r : AV} {O : List (Nat × Ob)} (h : ifB (decide (t = (-1 : Int)))
 (ifB (decide ((↑(t2.length) : Int) = (0 : Int)))
 (∃ n n1 : Int, ∃ xs : LL, XC pg 200 [L u, Z t1] [] (.dat (r3 n n1 xs)) [] ∧ (.dat (r3 n n1 xs)) = r ∧ [] = O)
 (v7q r O u (0 : Int) t t1 t2 (0 : Int) (0 : Int) t t1 []))
 (v7q r O u (0 : Int) t t1 t2 (0 : Int) (0 : Int) t t1 [])) : XC pg 142 [(L u), (.dat [(.int .i64 t), (.int .i64 t1), (.sl t2)])] [] r O :=
 b1q (E := env) (hs := Y5q) (c := (a1q Tryz.f142)) (n := 45) (res := [.cell 4 30]) (rs := .d [(.i .i64), (.i .i64), .l]) (ks := []) (dir := []) envOk a3q rfl Tryz.func142 (by kernel_rfl) (by kernel_rfl) (by kernel_rfl) (by kernel_rfl) (a5q (by kernel_rfl) h)
def F2q : a8q := ⟨[(3, ⟨[0, 3, 4, 5, 6], [], [], [(5, (2, (30, 3)))], [], [5], []⟩), (7, ⟨[0, 3, 4, 5, 6, 7, 8], [], [], [(5, (2, (30, 3)))], [], [5], []⟩)], []⟩
def q7q (r : AV) (O : List (Nat × Ob)) (s0 : LL) (s6 s3 s31 : Int) (s32 : LL) (s4 s41 : Int) (s5 s51 : Int) (s52 : LL) : Prop := CLk 68 env F2q (a1q Tryz.f141) [1, 1, 0, 1, 0, 0] (c7q env [.cell 4 30] (.d [(.i .i64), (.i .i64), .l]) [] [] r O) ⟨[(0, (L s0)), (3, (.one (.op 1900 0))), (4, (.one (.op 1901 0))), (5, (.one (.op 1902 0))), (6, (Z s6))], [(1900, (.var [(.d (.int .i64 s3)), (.d (.int .i64 s31)), (.d (.sl s32))])), (1901, (.var [(.d (.int .i64 s4)), (.d (.int .i64 s41)), .e0])), (1902, (.var [(.d (.int .i64 s5)), (.d (.int .i64 s51)), (.ol 1903)])), (1903, (.lst 30 3 s52))]⟩
def C2q (r : AV) (O : List (Nat × Ob)) (s0 : LL) (s6 s8 : Int) (s3 s31 : Int) (s32 : LL) (s4 s41 : Int) (s5 s51 : Int) (s7 s71 : Int) (s72 s52 : LL) : Prop := CLk 68 env F2q (a1q Tryz.f141) [1, 1, 0, 1, 0, 0, 1, 0, 0, 1, 0, 1, 1, 1, 1, 1, 0, 0] (c7q env [.cell 4 30] (.d [(.i .i64), (.i .i64), .l]) [] [] r O) ⟨[(0, (L s0)), (3, (.one (.op 1900 0))), (4, (.one (.op 1901 0))), (5, (.one (.op 1902 0))), (6, (Z s6)), (7, (.one (.op 1903 0))), (8, (Z s8))], [(1900, (.var [(.d (.int .i64 s3)), (.d (.int .i64 s31)), (.d (.sl s32))])), (1901, (.var [(.d (.int .i64 s4)), (.d (.int .i64 s41)), .e0])), (1902, (.var [(.d (.int .i64 s5)), (.d (.int .i64 s51)), (.ol 1904)])), (1903, (.var [(.d (.int .i64 s7)), (.d (.int .i64 s71)), (.d (.sl s72))])), (1904, (.lst 30 3 s52))]⟩
theorem a0uq {r : AV} {O : List (Nat × Ob)} {s0 : LL} {s6 s3 s31 : Int} {s32 : LL} {s4 s41 s5 s51 : Int} {s52 : LL} (h : ifB (decide (s6 < (↑(s32.length) : Int)))
 (∃ m : Nat, s6 = (↑m : Int) ∧ ∃ n n1 : Int, ∃ xs : LL, (s32[m]?) = some (r3 n n1 xs) ∧ ∃ n2 n3 : Int, ∃ xs1 : LL, XC pg 141 [L s0, .dat (r3 n n1 xs)] [] (.dat (r3 n2 n3 xs1)) [] ∧ ∃ b : Bool, XC pg 151 [L s0, Z s3] [] (B b) [] ∧ ifB (!b)
 (Do ((s52.length + List.length [(r3 n2 n3 xs1)]) * 40 ≤ 140737488355328) ∧ q7q r O s0 (IntKind.wrap .i64 (s6 + (1 : Int))) s3 s31 s32 s4 s41 s5 s51 (s52 ++ [(r3 n2 n3 xs1)]))
 (ifB (decide (n2 ≠ s3))
 (∃ xs2 : LL, XC pg 199 [L s52, .dat (r3 n2 n3 xs1)] [] (.one (.ol 0)) [(0, .lst 30 3 xs2)] ∧ q7q r O s0 (IntKind.wrap .i64 (s6 + (1 : Int))) s3 s31 s32 s4 s41 s5 s51 xs2)
 (C2q r O s0 s6 (0 : Int) s3 s31 s32 s4 s41 s5 s51 n2 n3 xs1 s52)))
 ((.dat (r3 s5 s51 s52)) = r ∧ [] = O)) : q7q r O s0 s6 s3 s31 s32 s4 s41 s5 s51 s52 := by
 unfold q7q CLk
 refine c2q (E := env) (hs := F2q) envOk a3q ?_
 exact a5q (by kernel_rfl) h
theorem a0lq {r : AV} {O : List (Nat × Ob)} {s0 : LL} {s6 s8 s3 s31 : Int} {s32 : LL} {s4 s41 s5 s51 s7 s71 : Int} {s72 s52 : LL} (h : ifB (decide (s8 < (↑(s72.length) : Int)))
 (∃ m : Nat, s8 = (↑m : Int) ∧ ∃ n n1 : Int, ∃ xs : LL, (s72[m]?) = some (r3 n n1 xs) ∧ ∃ xs1 : LL, XC pg 199 [L s52, .dat (r3 n n1 xs)] [] (.one (.ol 0)) [(0, .lst 30 3 xs1)] ∧ C2q r O s0 s6 (IntKind.wrap .i64 (s8 + (1 : Int))) s3 s31 s32 s4 s41 s5 s51 s7 s71 s72 xs1)
 (q7q r O s0 (IntKind.wrap .i64 (s6 + (1 : Int))) s3 s31 s32 s4 s41 s5 s51 s52)) : C2q r O s0 s6 s8 s3 s31 s32 s4 s41 s5 s51 s7 s71 s72 s52 := by
 unfold C2q CLk
 refine c2q (E := env) (hs := F2q) envOk a3q ?_
 exact a5q (by kernel_rfl) h
theorem a8Nq {p : LL} {p1 p2 : Int} {p3 : LL} {r : AV} {O : List (Nat × Ob)} (h : q7q r O p (0 : Int) p1 p2 p3 (0 : Int) (0 : Int) p1 p2 []) : XC pg 141 [(L p), (.dat [(.int .i64 p1), (.int .i64 p2), (.sl p3)])] [] r O :=
 b1q (E := env) (hs := F2q) (c := (a1q Tryz.f141)) (n := 68) (res := [.cell 4 30]) (rs := .d [(.i .i64), (.i .i64), .l]) (ks := []) (dir := []) envOk a3q rfl Tryz.func141 (by kernel_rfl) (by kernel_rfl) (by kernel_rfl) (by kernel_rfl) (a5q (by kernel_rfl) h)
def s7q : a8q := ⟨[(3, ⟨[0, 1, 4, 5, 6], [], [], [(5, (0, (85, 7)))], [], [5], []⟩), (7, ⟨[0, 1, 4, 5, 6, 7, 8], [], [], [], [], [], []⟩)], []⟩
def f8q (r : AV) (O : List (Nat × Ob)) (s0 s1 : LL) (s6 : Int) (s5 : LL) : Prop := CLk 82 env s7q (a1q Tryz.f194) [1, 1, 0, 1, 0, 0] (c7q env [.cell 4 39] (.d [.l]) [] [] r O) ⟨[(0, (L s0)), (1, (L s1)), (4, (.one (.op 1900 0))), (5, (.one (.op 1901 0))), (6, (Z s6))], [(1900, (.var [.e0])), (1901, (.var [(.ol 1902)])), (1902, (.lst 85 7 s5))]⟩
def r1q (r : AV) (O : List (Nat × Ob)) (s0 s1 : LL) (s6 s8 : Int) (s7 : Bool) (s71 s72 : Int) (s73 : LL) (s74 s75 : Int) (s76 s5 : LL) : Prop := CLk 82 env s7q (a1q Tryz.f194) [1, 1, 0, 1, 0, 0, 1, 0, 0, 1, 1, 0, 0, 0] (c7q env [.cell 4 39] (.d [.l]) [] [] r O) ⟨[(0, (L s0)), (1, (L s1)), (4, (.one (.op 1900 0))), (5, (.one (.op 1901 0))), (6, (Z s6)), (7, (.one (.op 1902 0))), (8, (Z s8))], [(1900, (.var [.e0])), (1901, (.var [(.ol 1903)])), (1902, (.var [(.d (.bool s7)), (.d (.int .i64 s71)), (.d (.int .i64 s72)), (.d (.sl s73)), (.d (.int .i64 s74)), (.d (.int .i64 s75)), (.d (.sl s76))])), (1903, (.lst 85 7 s5))]⟩
theorem H6q {r : AV} {O : List (Nat × Ob)} {s0 s1 : LL} {s6 : Int} {s5 : LL} (h : ifB (decide (s6 < (↑(s1.length) : Int)))
 (∃ m : Nat, s6 = (↑m : Int) ∧ ∃ b : Bool, ∃ n n1 : Int, ∃ xs : LL, ∃ n2 n3 : Int, ∃ xs1 : LL, (s1[m]?) = some (r7 b n n1 xs n2 n3 xs1) ∧ ∃ m1 : Nat, s6 = (↑m1 : Int) ∧ ∃ b1 : Bool, ∃ n4 n5 : Int, ∃ xs2 : LL, ∃ n6 n7 : Int, ∃ xs3 : LL, (s1[m1]?) = some (r7 b1 n4 n5 xs2 n6 n7 xs3) ∧ ∃ m2 : Nat, s6 = (↑m2 : Int) ∧ ∃ b2 : Bool, ∃ n8 n9 : Int, ∃ xs4 : LL, ∃ n10 n11 : Int, ∃ xs5 : LL, (s1[m2]?) = some (r7 b2 n8 n9 xs4 n10 n11 xs5) ∧ ∃ b3 : Bool, ∃ n12 n13 : Int, ∃ xs6 : LL, ∃ n14 n15 : Int, ∃ xs7 : LL, XC pg 92 [L s0, B b, .dat (r3 n4 n5 xs2), .dat (r3 n10 n11 xs5)] [] (.dat (r7 b3 n12 n13 xs6 n14 n15 xs7)) [] ∧ r1q r O s0 s1 s6 (0 : Int) b3 n12 n13 xs6 n14 n15 xs7 s5)
 ((.dat [.sl s5]) = r ∧ [] = O)) : f8q r O s0 s1 s6 s5 := by
 unfold f8q CLk
 refine c2q (E := env) (hs := s7q) envOk a3q ?_
 exact a5q (by kernel_rfl) h
theorem I4q {r : AV} {O : List (Nat × Ob)} {s0 s1 : LL} {s6 s8 : Int} {s7 : Bool} {s71 s72 : Int} {s73 : LL} {s74 s75 : Int} {s76 s5 : LL} (h : ifB (decide (s8 < (↑(s5.length) : Int)))
 (∃ m : Nat, s8 = (↑m : Int) ∧ Do (m < s5.length) ∧ ∃ n : Nat, (m * (7 : Nat)) = (n * (7 : Nat)) ∧ ∃ b : Bool, ∃ n1 n2 : Int, ∃ xs : LL, ∃ n3 n4 : Int, ∃ xs1 : LL, (s5[n]?) = some (r7 b n1 n2 xs n3 n4 xs1) ∧ ∃ b1 : Bool, XC pg 107 [.dat (r7 b n1 n2 xs n3 n4 xs1), .dat (r7 s7 s71 s72 s73 s74 s75 s76)] [] (B b1) [] ∧ ifB b1
 (r1q r O s0 s1 s6 (IntKind.wrap .i64 (s8 + (1 : Int))) s7 s71 s72 s73 s74 s75 s76 s5)
 (ifB (decide (s8 < (↑(s5.length) : Int)))
 (∃ m1 : Nat, s8 = (↑m1 : Int) ∧ Do (m1 < s5.length) ∧ ∃ n5 : Nat, (m1 * (7 : Nat)) = (n5 * (7 : Nat)) ∧ ∃ b2 : Bool, ∃ n6 n7 : Int, ∃ xs2 : LL, ∃ n8 n9 : Int, ∃ xs3 : LL, (s5[n5]?) = some (r7 b2 n6 n7 xs2 n8 n9 xs3) ∧ ∃ b3 : Bool, XC pg 65 [.dat (r7 b2 n6 n7 xs2 n8 n9 xs3), .dat (r7 s7 s71 s72 s73 s74 s75 s76)] [] (B b3) [] ∧ ifB b3
 (f8q r O s0 s1 (IntKind.wrap .i64 (s6 + (1 : Int))) s5)
 (∃ n10 : Nat, s8 = (↑n10 : Int) ∧ Do ((0 : Nat) ≤ n10 ∧ n10 ≤ s5.length) ∧ Do ((0 : Nat) + (0 : Nat) + (n10 - (0 : Nat)) ≤ s5.length) ∧ Do (∀ (y : List Da), y ∈ s5 → y.length = Prod.fst ((7 : Nat), (88 : Nat), [At.d (Da.bool false), At.d (Da.int IntKind.i64 (0 : Int)), At.d (Da.int IntKind.i64 (0 : Int)), At.e0, At.d (Da.int IntKind.i64 (0 : Int)), At.d (Da.int IntKind.i64 (0 : Int)), At.e0])) ∧ Do ((List.length ([] : LL) + List.length (List.take (n10 - (0 : Nat)) (List.drop ((0 : Nat) + (0 : Nat)) s5))) * 88 ≤ 140737488355328) ∧ Do ((List.length ([] ++ List.take (n10 - (0 : Nat)) (List.drop ((0 : Nat) + (0 : Nat)) s5)) + List.length [(r7 s7 s71 s72 s73 s74 s75 s76)]) * 88 ≤ 140737488355328) ∧ ∃ n11 : Nat, s8 = (↑n11 : Int) ∧ Do (n11 ≤ s5.length ∧ s5.length ≤ s5.length) ∧ Do ((0 : Nat) + n11 + (s5.length - n11) ≤ s5.length) ∧ Do (∀ (y : List Da), y ∈ s5 → y.length = Prod.fst ((7 : Nat), (88 : Nat), [At.d (Da.bool false), At.d (Da.int IntKind.i64 (0 : Int)), At.d (Da.int IntKind.i64 (0 : Int)), At.e0, At.d (Da.int IntKind.i64 (0 : Int)), At.d (Da.int IntKind.i64 (0 : Int)), At.e0])) ∧ Do ((List.length ([] ++ List.take (n10 - (0 : Nat)) (List.drop ((0 : Nat) + (0 : Nat)) s5) ++ [(r7 s7 s71 s72 s73 s74 s75 s76)]) + List.length (List.take (s5.length - n11) (List.drop ((0 : Nat) + n11) s5))) * 88 ≤ 140737488355328) ∧ f8q r O s0 s1 (IntKind.wrap .i64 (s6 + (1 : Int))) ([] ++ List.take (n10 - (0 : Nat)) (List.drop ((0 : Nat) + (0 : Nat)) s5) ++ [(r7 s7 s71 s72 s73 s74 s75 s76)] ++ List.take (s5.length - n11) (List.drop ((0 : Nat) + n11) s5))))
 (∃ n12 : Nat, s8 = (↑n12 : Int) ∧ Do ((0 : Nat) ≤ n12 ∧ n12 ≤ s5.length) ∧ Do ((0 : Nat) + (0 : Nat) + (n12 - (0 : Nat)) ≤ s5.length) ∧ Do (∀ (y : List Da), y ∈ s5 → y.length = Prod.fst ((7 : Nat), (88 : Nat), [At.d (Da.bool false), At.d (Da.int IntKind.i64 (0 : Int)), At.d (Da.int IntKind.i64 (0 : Int)), At.e0, At.d (Da.int IntKind.i64 (0 : Int)), At.d (Da.int IntKind.i64 (0 : Int)), At.e0])) ∧ Do ((List.length ([] : LL) + List.length (List.take (n12 - (0 : Nat)) (List.drop ((0 : Nat) + (0 : Nat)) s5))) * 88 ≤ 140737488355328) ∧ Do ((List.length ([] ++ List.take (n12 - (0 : Nat)) (List.drop ((0 : Nat) + (0 : Nat)) s5)) + List.length [(r7 s7 s71 s72 s73 s74 s75 s76)]) * 88 ≤ 140737488355328) ∧ ∃ n13 : Nat, s8 = (↑n13 : Int) ∧ Do (n13 ≤ s5.length ∧ s5.length ≤ s5.length) ∧ Do ((0 : Nat) + n13 + (s5.length - n13) ≤ s5.length) ∧ Do (∀ (y : List Da), y ∈ s5 → y.length = Prod.fst ((7 : Nat), (88 : Nat), [At.d (Da.bool false), At.d (Da.int IntKind.i64 (0 : Int)), At.d (Da.int IntKind.i64 (0 : Int)), At.e0, At.d (Da.int IntKind.i64 (0 : Int)), At.d (Da.int IntKind.i64 (0 : Int)), At.e0])) ∧ Do ((List.length ([] ++ List.take (n12 - (0 : Nat)) (List.drop ((0 : Nat) + (0 : Nat)) s5) ++ [(r7 s7 s71 s72 s73 s74 s75 s76)]) + List.length (List.take (s5.length - n13) (List.drop ((0 : Nat) + n13) s5))) * 88 ≤ 140737488355328) ∧ f8q r O s0 s1 (IntKind.wrap .i64 (s6 + (1 : Int))) ([] ++ List.take (n12 - (0 : Nat)) (List.drop ((0 : Nat) + (0 : Nat)) s5) ++ [(r7 s7 s71 s72 s73 s74 s75 s76)] ++ List.take (s5.length - n13) (List.drop ((0 : Nat) + n13) s5)))))
 (ifB (decide (s8 < (↑(s5.length) : Int)))
 (∃ m2 : Nat, s8 = (↑m2 : Int) ∧ Do (m2 < s5.length) ∧ ∃ n14 : Nat, (m2 * (7 : Nat)) = (n14 * (7 : Nat)) ∧ ∃ b4 : Bool, ∃ n15 n16 : Int, ∃ xs4 : LL, ∃ n17 n18 : Int, ∃ xs5 : LL, (s5[n14]?) = some (r7 b4 n15 n16 xs4 n17 n18 xs5) ∧ ∃ b5 : Bool, XC pg 65 [.dat (r7 b4 n15 n16 xs4 n17 n18 xs5), .dat (r7 s7 s71 s72 s73 s74 s75 s76)] [] (B b5) [] ∧ ifB b5
 (f8q r O s0 s1 (IntKind.wrap .i64 (s6 + (1 : Int))) s5)
 (∃ n19 : Nat, s8 = (↑n19 : Int) ∧ Do ((0 : Nat) ≤ n19 ∧ n19 ≤ s5.length) ∧ Do ((0 : Nat) + (0 : Nat) + (n19 - (0 : Nat)) ≤ s5.length) ∧ Do (∀ (y : List Da), y ∈ s5 → y.length = Prod.fst ((7 : Nat), (88 : Nat), [At.d (Da.bool false), At.d (Da.int IntKind.i64 (0 : Int)), At.d (Da.int IntKind.i64 (0 : Int)), At.e0, At.d (Da.int IntKind.i64 (0 : Int)), At.d (Da.int IntKind.i64 (0 : Int)), At.e0])) ∧ Do ((List.length ([] : LL) + List.length (List.take (n19 - (0 : Nat)) (List.drop ((0 : Nat) + (0 : Nat)) s5))) * 88 ≤ 140737488355328) ∧ Do ((List.length ([] ++ List.take (n19 - (0 : Nat)) (List.drop ((0 : Nat) + (0 : Nat)) s5)) + List.length [(r7 s7 s71 s72 s73 s74 s75 s76)]) * 88 ≤ 140737488355328) ∧ ∃ n20 : Nat, s8 = (↑n20 : Int) ∧ Do (n20 ≤ s5.length ∧ s5.length ≤ s5.length) ∧ Do ((0 : Nat) + n20 + (s5.length - n20) ≤ s5.length) ∧ Do (∀ (y : List Da), y ∈ s5 → y.length = Prod.fst ((7 : Nat), (88 : Nat), [At.d (Da.bool false), At.d (Da.int IntKind.i64 (0 : Int)), At.d (Da.int IntKind.i64 (0 : Int)), At.e0, At.d (Da.int IntKind.i64 (0 : Int)), At.d (Da.int IntKind.i64 (0 : Int)), At.e0])) ∧ Do ((List.length ([] ++ List.take (n19 - (0 : Nat)) (List.drop ((0 : Nat) + (0 : Nat)) s5) ++ [(r7 s7 s71 s72 s73 s74 s75 s76)]) + List.length (List.take (s5.length - n20) (List.drop ((0 : Nat) + n20) s5))) * 88 ≤ 140737488355328) ∧ f8q r O s0 s1 (IntKind.wrap .i64 (s6 + (1 : Int))) ([] ++ List.take (n19 - (0 : Nat)) (List.drop ((0 : Nat) + (0 : Nat)) s5) ++ [(r7 s7 s71 s72 s73 s74 s75 s76)] ++ List.take (s5.length - n20) (List.drop ((0 : Nat) + n20) s5))))
 (∃ n21 : Nat, s8 = (↑n21 : Int) ∧ Do ((0 : Nat) ≤ n21 ∧ n21 ≤ s5.length) ∧ Do ((0 : Nat) + (0 : Nat) + (n21 - (0 : Nat)) ≤ s5.length) ∧ Do (∀ (y : List Da), y ∈ s5 → y.length = Prod.fst ((7 : Nat), (88 : Nat), [At.d (Da.bool false), At.d (Da.int IntKind.i64 (0 : Int)), At.d (Da.int IntKind.i64 (0 : Int)), At.e0, At.d (Da.int IntKind.i64 (0 : Int)), At.d (Da.int IntKind.i64 (0 : Int)), At.e0])) ∧ Do ((List.length ([] : LL) + List.length (List.take (n21 - (0 : Nat)) (List.drop ((0 : Nat) + (0 : Nat)) s5))) * 88 ≤ 140737488355328) ∧ Do ((List.length ([] ++ List.take (n21 - (0 : Nat)) (List.drop ((0 : Nat) + (0 : Nat)) s5)) + List.length [(r7 s7 s71 s72 s73 s74 s75 s76)]) * 88 ≤ 140737488355328) ∧ ∃ n22 : Nat, s8 = (↑n22 : Int) ∧ Do (n22 ≤ s5.length ∧ s5.length ≤ s5.length) ∧ Do ((0 : Nat) + n22 + (s5.length - n22) ≤ s5.length) ∧ Do (∀ (y : List Da), y ∈ s5 → y.length = Prod.fst ((7 : Nat), (88 : Nat), [At.d (Da.bool false), At.d (Da.int IntKind.i64 (0 : Int)), At.d (Da.int IntKind.i64 (0 : Int)), At.e0, At.d (Da.int IntKind.i64 (0 : Int)), At.d (Da.int IntKind.i64 (0 : Int)), At.e0])) ∧ Do ((List.length ([] ++ List.take (n21 - (0 : Nat)) (List.drop ((0 : Nat) + (0 : Nat)) s5) ++ [(r7 s7 s71 s72 s73 s74 s75 s76)]) + List.length (List.take (s5.length - n22) (List.drop ((0 : Nat) + n22) s5))) * 88 ≤ 140737488355328) ∧ f8q r O s0 s1 (IntKind.wrap .i64 (s6 + (1 : Int))) ([] ++ List.take (n21 - (0 : Nat)) (List.drop ((0 : Nat) + (0 : Nat)) s5) ++ [(r7 s7 s71 s72 s73 s74 s75 s76)] ++ List.take (s5.length - n22) (List.drop ((0 : Nat) + n22) s5))))) : r1q r O s0 s1 s6 s8 s7 s71 s72 s73 s74 s75 s76 s5 := by
 unfold r1q CLk
 refine c2q (E := env) (hs := s7q) envOk a3q ?_
 exact a5q (by kernel_rfl) h
theorem a2tq {p p1 : LL} {r : AV} {O : List (Nat × Ob)} (h : f8q r O p p1 (0 : Int) []) : XC pg 194 [(L p), (L p1)] [] r O :=
 b1q (E := env) (hs := s7q) (c := (a1q Tryz.f194)) (n := 82) (res := [.cell 4 39]) (rs := .d [.l]) (ks := []) (dir := []) envOk a3q rfl Tryz.func194 (by kernel_rfl) (by kernel_rfl) (by kernel_rfl) (by kernel_rfl) (a5q (by kernel_rfl) h)
def E9q : a8q := ⟨[(3, ⟨[1, 3, 4], [3], [], [], [], [], []⟩)], []⟩
def q8q (r : AV) (O : List (Nat × Ob)) (out : LL) (i : Int) (c : LL) : Prop := CLk 29 env E9q (a1q Tryz.f149) [1, 1, 0, 1, 0, 0] (c7q env [.tmp 2] (.c .l) [] [] r O) ⟨[(1, (.one (.op 1900 0))), (3, (L out)), (4, (Z i))], [(1900, (.var [(.d (.sl c))]))]⟩
theorem H2q {r : AV} {O : List (Nat × Ob)} {out : LL} {i : Int} {c : LL} (h : ifB (decide (i < (↑(c.length) : Int)))
 (∃ m : Nat, i = (↑m : Int) ∧ ∃ b : Bool, ∃ n n1 : Int, ∃ xs : LL, ∃ n2 n3 : Int, ∃ xs1 : LL, (c[m]?) = some (r7 b n n1 xs n2 n3 xs1) ∧ ∃ m1 : Nat, i = (↑m1 : Int) ∧ ∃ b1 : Bool, ∃ n4 n5 : Int, ∃ xs2 : LL, ∃ n6 n7 : Int, ∃ xs3 : LL, (c[m1]?) = some (r7 b1 n4 n5 xs2 n6 n7 xs3) ∧ ∃ xs4 : LL, XC pg 169 [.dat (r3 n4 n5 xs2), L out] [] (L xs4) [] ∧ ∃ xs5 : LL, XC pg 169 [.dat (r3 n2 n3 xs1), L xs4] [] (L xs5) [] ∧ q8q r O xs5 (IntKind.wrap .i64 (i + (1 : Int))) c)
 ((L out) = r ∧ [] = O)) : q8q r O out i c := by
 unfold q8q CLk
 refine c2q (E := env) (hs := E9q) envOk a3q ?_
 exact a5q (by kernel_rfl) h
theorem a2Qq {c : LL} {r : AV} {O : List (Nat × Ob)} (h : q8q r O [] (0 : Int) c) : XC pg 149 [(.dat [(.sl c)])] [] r O :=
 b1q (E := env) (hs := E9q) (c := (a1q Tryz.f149)) (n := 29) (res := [.tmp 2]) (rs := .c .l) (ks := []) (dir := []) envOk a3q rfl Tryz.func149 (by kernel_rfl) (by kernel_rfl) (by kernel_rfl) (by kernel_rfl) (a5q (by kernel_rfl) h)
def u4q : a8q := ⟨[(4, ⟨[1, 2, 4, 5, 6], [], [], [], [], [], []⟩), (8, ⟨[1, 2, 4, 5, 7], [], [], [(5, (2, (30, 3)))], [], [5], []⟩)], []⟩
def s2q (r : AV) (O : List (Nat × Ob)) (vars : LL) (k t t1 : Int) (t2 : LL) (s4 s41 : Int) (out out1 : Int) : Prop := CLk 53 env u4q (a1q Tryz.f193) [1, 1, 0, 1, 0, 1, 0, 0, 0] (c7q env [.cell 4 30] (.d [(.i .i64), (.i .i64), .l]) [] [] r O) ⟨[(1, (L vars)), (2, (.one (.op 1900 0))), (4, (.one (.op 1901 0))), (5, (.one (.op 1902 0))), (6, (Z k))], [(1900, (.var [(.d (.int .i64 t)), (.d (.int .i64 t1)), (.d (.sl t2))])), (1901, (.var [(.d (.int .i64 s4)), (.d (.int .i64 s41)), .e0])), (1902, (.var [(.d (.int .i64 out)), (.d (.int .i64 out1)), .e0]))]⟩
def k8q (r : AV) (O : List (Nat × Ob)) (vars : LL) (i t t1 : Int) (t2 : LL) (s4 s41 : Int) (out out1 : Int) (out2 : LL) : Prop := CLk 53 env u4q (a1q Tryz.f193) [1, 1, 1, 0, 1, 0, 0] (c7q env [.cell 4 30] (.d [(.i .i64), (.i .i64), .l]) [] [] r O) ⟨[(1, (L vars)), (2, (.one (.op 1900 0))), (4, (.one (.op 1901 0))), (5, (.one (.op 1902 0))), (7, (Z i))], [(1900, (.var [(.d (.int .i64 t)), (.d (.int .i64 t1)), (.d (.sl t2))])), (1901, (.var [(.d (.int .i64 s4)), (.d (.int .i64 s41)), .e0])), (1902, (.var [(.d (.int .i64 out)), (.d (.int .i64 out1)), (.ol 1903)])), (1903, (.lst 30 3 out2))]⟩
theorem K5q {r : AV} {O : List (Nat × Ob)} {vars : LL} {k t t1 : Int} {t2 : LL} {s4 s41 out out1 : Int} (h : ifB (decide (k < (↑(vars.length) : Int)))
 (∃ m : Nat, k = (↑m : Int) ∧ ∃ n : Int, (vars[m]?) = some [.int .i64 n] ∧ ifB (decide (n ≠ t1))
 (s2q r O vars (IntKind.wrap .i64 (k + (1 : Int))) t t1 t2 s4 s41 out out1)
 (k8q r O vars (0 : Int) t t1 t2 s4 s41 out k []))
 (k8q r O vars (0 : Int) t t1 t2 s4 s41 out k [])) : s2q r O vars k t t1 t2 s4 s41 out out1 := by
 unfold s2q CLk
 refine c2q (E := env) (hs := u4q) envOk a3q ?_
 exact a5q (by kernel_rfl) h
theorem K9q {r : AV} {O : List (Nat × Ob)} {vars : LL} {i t t1 : Int} {t2 : LL} {s4 s41 out out1 : Int} {out2 : LL} (h : ifB (decide (i < (↑(t2.length) : Int)))
 (∃ m : Nat, i = (↑m : Int) ∧ ∃ n n1 : Int, ∃ xs : LL, (t2[m]?) = some (r3 n n1 xs) ∧ ∃ n2 n3 : Int, ∃ xs1 : LL, XC pg 193 [.dat (r3 n n1 xs), L vars] [] (.dat (r3 n2 n3 xs1)) [] ∧ Do ((out2.length + List.length [(r3 n2 n3 xs1)]) * 40 ≤ 140737488355328) ∧ k8q r O vars (IntKind.wrap .i64 (i + (1 : Int))) t t1 t2 s4 s41 out out1 (out2 ++ [(r3 n2 n3 xs1)]))
 ((.dat (r3 out out1 out2)) = r ∧ [] = O)) : k8q r O vars i t t1 t2 s4 s41 out out1 out2 := by
 unfold k8q CLk
 refine c2q (E := env) (hs := u4q) envOk a3q ?_
 exact a5q (by kernel_rfl) h
theorem a3Aq {t t1 : Int} {t2 vars : LL} {r : AV} {O : List (Nat × Ob)} (h : ifB (decide (t = (-1 : Int)))
 (s2q r O vars (0 : Int) t t1 t2 (0 : Int) (0 : Int) t t1)
 (k8q r O vars (0 : Int) t t1 t2 (0 : Int) (0 : Int) t t1 [])) : XC pg 193 [(.dat [(.int .i64 t), (.int .i64 t1), (.sl t2)]), (L vars)] [] r O :=
 b1q (E := env) (hs := u4q) (c := (a1q Tryz.f193)) (n := 53) (res := [.cell 4 30]) (rs := .d [(.i .i64), (.i .i64), .l]) (ks := []) (dir := []) envOk a3q rfl Tryz.func193 (by kernel_rfl) (by kernel_rfl) (by kernel_rfl) (by kernel_rfl) (a5q (by kernel_rfl) h)
def a88q : a8q := ⟨[], []⟩
theorem a6kq {s : LL} {t t1 : Int} {t2 : LL} {r : AV} {O : List (Nat × Ob)} (h : ∃ b : Bool, XC pg 179 [L s] [] (B b) [] ∧ ifB b
 (∃ n : Int, XC pg 180 [.dat (r3 t t1 t2)] [] (Z n) [] ∧ ifB (decide (n ≤ (60 : Int)))
 (∃ b1 : Bool, XC pg 181 [L s, .dat (r3 t t1 t2)] [] (B b1) [] ∧ (B b1) = r ∧ [] = O)
 ((B (false)) = r ∧ [] = O))
 ((B (false)) = r ∧ [] = O)) : XC pg 120 [(L s), (.dat [(.int .i64 t), (.int .i64 t1), (.sl t2)])] [] r O :=
 b1q (E := env) (hs := a88q) (c := (a1q Tryz.f120)) (n := 17) (res := [.tmp 4]) (rs := .c .b) (ks := []) (dir := []) envOk a3q rfl Tryz.func120 (by kernel_rfl) (by kernel_rfl) (by kernel_rfl) (by kernel_rfl) (a5q (by kernel_rfl) h)
def a8vq : a8q := ⟨[], []⟩
theorem a79q {a a1 : Int} {a2 : LL} {b b1 : Int} {b2 : LL} {r : AV} {O : List (Nat × Ob)} (h : ∃ n : Int, XC pg 143 [.dat (r3 a a1 a2), .dat (r3 b b1 b2)] [] (Z n) [] ∧ (B (decide (n < (0 : Int)))) = r ∧ [] = O) : XC pg 171 [(.dat [(.int .i64 a), (.int .i64 a1), (.sl a2)]), (.dat [(.int .i64 b), (.int .i64 b1), (.sl b2)])] [] r O :=
 b1q (E := env) (hs := a8vq) (c := (a1q Tryz.f171)) (n := 9) (res := [.tmp 4]) (rs := .c .b) (ks := []) (dir := []) envOk a3q rfl Tryz.func171 (by kernel_rfl) (by kernel_rfl) (by kernel_rfl) (by kernel_rfl) (a5q (by kernel_rfl) h)
def S8q : a8q := ⟨[(5, ⟨[0, 3, 4, 5, 22, 23, 24], [], [], [], [], [], []⟩)], []⟩
def t6q (r : AV) (O : List (Nat × Ob)) (u s22 : LL) (s23 s24 : Int) (t t1 : Int) (t2 : LL) (s4 s41 : Int) (kids : LL) : Prop := CLk 38 env S8q (a1q Tryz.f145) [1, 1, 1, 0, 1, 0, 0] (c7q env [.cell 4 30] (.s [.k (.i .i64), .k (.i .i64), .o 30 3]) [] [] r O) ⟨[(0, (L u)), (3, (.one (.op 1900 0))), (4, (.one (.op 1901 0))), (5, (.one (.ol 1902))), (22, (L s22)), (23, (Z s23)), (24, (Z s24))], [(1900, (.var [(.d (.int .i64 t)), (.d (.int .i64 t1)), (.d (.sl t2))])), (1901, (.var [(.d (.int .i64 s4)), (.d (.int .i64 s41)), .e0])), (1902, (.tr 30 3 kids))]⟩
theorem U0q {r : AV} {O : List (Nat × Ob)} {u s22 : LL} {s23 s24 t t1 : Int} {t2 : LL} {s4 s41 : Int} {kids : LL} (h : ifB (decide (s24 < s23))
 (∃ m : Nat, s24 = (↑m : Int) ∧ ∃ n n1 : Int, ∃ xs : LL, (s22[m]?) = some (r3 n n1 xs) ∧ ∃ n2 n3 : Int, ∃ xs1 : LL, XC pg 145 [L u, .dat (r3 n n1 xs)] [] (g3 n2 n3 0) [(0, .tr 30 3 xs1)] ∧ Do ((kids.length + List.length [(r3 n2 n3 xs1)]) * 40 ≤ 140737488355328) ∧ t6q r O u s22 s23 (IntKind.wrap .i64 (s24 + (1 : Int))) t t1 t2 s4 s41 (kids ++ [(r3 n2 n3 xs1)]))
 ((g3 t t1 0) = r ∧ [(0, .tr 30 3 kids)] = O)) : t6q r O u s22 s23 s24 t t1 t2 s4 s41 kids := by
 unfold t6q CLk
 refine c2q (E := env) (hs := S8q) envOk a3q ?_
 exact a5q (by kernel_rfl) h
theorem a68q {u : LL} {t t1 : Int} {t2 : LL} {r : AV} {O : List (Nat × Ob)} (h : ∃ b : Bool, XC pg 100 [.dat (r3 t t1 t2)] [] (B b) [] ∧ ifB b
 (ifB (decide ((↑(t2.length) : Int) = (0 : Int)))
 (∃ n n1 : Int, ∃ xs : LL, XC pg 202 [L u, Z t1] [] (g3 n n1 0) [(0, .tr 30 3 xs)] ∧ (g3 n n1 0) = r ∧ [(0, .tr 30 3 xs)] = O)
 (t6q r O u t2 (↑(t2.length) : Int) (0 : Int) t t1 t2 (0 : Int) (0 : Int) []))
 (t6q r O u t2 (↑(t2.length) : Int) (0 : Int) t t1 t2 (0 : Int) (0 : Int) [])) : XC pg 145 [(L u), (.dat [(.int .i64 t), (.int .i64 t1), (.sl t2)])] [] r O :=
 b1q (E := env) (hs := S8q) (c := (a1q Tryz.f145)) (n := 38) (res := [.cell 4 30]) (rs := .s [.k (.i .i64), .k (.i .i64), .o 30 3]) (ks := []) (dir := []) envOk a3q rfl Tryz.func145 (by kernel_rfl) (by kernel_rfl) (by kernel_rfl) (by kernel_rfl) (a5q (by kernel_rfl) h)
def a0xq : a8q := ⟨[(3, ⟨[0, 3, 4, 5, 10, 11, 12], [], [], [], [], [], []⟩)], []⟩
def u9q (r : AV) (O : List (Nat × Ob)) (s s10 : LL) (s11 s12 : Int) (t t1 : Int) (t2 : LL) (s4 s41 : Int) (kids : LL) : Prop := CLk 48 env a0xq (a1q Tryz.f144) [1, 1, 0, 1, 0, 0] (c7q env [.cell 4 30] (.s [.k (.i .i64), .k (.i .i64), .o 30 3]) [] [] r O) ⟨[(0, (L s)), (3, (.one (.op 1900 0))), (4, (.one (.op 1901 0))), (5, (.one (.ol 1902))), (10, (L s10)), (11, (Z s11)), (12, (Z s12))], [(1900, (.var [(.d (.int .i64 t)), (.d (.int .i64 t1)), (.d (.sl t2))])), (1901, (.var [(.d (.int .i64 s4)), (.d (.int .i64 s41)), .e0])), (1902, (.tr 30 3 kids))]⟩
theorem a0qq {r : AV} {O : List (Nat × Ob)} {s s10 : LL} {s11 s12 t t1 : Int} {t2 : LL} {s4 s41 : Int} {kids : LL} (h : ifB (decide (s12 < s11))
 (∃ m : Nat, s12 = (↑m : Int) ∧ ∃ n n1 : Int, ∃ xs : LL, (s10[m]?) = some (r3 n n1 xs) ∧ ∃ n2 n3 : Int, ∃ xs1 : LL, XC pg 144 [L s, .dat (r3 n n1 xs)] [] (g3 n2 n3 0) [(0, .tr 30 3 xs1)] ∧ ∃ b : Bool, XC pg 98 [L s, Z t] [] (B b) [] ∧ ifB b
 (ifB (decide (n2 = t))
 (Do ((kids.length + xs1.length) * 40 ≤ 140737488355328) ∧ u9q r O s s10 s11 (IntKind.wrap .i64 (s12 + (1 : Int))) t t1 t2 s4 s41 (kids ++ xs1))
 (Do ((kids.length + List.length [(r3 n2 n3 xs1)]) * 40 ≤ 140737488355328) ∧ u9q r O s s10 s11 (IntKind.wrap .i64 (s12 + (1 : Int))) t t1 t2 s4 s41 (kids ++ [(r3 n2 n3 xs1)])))
 (Do ((kids.length + List.length [(r3 n2 n3 xs1)]) * 40 ≤ 140737488355328) ∧ u9q r O s s10 s11 (IntKind.wrap .i64 (s12 + (1 : Int))) t t1 t2 s4 s41 (kids ++ [(r3 n2 n3 xs1)])))
 (∃ b1 : Bool, XC pg 98 [L s, Z t] [] (B b1) [] ∧ ifB b1
 (∃ xs2 : LL, XC pg 201 [.one (.ol 2000), .one (.d (.fn 143))] [(2000, .tr 30 3 kids)] (.tup []) [(2000, .tr 30 3 xs2)] ∧ (g3 t t1 0) = r ∧ [(0, .tr 30 3 xs2)] = O)
 ((g3 t t1 0) = r ∧ [(0, .tr 30 3 kids)] = O))) : u9q r O s s10 s11 s12 t t1 t2 s4 s41 kids := by
 unfold u9q CLk
 refine c2q (E := env) (hs := a0xq) envOk a3q ?_
 exact a5q (by kernel_rfl) h
theorem aanq {s : LL} {t t1 : Int} {t2 : LL} {r : AV} {O : List (Nat × Ob)} (h : u9q r O s t2 (↑(t2.length) : Int) (0 : Int) t t1 t2 (0 : Int) (0 : Int) []) : XC pg 144 [(L s), (.dat [(.int .i64 t), (.int .i64 t1), (.sl t2)])] [] r O :=
 b1q (E := env) (hs := a0xq) (c := (a1q Tryz.f144)) (n := 48) (res := [.cell 4 30]) (rs := .s [.k (.i .i64), .k (.i .i64), .o 30 3]) (ks := []) (dir := []) envOk a3q rfl Tryz.func144 (by kernel_rfl) (by kernel_rfl) (by kernel_rfl) (by kernel_rfl) (a5q (by kernel_rfl) h)
def E3q : a8q := ⟨[(3, ⟨[0, 4, 5, 9, 10, 11], [], [], [], [], [], []⟩)], []⟩
def q9q (r : AV) (O : List (Nat × Ob)) (s s9 : LL) (s10 s11 : Int) (out : LL) : Prop := CLk 32 env E3q (a1q Tryz.f196) [1, 1, 0, 1, 0, 0] (c7q env [.cell 4 39] (.s [.o 85 7]) [] [] r O) ⟨[(0, (L s)), (4, (.one (.op 1900 0))), (5, (.one (.ol 1901))), (9, (L s9)), (10, (Z s10)), (11, (Z s11))], [(1900, (.var [.e0])), (1901, (.tr 85 7 out))]⟩
theorem H1q {r : AV} {O : List (Nat × Ob)} {s s9 : LL} {s10 s11 : Int} {out : LL} (h : ifB (decide (s11 < s10))
 (∃ m : Nat, s11 = (↑m : Int) ∧ ∃ b : Bool, ∃ n n1 : Int, ∃ xs : LL, ∃ n2 n3 : Int, ∃ xs1 : LL, (s9[m]?) = some (r7 b n n1 xs n2 n3 xs1) ∧ ∃ b1 : Bool, ∃ n4 n5 : Int, ∃ xs2 : LL, ∃ n6 n7 : Int, ∃ xs3 : LL, XC pg 136 [L s, B b, .dat (r3 n n1 xs), .dat (r3 n2 n3 xs1)] [] (g7 b1 n4 n5 0 n6 n7 1) [(0, .tr 30 3 xs2), (1, .tr 30 3 xs3)] ∧ Do ((out.length + List.length [(r7 b1 n4 n5 xs2 n6 n7 xs3)]) * 88 ≤ 140737488355328) ∧ q9q r O s s9 s10 (IntKind.wrap .i64 (s11 + (1 : Int))) (out ++ [(r7 b1 n4 n5 xs2 n6 n7 xs3)]))
 (∃ xs4 : LL, XC pg 235 [.one (.ol 2000), .one (.d (.fn 135))] [(2000, .tr 85 7 out)] (.tup []) [(2000, .tr 85 7 xs4)] ∧ ∃ xs5 : LL, XC pg 236 [.one (.ol 2000), .one (.d (.fn 71))] [(2000, .tr 85 7 xs4)] (.one (.ol 0)) [(0, .tr 85 7 xs5)] ∧ (.agg [.ol 0]) = r ∧ [(0, .tr 85 7 xs5)] = O)) : q9q r O s s9 s10 s11 out := by
 unfold q9q CLk
 refine c2q (E := env) (hs := E3q) envOk a3q ?_
 exact a5q (by kernel_rfl) h
theorem a2Vq {s list : LL} {r : AV} {O : List (Nat × Ob)} (h : q9q r O s list (↑(list.length) : Int) (0 : Int) []) : XC pg 196 [(L s), (L list)] [] r O :=
 b1q (E := env) (hs := E3q) (c := (a1q Tryz.f196)) (n := 32) (res := [.cell 4 39]) (rs := .s [.o 85 7]) (ks := []) (dir := []) envOk a3q rfl Tryz.func196 (by kernel_rfl) (by kernel_rfl) (by kernel_rfl) (by kernel_rfl) (a5q (by kernel_rfl) h)
def s8q : a8q := ⟨[(3, ⟨[3, 10, 11, 12], [], [], [], [], [], []⟩), (6, ⟨[3, 10, 11, 12, 23, 24, 25], [], [], [], [], [], []⟩)], []⟩
def o4q (r : AV) (O : List (Nat × Ob)) (s10 : LL) (s11 s12 : Int) (out : LL) : Prop := CLk 35 env s8q (a1q Tryz.f156) [1, 1, 0, 1, 0, 0] (c7q env [.tmp 2] (.o 3 1) [] [] r O) ⟨[(3, (.one (.ol 1900))), (10, (L s10)), (11, (Z s11)), (12, (Z s12))], [(1900, (.tr 3 1 out))]⟩
def q6q (r : AV) (O : List (Nat × Ob)) (s10 : LL) (s11 s12 : Int) (s24 s25 : Int) (out s23 : LL) : Prop := CLk 35 env s8q (a1q Tryz.f156) [1, 1, 0, 1, 0, 0, 1, 1, 0, 0, 1, 1, 0, 0] (c7q env [.tmp 2] (.o 3 1) [] [] r O) ⟨[(3, (.one (.ol 1900))), (10, (L s10)), (11, (Z s11)), (12, (Z s12)), (23, (.one (.ol 1901))), (24, (Z s24)), (25, (Z s25))], [(1900, (.tr 3 1 out)), (1901, (.tr 3 1 s23))]⟩
theorem I6q {r : AV} {O : List (Nat × Ob)} {s10 : LL} {s11 s12 : Int} {out : LL} (h : ifB (decide (s12 < s11))
 (∃ m : Nat, s12 = (↑m : Int) ∧ ∃ b : Bool, ∃ n n1 : Int, ∃ xs : LL, ∃ n2 n3 : Int, ∃ xs1 : LL, (s10[m]?) = some (r7 b n n1 xs n2 n3 xs1) ∧ ∃ xs2 : LL, XC pg 119 [.dat (r3 n n1 xs)] [] (.one (.ol 0)) [(0, .tr 3 1 xs2)] ∧ ∃ xs3 : LL, XC pg 119 [.dat (r3 n2 n3 xs1)] [] (.one (.ol 0)) [(0, .tr 3 1 xs3)] ∧ ∃ xs4 : LL, XC pg 206 [L [[.sl xs2], [.sl xs3]]] [] (.one (.ol 0)) [(0, .tr 3 1 xs4)] ∧ q6q r O s10 s11 s12 (↑(xs4.length) : Int) (0 : Int) out xs4)
 ((.one (.ol 0)) = r ∧ [(0, .tr 3 1 out)] = O)) : o4q r O s10 s11 s12 out := by
 unfold o4q CLk
 refine c2q (E := env) (hs := s8q) envOk a3q ?_
 exact a5q (by kernel_rfl) h
theorem I2q {r : AV} {O : List (Nat × Ob)} {s10 : LL} {s11 s12 s24 s25 : Int} {out s23 : LL} (h : ifB (decide (s25 < s24))
 (∃ m : Nat, s25 = (↑m : Int) ∧ Do (m < s23.length) ∧ ∃ n : Nat, (m * (1 : Nat)) = (n * (1 : Nat)) ∧ ∃ n1 : Int, (s23[n]?) = some [.int .i64 n1] ∧ ∃ xs : LL, XC pg 178 [L out, Z n1] [] (.one (.ol 0)) [(0, .tr 3 1 xs)] ∧ q6q r O s10 s11 s12 s24 (IntKind.wrap .i64 (s25 + (1 : Int))) xs s23)
 (o4q r O s10 s11 (IntKind.wrap .i64 (s12 + (1 : Int))) out)) : q6q r O s10 s11 s12 s24 s25 out s23 := by
 unfold q6q CLk
 refine c2q (E := env) (hs := s8q) envOk a3q ?_
 exact a5q (by kernel_rfl) h
theorem a2Pq {c : LL} {r : AV} {O : List (Nat × Ob)} (h : o4q r O c (↑(c.length) : Int) (0 : Int) []) : XC pg 156 [(.dat [(.sl c)])] [] r O :=
 b1q (E := env) (hs := s8q) (c := (a1q Tryz.f156)) (n := 35) (res := [.tmp 2]) (rs := .o 3 1) (ks := []) (dir := []) envOk a3q rfl Tryz.func156 (by kernel_rfl) (by kernel_rfl) (by kernel_rfl) (by kernel_rfl) (a5q (by kernel_rfl) h)
def o2q : a8q := ⟨[(3, ⟨[1, 4, 5, 10, 11, 12], [], [], [(5, (0, (85, 7)))], [], [], []⟩)], []⟩
def i6q (r : AV) (O : List (Nat × Ob)) (s10 : LL) (s11 s12 : Int) (o2000 out : LL) : Prop := CLk 34 env o2q (a1q Tryz.f158) [1, 1, 0, 1, 0, 0] (c7q env [.cell 4 39] (.s [.o 85 7]) [(2000, (true)), (2001, (false))] [2000] r O) ⟨[(1, (.one (.clo 197 [(2000, 0)]))), (4, (.one (.op 1900 0))), (5, (.one (.op 1901 0))), (10, (L s10)), (11, (Z s11)), (12, (Z s12))], [(2000, (.var [(.ol 1902)])), (1900, (.var [.e0])), (1901, (.var [(.ol 1903)])), (1902, (.tr 3 1 o2000)), (1903, (.tr 85 7 out))]⟩
theorem r0q {r : AV} {O : List (Nat × Ob)} {s10 : LL} {s11 s12 : Int} {o2000 out : LL} (h : ifB (decide (s12 < s11))
 (∃ m : Nat, s12 = (↑m : Int) ∧ ∃ b : Bool, ∃ n n1 : Int, ∃ xs : LL, ∃ n2 n3 : Int, ∃ xs1 : LL, (s10[m]?) = some (r7 b n n1 xs n2 n3 xs1) ∧ ∃ n4 n5 : Int, ∃ xs2 xs3 : LL, XC pg 207 [.dat (r3 n n1 xs), .one (.clo 197 [(2000, 0)])] [(2000, .var [.ol 2001]), (2001, .tr 3 1 o2000)] (g3 n4 n5 0) [(2000, .var [.ol 1]), (0, .tr 30 3 xs2), (1, .tr 3 1 xs3)] ∧ ∃ n6 n7 : Int, ∃ xs4 xs5 : LL, XC pg 207 [.dat (r3 n2 n3 xs1), .one (.clo 197 [(2000, 0)])] [(2000, .var [.ol 2001]), (2001, .tr 3 1 xs3)] (g3 n6 n7 0) [(2000, .var [.ol 1]), (0, .tr 30 3 xs4), (1, .tr 3 1 xs5)] ∧ Do ((out.length + List.length [(r7 b n4 n5 xs2 n6 n7 xs4)]) * 88 ≤ 140737488355328) ∧ i6q r O s10 s11 (IntKind.wrap .i64 (s12 + (1 : Int))) xs5 (out ++ [(r7 b n4 n5 xs2 n6 n7 xs4)]))
 ((.agg [.ol 0]) = r ∧ [(2000, .var [.ol 1]), (0, .tr 85 7 out), (1, .tr 3 1 o2000)] = O)) : i6q r O s10 s11 s12 o2000 out := by
 unfold i6q CLk
 refine c2q (E := env) (hs := o2q) envOk a3q ?_
 exact a5q (by kernel_rfl) h
theorem F4q {c o2000 : LL} {r : AV} {O : List (Nat × Ob)} (h : i6q r O c (↑(c.length) : Int) (0 : Int) o2000 []) : XC pg 158 [(.dat [(.sl c)]), (.one (.clo 197 [(2000, 0)]))] [(2000, (.var [(.ol 2001)])), (2001, (.tr 3 1 o2000))] r O :=
 b1q (E := env) (hs := o2q) (c := (a1q Tryz.f158)) (n := 34) (res := [.cell 4 39]) (rs := .s [.o 85 7]) (ks := [(2000, (true)), (2001, (false))]) (dir := [2000]) envOk a3q rfl Tryz.func158 (by kernel_rfl) (by kernel_rfl) (by kernel_rfl) (by kernel_rfl) (a5q (by kernel_rfl) h)
def O8q : a8q := ⟨[(4, ⟨[0, 1, 5], [], [], [], [], [], []⟩)], []⟩
def w9q (r : AV) (O : List (Nat × Ob)) (a b : LL) (i : Int) : Prop := CLk 27 env O8q (a1q Tryz.f125) [1, 1, 0, 1, 0, 0] (c7q env [.tmp 4] (.c .b) [] [] r O) ⟨[(0, (L a)), (1, (L b)), (5, (Z i))], []⟩
theorem Q4q {r : AV} {O : List (Nat × Ob)} {a b : LL} {i : Int} (h : ifB (decide (i < (↑(a.length) : Int)))
 (∃ m : Nat, i = (↑m : Int) ∧ ∃ n n1 : Int, ∃ xs : LL, (a[m]?) = some (r3 n n1 xs) ∧ ∃ m1 : Nat, i = (↑m1 : Int) ∧ ∃ n2 n3 : Int, ∃ xs1 : LL, (b[m1]?) = some (r3 n2 n3 xs1) ∧ ∃ b2 : Bool, XC pg 54 [.dat (r3 n n1 xs), .dat (r3 n2 n3 xs1)] [] (B b2) [] ∧ ifB (!b2)
 ((B (false)) = r ∧ [] = O)
 (w9q r O a b (IntKind.wrap .i64 (i + (1 : Int)))))
 ((B (true)) = r ∧ [] = O)) : w9q r O a b i := by
 unfold w9q CLk
 refine c2q (E := env) (hs := O8q) envOk a3q ?_
 exact a5q (by kernel_rfl) h
theorem a5Eq {a b : LL} {r : AV} {O : List (Nat × Ob)} (h : ifB (decide ((↑(a.length) : Int) ≠ (↑(b.length) : Int)))
 ((B (false)) = r ∧ [] = O)
 (w9q r O a b (0 : Int))) : XC pg 125 [(L a), (L b)] [] r O :=
 b1q (E := env) (hs := O8q) (c := (a1q Tryz.f125)) (n := 27) (res := [.tmp 4]) (rs := .c .b) (ks := []) (dir := []) envOk a3q rfl Tryz.func125 (by kernel_rfl) (by kernel_rfl) (by kernel_rfl) (by kernel_rfl) (a5q (by kernel_rfl) h)
def Y7q : a8q := ⟨[(2, ⟨[0, 3], [], [], [], [], [], []⟩)], []⟩
def r7q (r : AV) (O : List (Nat × Ob)) (s : LL) (i : Int) : Prop := CLk 62 env Y7q (a1q Tryz.f166) [1, 0, 1, 0, 0] (c7q env [.tmp 2] (.c .b) [] [] r O) ⟨[(0, (L s)), (3, (Z i))], []⟩
theorem X3q {r : AV} {O : List (Nat × Ob)} {s : LL} {i : Int} (h : ifB (decide (i < (↑(s.length) : Int)))
 (∃ m : Nat, i = (↑m : Int) ∧ ∃ q : ByteArray, ∃ n : Int, ∃ b : Bool, (s[m]?) = some [.str q, .int .i64 n, .bool b] ∧ ∃ b1 : Bool, XC pg 211 [T q] [] (B b1) [] ∧ ifB (!b1)
 ((B (false)) = r ∧ [] = O)
 (∃ m1 : Nat, i = (↑m1 : Int) ∧ ∃ q1 : ByteArray, ∃ n1 : Int, ∃ b2 : Bool, (s[m1]?) = some [.str q1, .int .i64 n1, .bool b2] ∧ ∃ n2 : Int, XC pg 212 [L s, T q1] [] (Z n2) [] ∧ ifB (decide (n2 ≠ i))
 ((B (false)) = r ∧ [] = O)
 (∃ m2 : Nat, i = (↑m2 : Int) ∧ ∃ q2 : ByteArray, ∃ n3 : Int, ∃ b3 : Bool, (s[m2]?) = some [.str q2, .int .i64 n3, .bool b3] ∧ ∃ b4 : Bool, XC pg 64 [Z n3, Z (0 : Int), Z (3 : Int)] [] (B b4) [] ∧ ifB (!b4)
 ((B (false)) = r ∧ [] = O)
 (∃ m3 : Nat, i = (↑m3 : Int) ∧ ∃ q3 : ByteArray, ∃ n4 : Int, ∃ b5 : Bool, (s[m3]?) = some [.str q3, .int .i64 n4, .bool b5] ∧ ifB b5
 (∃ m4 : Nat, i = (↑m4 : Int) ∧ ∃ q4 : ByteArray, ∃ n5 : Int, ∃ b6 : Bool, (s[m4]?) = some [.str q4, .int .i64 n5, .bool b6] ∧ ifB (decide (n5 ≠ (2 : Int)))
 ((B (false)) = r ∧ [] = O)
 (r7q r O s (IntKind.wrap .i64 (i + (1 : Int)))))
 (r7q r O s (IntKind.wrap .i64 (i + (1 : Int))))))))
 (∃ b7 : Bool, XC pg 64 [Z (↑(s.length) : Int), Z (1 : Int), Z (8 : Int)] [] (B b7) [] ∧ ifB b7
 (∃ m5 : Nat, (0 : Int) = (↑m5 : Int) ∧ ∃ q5 : ByteArray, ∃ n6 : Int, ∃ b8 : Bool, (s[m5]?) = some [.str q5, .int .i64 n6, .bool b8] ∧ (B (decide (q5 = { data := #[(116 : UInt8), (116 : UInt8)] }) && (decide (n6 = (0 : Int)) && decide (b8 = false)))) = r ∧ [] = O)
 ((B (false)) = r ∧ [] = O))) : r7q r O s i := by
 unfold r7q CLk
 refine c2q (E := env) (hs := Y7q) envOk a3q ?_
 exact a5q (by kernel_rfl) h
theorem a7Dq {s : LL} {r : AV} {O : List (Nat × Ob)} (h : r7q r O s (0 : Int)) : XC pg 166 [(L s)] [] r O :=
 b1q (E := env) (hs := Y7q) (c := (a1q Tryz.f166)) (n := 62) (res := [.tmp 2]) (rs := .c .b) (ks := []) (dir := []) envOk a3q rfl Tryz.func166 (by kernel_rfl) (by kernel_rfl) (by kernel_rfl) (by kernel_rfl) (a5q (by kernel_rfl) h)
def a04q : a8q := ⟨[(3, ⟨[1, 3, 4], [], [], [], [], [], []⟩)], []⟩
def A8q (r : AV) (O : List (Nat × Ob)) (n i : Int) (t t1 : Int) (t2 : LL) : Prop := CLk 21 env a04q (a1q Tryz.f167) [1, 1, 0, 1, 0, 0] (c7q env [.tmp 2] (.c (.i .i64)) [] [] r O) ⟨[(1, (.one (.op 1900 0))), (3, (Z n)), (4, (Z i))], [(1900, (.var [(.d (.int .i64 t)), (.d (.int .i64 t1)), (.d (.sl t2))]))]⟩
theorem Z1q {r : AV} {O : List (Nat × Ob)} {n i t t1 : Int} {t2 : LL} (h : ifB (decide (i < (↑(t2.length) : Int)))
 (∃ m : Nat, i = (↑m : Int) ∧ ∃ n1 n2 : Int, ∃ xs : LL, (t2[m]?) = some (r3 n1 n2 xs) ∧ ∃ n3 : Int, XC pg 167 [.dat (r3 n1 n2 xs)] [] (Z n3) [] ∧ A8q r O (IntKind.wrap .i64 (n + n3)) (IntKind.wrap .i64 (i + (1 : Int))) t t1 t2)
 ((Z n) = r ∧ [] = O)) : A8q r O n i t t1 t2 := by
 unfold A8q CLk
 refine c2q (E := env) (hs := a04q) envOk a3q ?_
 exact a5q (by kernel_rfl) h
theorem a7Wq {t t1 : Int} {t2 : LL} {r : AV} {O : List (Nat × Ob)} (h : A8q r O (1 : Int) (0 : Int) t t1 t2) : XC pg 167 [(.dat [(.int .i64 t), (.int .i64 t1), (.sl t2)])] [] r O :=
 b1q (E := env) (hs := a04q) (c := (a1q Tryz.f167)) (n := 21) (res := [.tmp 2]) (rs := .c (.i .i64)) (ks := []) (dir := []) envOk a3q rfl Tryz.func167 (by kernel_rfl) (by kernel_rfl) (by kernel_rfl) (by kernel_rfl) (a5q (by kernel_rfl) h)
def O1q : a8q := ⟨[(6, ⟨[0, 3, 5], [], [], [], [], [], []⟩)], []⟩
def h9q (r : AV) (O : List (Nat × Ob)) (s0 : LL) (s5 s3 s31 : Int) (s32 : LL) : Prop := CLk 117 env O1q (a1q Tryz.f168) [1, 1, 1, 0, 1, 0, 0] (c7q env [.tmp 4] (.c .b) [] [] r O) ⟨[(0, (L s0)), (3, (.one (.op 1900 0))), (5, (Z s5))], [(1900, (.var [(.d (.int .i64 s3)), (.d (.int .i64 s31)), (.d (.sl s32))]))]⟩
theorem Q6q {r : AV} {O : List (Nat × Ob)} {s0 : LL} {s5 s3 s31 : Int} {s32 : LL} (h : ifB (decide (s5 < (↑(s32.length) : Int)))
 (∃ m : Nat, s3 = (↑m : Int) ∧ ∃ q : ByteArray, ∃ n : Int, ∃ b : Bool, (s0[m]?) = some [.str q, .int .i64 n, .bool b] ∧ ifB b
 (∃ m1 : Nat, s5 = (↑m1 : Int) ∧ ∃ n1 n2 : Int, ∃ xs : LL, (s32[m1]?) = some (r3 n1 n2 xs) ∧ ifB (decide (n1 = s3))
 ((B (false)) = r ∧ [] = O)
 (ifB (decide ((0 : Int) < s5))
 (∃ m2 : Nat, s5 = (↑m2 : Int) ∧ ∃ n3 n4 : Int, ∃ xs1 : LL, (s32[m2]?) = some (r3 n3 n4 xs1) ∧ ∃ m3 : Nat, (IntKind.wrap .i64 (s5 - (1 : Int))) = (↑m3 : Int) ∧ ∃ n5 n6 : Int, ∃ xs2 : LL, (s32[m3]?) = some (r3 n5 n6 xs2) ∧ ∃ b1 : Bool, XC pg 154 [.dat (r3 n3 n4 xs1), .dat (r3 n5 n6 xs2)] [] (B b1) [] ∧ ifB b1
 ((B (false)) = r ∧ [] = O)
 (∃ m4 : Nat, s5 = (↑m4 : Int) ∧ ∃ n7 n8 : Int, ∃ xs3 : LL, (s32[m4]?) = some (r3 n7 n8 xs3) ∧ ∃ b2 : Bool, XC pg 168 [L s0, .dat (r3 n7 n8 xs3)] [] (B b2) [] ∧ ifB (!b2)
 ((B (false)) = r ∧ [] = O)
 (h9q r O s0 (IntKind.wrap .i64 (s5 + (1 : Int))) s3 s31 s32)))
 (∃ m5 : Nat, s5 = (↑m5 : Int) ∧ ∃ n9 n10 : Int, ∃ xs4 : LL, (s32[m5]?) = some (r3 n9 n10 xs4) ∧ ∃ b3 : Bool, XC pg 168 [L s0, .dat (r3 n9 n10 xs4)] [] (B b3) [] ∧ ifB (!b3)
 ((B (false)) = r ∧ [] = O)
 (h9q r O s0 (IntKind.wrap .i64 (s5 + (1 : Int))) s3 s31 s32))))
 (∃ m6 : Nat, s5 = (↑m6 : Int) ∧ ∃ n11 n12 : Int, ∃ xs5 : LL, (s32[m6]?) = some (r3 n11 n12 xs5) ∧ ∃ b4 : Bool, XC pg 168 [L s0, .dat (r3 n11 n12 xs5)] [] (B b4) [] ∧ ifB (!b4)
 ((B (false)) = r ∧ [] = O)
 (h9q r O s0 (IntKind.wrap .i64 (s5 + (1 : Int))) s3 s31 s32)))
 ((B (true)) = r ∧ [] = O)) : h9q r O s0 s5 s3 s31 s32 := by
 unfold h9q CLk
 refine c2q (E := env) (hs := O1q) envOk a3q ?_
 exact a5q (by kernel_rfl) h
theorem a5zq {p : LL} {p1 p2 : Int} {p3 : LL} {r : AV} {O : List (Nat × Ob)} (h : ifB (decide (p1 = (-1 : Int)))
 (∃ b : Bool, XC pg 64 [Z p2, Z (0 : Int), Z (99 : Int)] [] (B b) [] ∧ ifB b
 ((B (decide ((↑(p3.length) : Int) = (0 : Int)))) = r ∧ [] = O)
 ((B (false)) = r ∧ [] = O))
 (∃ b1 : Bool, XC pg 64 [Z p1, Z (0 : Int), Z (IntKind.wrap .i64 ((↑(p.length) : Int) - (1 : Int)))] [] (B b1) [] ∧ ifB (!b1)
 ((B (false)) = r ∧ [] = O)
 (ifB (decide (p2 ≠ (0 : Int)))
 ((B (false)) = r ∧ [] = O)
 (∃ m : Nat, p1 = (↑m : Int) ∧ ∃ q : ByteArray, ∃ n : Int, ∃ b2 : Bool, (p[m]?) = some [.str q, .int .i64 n, .bool b2] ∧ ifB (!b2)
 (∃ m1 : Nat, p1 = (↑m1 : Int) ∧ ∃ q1 : ByteArray, ∃ n1 : Int, ∃ b3 : Bool, (p[m1]?) = some [.str q1, .int .i64 n1, .bool b3] ∧ ifB (decide ((↑(p3.length) : Int) ≠ n1))
 ((B (false)) = r ∧ [] = O)
 (∃ m2 : Nat, p1 = (↑m2 : Int) ∧ ∃ q2 : ByteArray, ∃ n2 : Int, ∃ b4 : Bool, (p[m2]?) = some [.str q2, .int .i64 n2, .bool b4] ∧ ifB b4
 (ifB (decide ((↑(p3.length) : Int) < (2 : Int)))
 ((B (false)) = r ∧ [] = O)
 (h9q r O p (0 : Int) p1 p2 p3))
 (h9q r O p (0 : Int) p1 p2 p3)))
 (∃ m3 : Nat, p1 = (↑m3 : Int) ∧ ∃ q3 : ByteArray, ∃ n3 : Int, ∃ b5 : Bool, (p[m3]?) = some [.str q3, .int .i64 n3, .bool b5] ∧ ifB b5
 (ifB (decide ((↑(p3.length) : Int) < (2 : Int)))
 ((B (false)) = r ∧ [] = O)
 (h9q r O p (0 : Int) p1 p2 p3))
 (h9q r O p (0 : Int) p1 p2 p3)))))) : XC pg 168 [(L p), (.dat [(.int .i64 p1), (.int .i64 p2), (.sl p3)])] [] r O :=
 b1q (E := env) (hs := O1q) (c := (a1q Tryz.f168)) (n := 117) (res := [.tmp 4]) (rs := .c .b) (ks := []) (dir := []) envOk a3q rfl Tryz.func168 (by kernel_rfl) (by kernel_rfl) (by kernel_rfl) (by kernel_rfl) (a5q (by kernel_rfl) h)
def a0Mq : a8q := ⟨[(2, ⟨[0, 1, 4, 5], [], [], [], [], [], []⟩)], []⟩
def D4q (r : AV) (O : List (Nat × Ob)) (u : LL) (v i : Int) (s4 s41 : Int) : Prop := CLk 27 env a0Mq (a1q Tryz.f200) [1, 0, 1, 0, 0] (c7q env [.cell 4 30] (.d [(.i .i64), (.i .i64), .l]) [] [] r O) ⟨[(0, (L u)), (1, (Z v)), (4, (.one (.op 1900 0))), (5, (Z i))], [(1900, (.var [(.d (.int .i64 s4)), (.d (.int .i64 s41)), .e0]))]⟩
theorem a0pq {r : AV} {O : List (Nat × Ob)} {u : LL} {v i s4 s41 : Int} (h : ifB (decide (i < (↑(u.length) : Int)))
 (∃ m : Nat, i = (↑m : Int) ∧ ∃ n n1 n2 : Int, ∃ xs : LL, (u[m]?) = some [.int .i64 n, .int .i64 n1, .int .i64 n2, .sl xs] ∧ ifB (decide (n = v))
 (∃ m1 : Nat, i = (↑m1 : Int) ∧ ∃ n3 n4 n5 : Int, ∃ xs1 : LL, (u[m1]?) = some [.int .i64 n3, .int .i64 n4, .int .i64 n5, .sl xs1] ∧ ∃ n6 n7 : Int, ∃ xs2 : LL, XC pg 109 [.dat (r3 n4 n5 xs1)] [] (.dat (r3 n6 n7 xs2)) [] ∧ (.dat (r3 n6 n7 xs2)) = r ∧ [] = O)
 (D4q r O u v (IntKind.wrap .i64 (i + (1 : Int))) s4 s41))
 (∃ n8 n9 : Int, ∃ xs3 : LL, XC pg 153 [Z v] [] (.dat (r3 n8 n9 xs3)) [] ∧ (.dat (r3 n8 n9 xs3)) = r ∧ [] = O)) : D4q r O u v i s4 s41 := by
 unfold D4q CLk
 refine c2q (E := env) (hs := a0Mq) envOk a3q ?_
 exact a5q (by kernel_rfl) h
theorem a9Cq {u : LL} {v : Int} {r : AV} {O : List (Nat × Ob)} (h : D4q r O u v (0 : Int) (0 : Int) (0 : Int)) : XC pg 200 [(L u), (Z v)] [] r O :=
 b1q (E := env) (hs := a0Mq) (c := (a1q Tryz.f200)) (n := 27) (res := [.cell 4 30]) (rs := .d [(.i .i64), (.i .i64), .l]) (ks := []) (dir := []) envOk a3q rfl Tryz.func200 (by kernel_rfl) (by kernel_rfl) (by kernel_rfl) (by kernel_rfl) (a5q (by kernel_rfl) h)
def aalq : a8q := ⟨[], []⟩
theorem a8xq {s : LL} {f : Int} {r : AV} {O : List (Nat × Ob)} (h : ∃ b : Bool, XC pg 64 [Z f, Z (0 : Int), Z (IntKind.wrap .i64 ((↑(s.length) : Int) - (1 : Int)))] [] (B b) [] ∧ ifB b
 (∃ m : Nat, f = (↑m : Int) ∧ ∃ q : ByteArray, ∃ n : Int, ∃ b1 : Bool, (s[m]?) = some [.str q, .int .i64 n, .bool b1] ∧ (B b1) = r ∧ [] = O)
 ((B (false)) = r ∧ [] = O)) : XC pg 151 [(L s), (Z f)] [] r O :=
 b1q (E := env) (hs := aalq) (c := (a1q Tryz.f151)) (n := 17) (res := [.tmp 4]) (rs := .c .b) (ks := []) (dir := []) envOk a3q rfl Tryz.func151 (by kernel_rfl) (by kernel_rfl) (by kernel_rfl) (by kernel_rfl) (a5q (by kernel_rfl) h)
def X7q : a8q := ⟨[(2, ⟨[0, 3, 5], [], [], [], [], [], []⟩)], []⟩
def A5q (r : AV) (O : List (Nat × Ob)) (list : LL) (at_ t t1 : Int) (t2 : LL) : Prop := CLk 36 env X7q (a1q Tryz.f199) [1, 1, 0, 0, 0] (c7q env [.tmp 4] (.b 30 3) [] [] r O) ⟨[(0, (L list)), (3, (.one (.op 1900 0))), (5, (Z at_))], [(1900, (.var [(.d (.int .i64 t)), (.d (.int .i64 t1)), (.d (.sl t2))]))]⟩
theorem Y6q {r : AV} {O : List (Nat × Ob)} {list : LL} {at_ t t1 : Int} {t2 : LL} (h : ifB (decide (at_ < (↑(list.length) : Int)))
 (∃ m : Nat, at_ = (↑m : Int) ∧ ∃ n n1 : Int, ∃ xs : LL, (list[m]?) = some (r3 n n1 xs) ∧ ∃ b : Bool, XC pg 154 [.dat (r3 t t1 t2), .dat (r3 n n1 xs)] [] (B b) [] ∧ ifB (!b)
 (A5q r O list (IntKind.wrap .i64 (at_ + (1 : Int))) t t1 t2)
 (∃ n2 : Nat, at_ = (↑n2 : Int) ∧ Do ((0 : Nat) ≤ n2 ∧ n2 ≤ list.length) ∧ Do (∀ (c : List Da), c ∈ list → c.length = TI.n { agg := true, n := (3 : Nat), b := (40 : Nat), el := none, fs := [some ((0 : Nat), (1 : Nat), false), some ((1 : Nat), (1 : Nat), false), some ((2 : Nat), (1 : Nat), false)], pr := (5 : Nat), ik := none }) ∧ Do (∀ (y : List Da), y ∈ List.drop (0 : Nat) (List.take n2 list) → y.length = Prod.fst ((3 : Nat), (40 : Nat), [At.d (Da.int IntKind.i64 (0 : Int)), At.d (Da.int IntKind.i64 (0 : Int)), At.e0])) ∧ Do ((List.length ([] : LL) + List.length (List.drop (0 : Nat) (List.take n2 list))) * 40 ≤ 140737488355328) ∧ Do ((List.length ([] ++ List.drop (0 : Nat) (List.take n2 list)) + List.length [(r3 t t1 t2)]) * 40 ≤ 140737488355328) ∧ ∃ n3 : Nat, at_ = (↑n3 : Int) ∧ Do (n3 ≤ list.length ∧ list.length ≤ list.length) ∧ Do (∀ (c : List Da), c ∈ list → c.length = TI.n { agg := true, n := (3 : Nat), b := (40 : Nat), el := none, fs := [some ((0 : Nat), (1 : Nat), false), some ((1 : Nat), (1 : Nat), false), some ((2 : Nat), (1 : Nat), false)], pr := (5 : Nat), ik := none }) ∧ Do (∀ (y : List Da), y ∈ List.drop n3 (List.take (list.length) list) → y.length = Prod.fst ((3 : Nat), (40 : Nat), [At.d (Da.int IntKind.i64 (0 : Int)), At.d (Da.int IntKind.i64 (0 : Int)), At.e0])) ∧ Do ((List.length ([] ++ List.drop (0 : Nat) (List.take n2 list) ++ [(r3 t t1 t2)]) + List.length (List.drop n3 (List.take (list.length) list))) * 40 ≤ 140737488355328) ∧ (.one (.ol 0)) = r ∧ [(0, .lst 30 3 ([] ++ List.drop (0 : Nat) (List.take n2 list) ++ [(r3 t t1 t2)] ++ List.drop n3 (List.take (list.length) list)))] = O))
 (∃ n4 : Nat, at_ = (↑n4 : Int) ∧ Do ((0 : Nat) ≤ n4 ∧ n4 ≤ list.length) ∧ Do (∀ (c : List Da), c ∈ list → c.length = TI.n { agg := true, n := (3 : Nat), b := (40 : Nat), el := none, fs := [some ((0 : Nat), (1 : Nat), false), some ((1 : Nat), (1 : Nat), false), some ((2 : Nat), (1 : Nat), false)], pr := (5 : Nat), ik := none }) ∧ Do (∀ (y : List Da), y ∈ List.drop (0 : Nat) (List.take n4 list) → y.length = Prod.fst ((3 : Nat), (40 : Nat), [At.d (Da.int IntKind.i64 (0 : Int)), At.d (Da.int IntKind.i64 (0 : Int)), At.e0])) ∧ Do ((List.length ([] : LL) + List.length (List.drop (0 : Nat) (List.take n4 list))) * 40 ≤ 140737488355328) ∧ Do ((List.length ([] ++ List.drop (0 : Nat) (List.take n4 list)) + List.length [(r3 t t1 t2)]) * 40 ≤ 140737488355328) ∧ ∃ n5 : Nat, at_ = (↑n5 : Int) ∧ Do (n5 ≤ list.length ∧ list.length ≤ list.length) ∧ Do (∀ (c : List Da), c ∈ list → c.length = TI.n { agg := true, n := (3 : Nat), b := (40 : Nat), el := none, fs := [some ((0 : Nat), (1 : Nat), false), some ((1 : Nat), (1 : Nat), false), some ((2 : Nat), (1 : Nat), false)], pr := (5 : Nat), ik := none }) ∧ Do (∀ (y : List Da), y ∈ List.drop n5 (List.take (list.length) list) → y.length = Prod.fst ((3 : Nat), (40 : Nat), [At.d (Da.int IntKind.i64 (0 : Int)), At.d (Da.int IntKind.i64 (0 : Int)), At.e0])) ∧ Do ((List.length ([] ++ List.drop (0 : Nat) (List.take n4 list) ++ [(r3 t t1 t2)]) + List.length (List.drop n5 (List.take (list.length) list))) * 40 ≤ 140737488355328) ∧ (.one (.ol 0)) = r ∧ [(0, .lst 30 3 ([] ++ List.drop (0 : Nat) (List.take n4 list) ++ [(r3 t t1 t2)] ++ List.drop n5 (List.take (list.length) list)))] = O)) : A5q r O list at_ t t1 t2 := by
 unfold A5q CLk
 refine c2q (E := env) (hs := X7q) envOk a3q ?_
 exact a5q (by kernel_rfl) h
theorem a84q {list : LL} {t t1 : Int} {t2 : LL} {r : AV} {O : List (Nat × Ob)} (h : A5q r O list (0 : Int) t t1 t2) : XC pg 199 [(L list), (.dat [(.int .i64 t), (.int .i64 t1), (.sl t2)])] [] r O :=
 b1q (E := env) (hs := X7q) (c := (a1q Tryz.f199)) (n := 36) (res := [.tmp 4]) (rs := .b 30 3) (ks := []) (dir := []) envOk a3q rfl Tryz.func199 (by kernel_rfl) (by kernel_rfl) (by kernel_rfl) (by kernel_rfl) (a5q (by kernel_rfl) h)
def T1q : a8q := ⟨[(4, ⟨[1, 2, 5], [], [], [], [], [], []⟩)], []⟩
def t5q (r : AV) (O : List (Nat × Ob)) (out : LL) (i t t1 : Int) (t2 : LL) : Prop := CLk 28 env T1q (a1q Tryz.f169) [1, 1, 0, 1, 0, 0] (c7q env [.tmp 4] (.c .l) [] [] r O) ⟨[(1, (L out)), (2, (.one (.op 1900 0))), (5, (Z i))], [(1900, (.var [(.d (.int .i64 t)), (.d (.int .i64 t1)), (.d (.sl t2))]))]⟩
theorem U5q {r : AV} {O : List (Nat × Ob)} {out : LL} {i t t1 : Int} {t2 : LL} (h : ifB (decide (i < (↑(t2.length) : Int)))
 (∃ m : Nat, i = (↑m : Int) ∧ ∃ n n1 : Int, ∃ xs : LL, (t2[m]?) = some (r3 n n1 xs) ∧ ∃ xs1 : LL, XC pg 169 [.dat (r3 n n1 xs), L out] [] (L xs1) [] ∧ t5q r O xs1 (IntKind.wrap .i64 (i + (1 : Int))) t t1 t2)
 ((L out) = r ∧ [] = O)) : t5q r O out i t t1 t2 := by
 unfold t5q CLk
 refine c2q (E := env) (hs := T1q) envOk a3q ?_
 exact a5q (by kernel_rfl) h
theorem a6eq {t t1 : Int} {t2 out : LL} {r : AV} {O : List (Nat × Ob)} (h : ifB (decide (t = (-1 : Int)))
 (∃ xs : LL, XC pg 213 [L out, Z t1] [] (L xs) [] ∧ t5q r O xs (0 : Int) t t1 t2)
 (t5q r O out (0 : Int) t t1 t2)) : XC pg 169 [(.dat [(.int .i64 t), (.int .i64 t1), (.sl t2)]), (L out)] [] r O :=
 b1q (E := env) (hs := T1q) (c := (a1q Tryz.f169)) (n := 28) (res := [.tmp 4]) (rs := .c .l) (ks := []) (dir := []) envOk a3q rfl Tryz.func169 (by kernel_rfl) (by kernel_rfl) (by kernel_rfl) (by kernel_rfl) (a5q (by kernel_rfl) h)
def Y9q : a8q := ⟨[(2, ⟨[0, 5, 6, 7], [], [], [], [], [], []⟩)], []⟩
def r5q (r : AV) (O : List (Nat × Ob)) (s s5 : LL) (s6 s7 : Int) : Prop := CLk 57 env Y9q (a1q Tryz.f179) [1, 0, 1, 0, 0] (c7q env [.tmp 2] (.c .b) [] [] r O) ⟨[(0, (L s)), (5, (L s5)), (6, (Z s6)), (7, (Z s7))], []⟩
theorem Z9q {r : AV} {O : List (Nat × Ob)} {s s5 : LL} {s6 s7 : Int} (h : ifB (decide (s7 < s6))
 (∃ m : Nat, s7 = (↑m : Int) ∧ ∃ q : ByteArray, ∃ n : Int, ∃ b : Bool, (s5[m]?) = some [.str q, .int .i64 n, .bool b] ∧ ∃ b1 : Bool, XC pg 218 [T q] [] (B b1) [] ∧ ifB (!b1)
 ((B (false)) = r ∧ [] = O)
 (∃ n1 : Int, XC pg 219 [L s, T q] [] (Z n1) [] ∧ ifB (decide (n1 ≠ s7))
 ((B (false)) = r ∧ [] = O)
 (∃ b2 : Bool, XC pg 134 [Z n, Z (0 : Int), Z (3 : Int)] [] (B b2) [] ∧ ifB (!b2)
 ((B (false)) = r ∧ [] = O)
 (ifB b
 (ifB (decide (n ≠ (2 : Int)))
 ((B (false)) = r ∧ [] = O)
 (r5q r O s s5 s6 (IntKind.wrap .i64 (s7 + (1 : Int)))))
 (r5q r O s s5 s6 (IntKind.wrap .i64 (s7 + (1 : Int))))))))
 (∃ b3 : Bool, XC pg 134 [Z (↑(s.length) : Int), Z (1 : Int), Z (8 : Int)] [] (B b3) [] ∧ ifB b3
 (∃ m1 : Nat, (0 : Int) = (↑m1 : Int) ∧ ∃ q1 : ByteArray, ∃ n2 : Int, ∃ b4 : Bool, (s[m1]?) = some [.str q1, .int .i64 n2, .bool b4] ∧ ifB (decide (q1 = { data := #[(116 : UInt8), (116 : UInt8)] }))
 (∃ m2 : Nat, (0 : Int) = (↑m2 : Int) ∧ ∃ q2 : ByteArray, ∃ n3 : Int, ∃ b5 : Bool, (s[m2]?) = some [.str q2, .int .i64 n3, .bool b5] ∧ (B (decide (n3 = (0 : Int)))) = r ∧ [] = O)
 ((B (false)) = r ∧ [] = O))
 ((B (false)) = r ∧ [] = O))) : r5q r O s s5 s6 s7 := by
 unfold r5q CLk
 refine c2q (E := env) (hs := Y9q) envOk a3q ?_
 exact a5q (by kernel_rfl) h
theorem a7Fq {s : LL} {r : AV} {O : List (Nat × Ob)} (h : r5q r O s s (↑(s.length) : Int) (0 : Int)) : XC pg 179 [(L s)] [] r O :=
 b1q (E := env) (hs := Y9q) (c := (a1q Tryz.f179)) (n := 57) (res := [.tmp 2]) (rs := .c .b) (ks := []) (dir := []) envOk a3q rfl Tryz.func179 (by kernel_rfl) (by kernel_rfl) (by kernel_rfl) (by kernel_rfl) (a5q (by kernel_rfl) h)
def a9uq : a8q := ⟨[], []⟩
theorem a8sq {t t1 : Int} {t2 : LL} {r : AV} {O : List (Nat × Ob)} (h : ∃ m : Int, XC pg 176 [.dat (r3 t t1 t2), .one (.clo 220 [(2000, 0)])] [(2000, .var [.d (.int .i64 (0 : Int))])] (.tup []) [(2000, .var [.d (.int .i64 m)])] ∧ (Z m) = r ∧ [] = O) : XC pg 180 [(.dat [(.int .i64 t), (.int .i64 t1), (.sl t2)])] [] r O :=
 b1q (E := env) (hs := a9uq) (c := (a1q Tryz.f180)) (n := 8) (res := [.tmp 2]) (rs := .c (.i .i64)) (ks := []) (dir := []) envOk a3q rfl Tryz.func180 (by kernel_rfl) (by kernel_rfl) (by kernel_rfl) (by kernel_rfl) (a5q (by kernel_rfl) h)
def T3q : a8q := ⟨[(6, ⟨[0, 3, 64, 65, 66], [], [], [], [], [], []⟩)], []⟩
def j2q (r : AV) (O : List (Nat × Ob)) (s0 s64 : LL) (s65 s66 : Int) (s3 s31 : Int) (s32 : LL) : Prop := CLk 105 env T3q (a1q Tryz.f181) [1, 1, 1, 0, 1, 0, 0] (c7q env [.tmp 4] (.c .b) [] [] r O) ⟨[(0, (L s0)), (3, (.one (.op 1900 0))), (64, (L s64)), (65, (Z s65)), (66, (Z s66))], [(1900, (.var [(.d (.int .i64 s3)), (.d (.int .i64 s31)), (.d (.sl s32))]))]⟩
theorem U2q {r : AV} {O : List (Nat × Ob)} {s0 s64 : LL} {s65 s66 s3 s31 : Int} {s32 : LL} (h : ifB (decide (s66 < s65))
 (∃ m : Nat, s66 = (↑m : Int) ∧ ∃ n n1 : Int, ∃ xs : LL, (s64[m]?) = some (r3 n n1 xs) ∧ ∃ b : Bool, XC pg 181 [L s0, .dat (r3 n n1 xs)] [] (B b) [] ∧ ifB (!b)
 ((B (false)) = r ∧ [] = O)
 (∃ m1 : Nat, s3 = (↑m1 : Int) ∧ ∃ q : ByteArray, ∃ n2 : Int, ∃ b1 : Bool, (s0[m1]?) = some [.str q, .int .i64 n2, .bool b1] ∧ ifB b1
 (ifB (decide (n = s3))
 ((B (false)) = r ∧ [] = O)
 (ifB (decide ((0 : Int) < s66))
 (∃ m2 : Nat, (IntKind.wrap .i64 (s66 - (1 : Int))) = (↑m2 : Int) ∧ ∃ n3 n4 : Int, ∃ xs1 : LL, (s32[m2]?) = some (r3 n3 n4 xs1) ∧ ∃ b2 : Bool, XC pg 171 [.dat (r3 n n1 xs), .dat (r3 n3 n4 xs1)] [] (B b2) [] ∧ ifB b2
 ((B (false)) = r ∧ [] = O)
 (j2q r O s0 s64 s65 (IntKind.wrap .i64 (s66 + (1 : Int))) s3 s31 s32))
 (j2q r O s0 s64 s65 (IntKind.wrap .i64 (s66 + (1 : Int))) s3 s31 s32)))
 (j2q r O s0 s64 s65 (IntKind.wrap .i64 (s66 + (1 : Int))) s3 s31 s32)))
 ((B (true)) = r ∧ [] = O)) : j2q r O s0 s64 s65 s66 s3 s31 s32 := by
 unfold j2q CLk
 refine c2q (E := env) (hs := T3q) envOk a3q ?_
 exact a5q (by kernel_rfl) h
theorem a66q {p : LL} {p1 p2 : Int} {p3 : LL} {r : AV} {O : List (Nat × Ob)} (h : ∃ b : Bool, XC pg 100 [.dat (r3 p1 p2 p3)] [] (B b) [] ∧ ifB b
 (∃ b1 : Bool, XC pg 134 [Z p2, Z (0 : Int), Z (99 : Int)] [] (B b1) [] ∧ ifB b1
 ((B (decide ((↑(p3.length) : Int) = (0 : Int)))) = r ∧ [] = O)
 ((B (false)) = r ∧ [] = O))
 (∃ b2 : Bool, XC pg 161 [L p, Z p1] [] (B b2) [] ∧ ifB (!b2)
 ((B (false)) = r ∧ [] = O)
 (ifB (decide (p2 ≠ (0 : Int)))
 ((B (false)) = r ∧ [] = O)
 (∃ m : Nat, p1 = (↑m : Int) ∧ ∃ q : ByteArray, ∃ n : Int, ∃ b3 : Bool, (p[m]?) = some [.str q, .int .i64 n, .bool b3] ∧ ifB (!b3)
 (∃ m1 : Nat, p1 = (↑m1 : Int) ∧ ∃ q1 : ByteArray, ∃ n1 : Int, ∃ b4 : Bool, (p[m1]?) = some [.str q1, .int .i64 n1, .bool b4] ∧ ifB (decide ((↑(p3.length) : Int) ≠ n1))
 ((B (false)) = r ∧ [] = O)
 (∃ m2 : Nat, p1 = (↑m2 : Int) ∧ ∃ q2 : ByteArray, ∃ n2 : Int, ∃ b5 : Bool, (p[m2]?) = some [.str q2, .int .i64 n2, .bool b5] ∧ ifB b5
 (ifB (decide ((↑(p3.length) : Int) < (2 : Int)))
 ((B (false)) = r ∧ [] = O)
 (j2q r O p p3 (↑(p3.length) : Int) (0 : Int) p1 p2 p3))
 (j2q r O p p3 (↑(p3.length) : Int) (0 : Int) p1 p2 p3)))
 (∃ m3 : Nat, p1 = (↑m3 : Int) ∧ ∃ q3 : ByteArray, ∃ n3 : Int, ∃ b6 : Bool, (p[m3]?) = some [.str q3, .int .i64 n3, .bool b6] ∧ ifB b6
 (ifB (decide ((↑(p3.length) : Int) < (2 : Int)))
 ((B (false)) = r ∧ [] = O)
 (j2q r O p p3 (↑(p3.length) : Int) (0 : Int) p1 p2 p3))
 (j2q r O p p3 (↑(p3.length) : Int) (0 : Int) p1 p2 p3)))))) : XC pg 181 [(L p), (.dat [(.int .i64 p1), (.int .i64 p2), (.sl p3)])] [] r O :=
 b1q (E := env) (hs := T3q) (c := (a1q Tryz.f181)) (n := 105) (res := [.tmp 4]) (rs := .c .b) (ks := []) (dir := []) envOk a3q rfl Tryz.func181 (by kernel_rfl) (by kernel_rfl) (by kernel_rfl) (by kernel_rfl) (a5q (by kernel_rfl) h)
def a8Tq : a8q := ⟨[], []⟩
theorem a1Yq {t t1 : Int} {t2 : LL} {r : AV} {O : List (Nat × Ob)} (h : (B (decide (t = (-1 : Int)))) = r ∧ [] = O) : XC pg 100 [(.dat [(.int .i64 t), (.int .i64 t1), (.sl t2)])] [] r O :=
 b1q (E := env) (hs := a8Tq) (c := (a1q Tryz.f100)) (n := 6) (res := [.tmp 2]) (rs := .c .b) (ks := []) (dir := []) envOk a3q rfl Tryz.func100 (by kernel_rfl) (by kernel_rfl) (by kernel_rfl) (by kernel_rfl) (a5q (by kernel_rfl) h)
def aawq : a8q := ⟨[], []⟩
theorem a2qq {u : LL} {v : Int} {r : AV} {O : List (Nat × Ob)} (h : ∃ n n1 : Int, ∃ xs : LL, ∃ b : Bool, XC pg 232 [L u, Z v] [] (.tup [.dat (r3 n n1 xs), B b]) [] ∧ ifB (!b)
 (∃ n2 n3 : Int, XC pg 209 [Z v] [] (.agg [.d (.int .i64 n2), .d (.int .i64 n3), .e0]) [] ∧ (g3 n2 n3 0) = r ∧ [(0, .tr 30 3 [])] = O)
 (∃ n4 n5 : Int, ∃ xs1 : LL, XC pg 117 [.dat (r3 n n1 xs)] [] (g3 n4 n5 0) [(0, .tr 30 3 xs1)] ∧ (g3 n4 n5 0) = r ∧ [(0, .tr 30 3 xs1)] = O)) : XC pg 202 [(L u), (Z v)] [] r O :=
 b1q (E := env) (hs := aawq) (c := (a1q Tryz.f202)) (n := 19) (res := [.cell 4 30]) (rs := .s [.k (.i .i64), .k (.i .i64), .o 30 3]) (ks := []) (dir := []) envOk a3q rfl Tryz.func202 (by kernel_rfl) (by kernel_rfl) (by kernel_rfl) (by kernel_rfl) (a5q (by kernel_rfl) h)
def aajq : a8q := ⟨[], []⟩
theorem a8eq {s : LL} {f : Int} {r : AV} {O : List (Nat × Ob)} (h : ∃ b : Bool, XC pg 161 [L s, Z f] [] (B b) [] ∧ ifB b
 (∃ m : Nat, f = (↑m : Int) ∧ ∃ q : ByteArray, ∃ n : Int, ∃ b1 : Bool, (s[m]?) = some [.str q, .int .i64 n, .bool b1] ∧ (B b1) = r ∧ [] = O)
 ((B (false)) = r ∧ [] = O)) : XC pg 98 [(L s), (Z f)] [] r O :=
 b1q (E := env) (hs := aajq) (c := (a1q Tryz.f98)) (n := 15) (res := [.tmp 4]) (rs := .c .b) (ks := []) (dir := []) envOk a3q rfl Tryz.func98 (by kernel_rfl) (by kernel_rfl) (by kernel_rfl) (by kernel_rfl) (a5q (by kernel_rfl) h)
def z8q : a8q := ⟨[], []⟩
theorem y1q {o2000 : LL} {r : AV} {O : List (Nat × Ob)} (h : ∃ xs : LL, XC pg 237 [.one (.ol 2000), Z (↑(o2000.length) : Int), .one (.d (.fn 143))] [(2000, .lst 30 3 o2000)] (.tup []) [(2000, .lst 30 3 xs)] ∧ (.tup []) = r ∧ [(2000, .lst 30 3 xs)] = O) : XC pg 201 [(.one (.ol 2000)), (.one (.d (.fn 143)))] [(2000, (.lst 30 3 o2000))] r O :=
 b1q (E := c6q) (hs := z8q) (c := (a1q Tryz.f201)) (n := 9) (res := []) (rs := .t []) (ks := [(2000, (false))]) (dir := [2000]) f9q a3q rfl Tryz.func201 (by kernel_rfl) (by kernel_rfl) (by kernel_rfl) (by kernel_rfl) (a5q (by kernel_rfl) h)
def x2q : a8q := ⟨[], []⟩
theorem w3q {o2000 : LL} {r : AV} {O : List (Nat × Ob)} (h : ∃ xs : LL, XC pg 259 [.one (.ol 2000), Z (↑(o2000.length) : Int), .one (.d (.fn 135))] [(2000, .lst 85 7 o2000)] (.tup []) [(2000, .lst 85 7 xs)] ∧ (.tup []) = r ∧ [(2000, .lst 85 7 xs)] = O) : XC pg 235 [(.one (.ol 2000)), (.one (.d (.fn 135)))] [(2000, (.lst 85 7 o2000))] r O :=
 b1q (E := c6q) (hs := x2q) (c := (a1q Tryz.f235)) (n := 9) (res := []) (rs := .t []) (ks := [(2000, (false))]) (dir := [2000]) f9q a3q rfl Tryz.func235 (by kernel_rfl) (by kernel_rfl) (by kernel_rfl) (by kernel_rfl) (a5q (by kernel_rfl) h)
def h3q : a8q := ⟨[(4, ⟨[0, 1, 5], [], [], [], [], [], []⟩), (9, ⟨[0, 1, 5, 6, 7], [], [], [], [], [], []⟩)], []⟩
def g7q (r : AV) (O : List (Nat × Ob)) (s5 : Int) (s0 : LL) : Prop := CLk 66 c6q h3q (a1q Tryz.f236) [1, 1, 0, 1, 0, 0] (a53q c6q [.tmp 4] (.b 85 7) [(2000, (false))] [] r O) ⟨[(0, (.one (.ol 1900))), (1, (.one (.d (.fn 71)))), (5, (Z s5))], [(1900, (.lst 85 7 s0))]⟩
def f2q (r : AV) (O : List (Nat × Ob)) (s5 : Int) (s6 s61 : Nat) (s7 : Int) (s0 : LL) : Prop := CLk 66 c6q h3q (a1q Tryz.f236) [1, 1, 0, 1, 0, 0, 1, 0, 0, 1, 0, 1, 0, 1, 0, 0] (a53q c6q [.tmp 4] (.b 85 7) [(2000, (false))] [] r O) ⟨[(0, (.one (.ol 1900))), (1, (.one (.d (.fn 71)))), (5, (Z s5)), (6, (.one (.ps 1900 7 (s6) (s61)))), (7, (Z s7))], [(1900, (.lst 85 7 s0))]⟩
theorem o8q {r : AV} {O : List (Nat × Ob)} {s5 : Int} {s0 : LL} (h : ifB (decide (s5 < (↑(s0.length) : Int)))
 (∃ m : Nat, s5 = (↑m : Int) ∧ Do (m < s0.length) ∧ ∃ n : Nat, (m * (7 : Nat)) = (n * (7 : Nat)) ∧ ∃ b : Bool, ∃ n1 n2 : Int, ∃ d : Da, ∃ n3 n4 : Int, ∃ d1 : Da, (s0[n]?) = some [.bool b, .int .i64 n1, .int .i64 n2, d, .int .i64 n3, .int .i64 n4, d1] ∧ ∃ m1 : Nat, (IntKind.wrap .i64 (s5 - (1 : Int))) = (↑m1 : Int) ∧ Do (m1 < s0.length) ∧ ∃ n5 : Nat, (m1 * (7 : Nat)) = (n5 * (7 : Nat)) ∧ ∃ b1 : Bool, ∃ n6 n7 : Int, ∃ d2 : Da, ∃ n8 n9 : Int, ∃ d3 : Da, (s0[n5]?) = some [.bool b1, .int .i64 n6, .int .i64 n7, d2, .int .i64 n8, .int .i64 n9, d3] ∧ ∃ b2 : Bool, XC pg 71 [.dat [.bool b, .int .i64 n1, .int .i64 n2, d, .int .i64 n3, .int .i64 n4, d1], .dat [.bool b1, .int .i64 n6, .int .i64 n7, d2, .int .i64 n8, .int .i64 n9, d3]] [] (B b2) [] ∧ ifB b2
 (∃ n10 : Nat, s5 = (↑n10 : Int) ∧ Do (n10 ≤ s0.length ∧ s0.length ≤ s0.length) ∧ f2q r O s5 ((0 : Nat) + n10) (s0.length - n10) (1 : Int) s0)
 (g7q r O (IntKind.wrap .i64 (s5 + (1 : Int))) s0))
 ((.one (.ol 0)) = r ∧ [(0, .lst 85 7 s0)] = O)) : g7q r O s5 s0 := by
 unfold g7q CLk
 refine c2q (E := c6q) (hs := h3q) f9q a3q ?_
 exact a5q (by kernel_rfl) h
theorem o7q {r : AV} {O : List (Nat × Ob)} {s5 : Int} {s6 s61 : Nat} {s7 : Int} {s0 : LL} (h : ifB (decide (s7 < (↑s61 : Int)))
 (∃ m : Nat, s7 = (↑m : Int) ∧ Do (m < s61) ∧ ∃ n : Nat, ((s6 + m) * (7 : Nat)) = (n * (7 : Nat)) ∧ ∃ b : Bool, ∃ n1 n2 : Int, ∃ d : Da, ∃ n3 n4 : Int, ∃ d1 : Da, (s0[n]?) = some [.bool b, .int .i64 n1, .int .i64 n2, d, .int .i64 n3, .int .i64 n4, d1] ∧ ∃ m1 : Nat, (IntKind.wrap .i64 (s7 - (1 : Int))) = (↑m1 : Int) ∧ Do (m1 < s61) ∧ ∃ n5 : Nat, ((s6 + m1) * (7 : Nat)) = (n5 * (7 : Nat)) ∧ ∃ b1 : Bool, ∃ n6 n7 : Int, ∃ d2 : Da, ∃ n8 n9 : Int, ∃ d3 : Da, (s0[n5]?) = some [.bool b1, .int .i64 n6, .int .i64 n7, d2, .int .i64 n8, .int .i64 n9, d3] ∧ ∃ b2 : Bool, XC pg 71 [.dat [.bool b, .int .i64 n1, .int .i64 n2, d, .int .i64 n3, .int .i64 n4, d1], .dat [.bool b1, .int .i64 n6, .int .i64 n7, d2, .int .i64 n8, .int .i64 n9, d3]] [] (B b2) [] ∧ ifB (!b2)
 (∃ m2 : Nat, s7 = (↑m2 : Int) ∧ Do (m2 < s61) ∧ ∃ n10 : Nat, ((s6 + m2) * (7 : Nat)) = (n10 * (7 : Nat)) ∧ ∃ b3 : Bool, ∃ n11 n12 : Int, ∃ d4 : Da, ∃ n13 n14 : Int, ∃ d5 : Da, (s0[n10]?) = some [.bool b3, .int .i64 n11, .int .i64 n12, d4, .int .i64 n13, .int .i64 n14, d5] ∧ ∃ m3 : Nat, s5 = (↑m3 : Int) ∧ Do (m3 < s0.length) ∧ ∃ m4 : Nat, (m3 * (7 : Nat)) = (m4 * (7 : Nat) + (0 : Nat)) ∧ ∃ b4 : Bool, ∃ n15 n16 : Int, ∃ d6 : Da, ∃ n17 n18 : Int, ∃ d7 : Da, (s0[m4]?) = some [.bool b4, .int .i64 n15, .int .i64 n16, d6, .int .i64 n17, .int .i64 n18, d7] ∧ f2q r O (IntKind.wrap .i64 (s5 + (1 : Int))) (s6) (s61) (IntKind.wrap .i64 (s7 + (1 : Int))) (List.set s0 m4 ([] ++ [Da.bool b3, Da.int IntKind.i64 n11, Da.int IntKind.i64 n12, d4, Da.int IntKind.i64 n13, Da.int IntKind.i64 n14, d5] ++ [])))
 (f2q r O s5 (s6) (s61) (IntKind.wrap .i64 (s7 + (1 : Int))) s0))
 (∃ n19 : Nat, s5 = (↑n19 : Int) ∧ Do (n19 ≤ s0.length ∧ s0.length ≤ s0.length) ∧ Do ((0 : Nat) + n19 + (s0.length - n19) ≤ s0.length) ∧ ∃ n20 : Nat, s5 = (↑n20 : Int) ∧ Do ((0 : Nat) ≤ n20 ∧ n20 ≤ List.length (List.take ((0 : Nat) + n19) s0 ++ List.replicate (s0.length - n19) (r7 false (0 : Int) (0 : Int) [] (0 : Int) (0 : Int) []) ++ List.drop ((0 : Nat) + n19 + (s0.length - n19)) s0)) ∧ Do (n20 - (0 : Nat) ≤ List.length (List.take ((0 : Nat) + n19) s0 ++ List.replicate (s0.length - n19) (r7 false (0 : Int) (0 : Int) [] (0 : Int) (0 : Int) []) ++ List.drop ((0 : Nat) + n19 + (s0.length - n19)) s0)) ∧ (.one (.ol 0)) = r ∧ [(0, .lst 85 7 (List.take (n20 - (0 : Nat)) (List.take ((0 : Nat) + n19) s0 ++ List.replicate (s0.length - n19) (r7 false (0 : Int) (0 : Int) [] (0 : Int) (0 : Int) []) ++ List.drop ((0 : Nat) + n19 + (s0.length - n19)) s0)))] = O)) : f2q r O s5 s6 s61 s7 s0 := by
 unfold f2q CLk
 refine c2q (E := c6q) (hs := h3q) f9q a3q ?_
 exact a5q (by kernel_rfl) h
theorem B4q {o2000 : LL} {r : AV} {O : List (Nat × Ob)} (h : ifB (decide ((↑(o2000.length) : Int) < (2 : Int)))
 ((.one (.ol 0)) = r ∧ [(0, .lst 85 7 o2000)] = O)
 (g7q r O (1 : Int) o2000)) : XC pg 236 [(.one (.ol 2000)), (.one (.d (.fn 71)))] [(2000, (.lst 85 7 o2000))] r O :=
 a8Bq (E := c6q) (hs := h3q) (c := (a1q Tryz.f236)) (n := 66) (res := [.tmp 4]) (rs := .b 85 7) (ks := [(2000, (false))]) (dir := []) f9q a3q [(2000, 1000)] [] (by kernel_rfl) rfl Tryz.func236 (by kernel_rfl) (by kernel_rfl) (by kernel_rfl) (by kernel_rfl) (a5q (by kernel_rfl) h)
def a8lq : a8q := ⟨[], []⟩
theorem a77q {t t1 : Int} {t2 : LL} {r : AV} {O : List (Nat × Ob)} (h : ∃ xs : LL, XC pg 176 [.dat (r3 t t1 t2), .one (.clo 177 [(2000, 0)])] [(2000, .var [.ol 2001]), (2001, .tr 3 1 [])] (.tup []) [(2000, .var [.ol 0]), (0, .tr 3 1 xs)] ∧ (.one (.ol 0)) = r ∧ [(0, .tr 3 1 xs)] = O) : XC pg 119 [(.dat [(.int .i64 t), (.int .i64 t1), (.sl t2)])] [] r O :=
 b1q (E := env) (hs := a8lq) (c := (a1q Tryz.f119)) (n := 9) (res := [.tmp 2]) (rs := .o 3 1) (ks := []) (dir := []) envOk a3q rfl Tryz.func119 (by kernel_rfl) (by kernel_rfl) (by kernel_rfl) (by kernel_rfl) (a5q (by kernel_rfl) h)
def p8q : a8q := ⟨[(3, ⟨[0, 3, 9, 10, 11], [], [], [], [], [], []⟩), (11, ⟨[6, 25, 26, 27], [], [], [], [], [], []⟩)], []⟩
def t1q (r : AV) (O : List (Nat × Ob)) (slices : LL) (size : Int) (s9 : LL) (s10 s11 : Int) : Prop := CLk 36 env p8q (a1q Tryz.f206) [1, 1, 0, 1, 0, 0] (c7q env [.tmp 2] (.o 3 1) [] [] r O) ⟨[(0, (L slices)), (3, (Z size)), (9, (L s9)), (10, (Z s10)), (11, (Z s11))], []⟩
def r4q (r : AV) (O : List (Nat × Ob)) (s25 : LL) (s26 s27 : Int) (newslice : LL) : Prop := CLk 36 env p8q (a1q Tryz.f206) [1, 1, 1, 1, 0, 1, 0, 0] (c7q env [.tmp 2] (.o 3 1) [] [] r O) ⟨[(6, (.one (.ol 1900))), (25, (L s25)), (26, (Z s26)), (27, (Z s27))], [(1900, (.tr 3 1 newslice))]⟩
theorem v6q {r : AV} {O : List (Nat × Ob)} {slices : LL} {size : Int} {s9 : LL} {s10 s11 : Int} (h : ifB (decide (s11 < s10))
 (∃ m : Nat, s11 = (↑m : Int) ∧ ∃ xs : LL, (s9[m]?) = some [.sl xs] ∧ ifB (decide (IntKind.wrap .i64 (size + (↑(xs.length) : Int)) < (0 : Int)))
 (i1q 7 0)
 (t1q r O slices (IntKind.wrap .i64 (size + (↑(xs.length) : Int))) s9 s10 (IntKind.wrap .i64 (s11 + (1 : Int)))))
 (∃ xs1 : LL, XC pg 238 [.one .e0, Z size] [] (.one (.ol 0)) [(0, .tr 3 1 xs1)] ∧ r4q r O slices (↑(slices.length) : Int) (0 : Int) xs1)) : t1q r O slices size s9 s10 s11 := by
 unfold t1q CLk
 refine c2q (E := env) (hs := p8q) envOk a3q ?_
 exact a5q (by kernel_rfl) h
theorem u6q {r : AV} {O : List (Nat × Ob)} {s25 : LL} {s26 s27 : Int} {newslice : LL} (h : ifB (decide (s27 < s26))
 (∃ m : Nat, s27 = (↑m : Int) ∧ ∃ xs : LL, (s25[m]?) = some [.sl xs] ∧ Do (∀ (y : List Da), y ∈ xs → y.length = Prod.fst ((1 : Nat), (8 : Nat), [At.d (Da.int IntKind.i64 (0 : Int))])) ∧ Do (k0q xs) ∧ Do ((newslice.length + xs.length) * 8 ≤ 140737488355328) ∧ r4q r O s25 s26 (IntKind.wrap .i64 (s27 + (1 : Int))) (newslice ++ xs))
 ((.one (.ol 0)) = r ∧ [(0, .tr 3 1 newslice)] = O)) : r4q r O s25 s26 s27 newslice := by
 unfold r4q CLk
 refine c2q (E := env) (hs := p8q) envOk a3q ?_
 exact a5q (by kernel_rfl) h
theorem a1Aq {slices : LL} {r : AV} {O : List (Nat × Ob)} (h : t1q r O slices (0 : Int) slices (↑(slices.length) : Int) (0 : Int)) : XC pg 206 [(L slices)] [] r O :=
 b1q (E := env) (hs := p8q) (c := (a1q Tryz.f206)) (n := 36) (res := [.tmp 2]) (rs := .o 3 1) (ks := []) (dir := []) envOk a3q rfl Tryz.func206 (by kernel_rfl) (by kernel_rfl) (by kernel_rfl) (by kernel_rfl) (a5q (by kernel_rfl) h)
def a7Kq : a8q := ⟨[], []⟩
theorem a6Pq {list : LL} {n : Int} {r : AV} {O : List (Nat × Ob)} (h : ∃ xs : LL, XC pg 215 [L list] [] (.one (.ol 0)) [(0, .tr 3 1 xs)] ∧ ∃ b : Bool, XC pg 124 [L list, Z n] [] (B b) [] ∧ ifB b
 ((.one (.ol 0)) = r ∧ [(0, .tr 3 1 xs)] = O)
 (∃ n1 m : Int, XC pg 182 [L list, .one (.clo 216 [(2000, 0)])] [(2000, .var [.d (.int .i64 n)])] (Z n1) [(2000, .var [.d (.int .i64 m)])] ∧ ifB (decide (n1 < (0 : Int)))
 (∃ xs1 xs2 : LL, XC pg 217 [.one (.ol 2000), Z (↑(list.length) : Int), .one (.ol 2001)] [(2000, .tr 3 1 xs), (2001, .lst 3 1 [[.int .i64 m]])] (.one (.ol 0)) [(2001, .lst 3 1 xs2), (0, .tr 3 1 xs1)] ∧ (.one (.ol 0)) = r ∧ [(0, .tr 3 1 xs1)] = O)
 (∃ xs3 xs4 : LL, XC pg 217 [.one (.ol 2000), Z n1, .one (.ol 2001)] [(2000, .tr 3 1 xs), (2001, .lst 3 1 [[.int .i64 m]])] (.one (.ol 0)) [(2001, .lst 3 1 xs4), (0, .tr 3 1 xs3)] ∧ (.one (.ol 0)) = r ∧ [(0, .tr 3 1 xs3)] = O))) : XC pg 178 [(L list), (Z n)] [] r O :=
 b1q (E := env) (hs := a7Kq) (c := (a1q Tryz.f178)) (n := 25) (res := [.tmp 4]) (rs := .o 3 1) (ks := []) (dir := []) envOk a3q rfl Tryz.func178 (by kernel_rfl) (by kernel_rfl) (by kernel_rfl) (by kernel_rfl) (a5q (by kernel_rfl) h)
def r8q : a8q := ⟨[(3, ⟨[1, 2, 4, 5, 10, 11, 12], [], [], [], [], [], []⟩)], []⟩
def k1q (r : AV) (O : List (Nat × Ob)) (s10 : LL) (s11 s12 : Int) (t t1 : Int) (t2 : LL) (s4 s41 : Int) (kids o2000 : LL) : Prop := CLk 33 env r8q (a1q Tryz.f207) [1, 1, 0, 1, 0, 0] (c7q env [.cell 4 30] (.s [.k (.i .i64), .k (.i .i64), .o 30 3]) [(2000, (true)), (2001, (false))] [2000] r O) ⟨[(1, (.one (.clo 197 [(2000, 0)]))), (2, (.one (.op 1900 0))), (4, (.one (.op 1901 0))), (5, (.one (.ol 1902))), (10, (L s10)), (11, (Z s11)), (12, (Z s12))], [(2000, (.var [(.ol 1903)])), (1900, (.var [(.d (.int .i64 t)), (.d (.int .i64 t1)), (.d (.sl t2))])), (1901, (.var [(.d (.int .i64 s4)), (.d (.int .i64 s41)), .e0])), (1902, (.tr 30 3 kids)), (1903, (.tr 3 1 o2000))]⟩
theorem w8q {r : AV} {O : List (Nat × Ob)} {s10 : LL} {s11 s12 t t1 : Int} {t2 : LL} {s4 s41 : Int} {kids o2000 : LL} (h : ifB (decide (s12 < s11))
 (∃ m : Nat, s12 = (↑m : Int) ∧ ∃ n n1 : Int, ∃ xs : LL, (s10[m]?) = some (r3 n n1 xs) ∧ ∃ n2 n3 : Int, ∃ xs1 xs2 : LL, XC pg 207 [.dat (r3 n n1 xs), .one (.clo 197 [(2000, 0)])] [(2000, .var [.ol 2001]), (2001, .tr 3 1 o2000)] (g3 n2 n3 0) [(2000, .var [.ol 1]), (0, .tr 30 3 xs1), (1, .tr 3 1 xs2)] ∧ Do ((kids.length + List.length [(r3 n2 n3 xs1)]) * 40 ≤ 140737488355328) ∧ k1q r O s10 s11 (IntKind.wrap .i64 (s12 + (1 : Int))) t t1 t2 s4 s41 (kids ++ [(r3 n2 n3 xs1)]) xs2)
 (∃ b : Bool, XC pg 100 [.dat (r3 t t1 t2)] [] (B b) [] ∧ ifB b
 (∃ n4 : Int, ∃ xs3 : LL, XC pg 197 [Z t1, .one (.op 2000 0)] [(2000, .var [.ol 2001]), (2001, .tr 3 1 o2000)] (Z n4) [(2000, .var [.ol 0]), (0, .tr 3 1 xs3)] ∧ (g3 t n4 0) = r ∧ [(2000, .var [.ol 1]), (0, .tr 30 3 kids), (1, .tr 3 1 xs3)] = O)
 ((g3 t t1 0) = r ∧ [(2000, .var [.ol 1]), (0, .tr 30 3 kids), (1, .tr 3 1 o2000)] = O))) : k1q r O s10 s11 s12 t t1 t2 s4 s41 kids o2000 := by
 unfold k1q CLk
 refine c2q (E := env) (hs := r8q) envOk a3q ?_
 exact a5q (by kernel_rfl) h
theorem Q7q {t t1 : Int} {t2 o2000 : LL} {r : AV} {O : List (Nat × Ob)} (h : k1q r O t2 (↑(t2.length) : Int) (0 : Int) t t1 t2 (0 : Int) (0 : Int) [] o2000) : XC pg 207 [(.dat [(.int .i64 t), (.int .i64 t1), (.sl t2)]), (.one (.clo 197 [(2000, 0)]))] [(2000, (.var [(.ol 2001)])), (2001, (.tr 3 1 o2000))] r O :=
 b1q (E := env) (hs := r8q) (c := (a1q Tryz.f207)) (n := 33) (res := [.cell 4 30]) (rs := .s [.k (.i .i64), .k (.i .i64), .o 30 3]) (ks := [(2000, (true)), (2001, (false))]) (dir := [2000]) envOk a3q rfl Tryz.func207 (by kernel_rfl) (by kernel_rfl) (by kernel_rfl) (by kernel_rfl) (a5q (by kernel_rfl) h)
def R2q : a8q := ⟨[(2, ⟨[0, 3], [], [], [], [], [], []⟩)], []⟩
def m6q (r : AV) (O : List (Nat × Ob)) (s : ByteArray) (i : Int) : Prop := CLk 40 env R2q (a1q Tryz.f211) [1, 0, 1, 0, 0] (c7q env [.tmp 2] (.c .b) [] [] r O) ⟨[(0, (T s)), (3, (Z i))], []⟩
theorem U6q {r : AV} {O : List (Nat × Ob)} {s : ByteArray} {i : Int} (h : ifB (decide (i < (↑(ByteArray.size s) : Int)))
 (∃ n : Nat, ∃ b : UInt8, i = (↑n : Int) ∧ (s[n]?) = some b ∧ ifB (decide ((97 : Int) ≤ (↑(UInt8.toNat b) : Int)))
 (∃ n1 : Nat, ∃ b1 : UInt8, i = (↑n1 : Int) ∧ (s[n1]?) = some b1 ∧ ifB (decide ((↑(UInt8.toNat b1) : Int) ≤ (122 : Int)))
 (m6q r O s (IntKind.wrap .i64 (i + (1 : Int))))
 (ifB (decide ((0 : Int) < i))
 (∃ n2 : Nat, ∃ b2 : UInt8, i = (↑n2 : Int) ∧ (s[n2]?) = some b2 ∧ ifB (decide ((48 : Int) ≤ (↑(UInt8.toNat b2) : Int)))
 (∃ n3 : Nat, ∃ b3 : UInt8, i = (↑n3 : Int) ∧ (s[n3]?) = some b3 ∧ ifB (!decide ((↑(UInt8.toNat b3) : Int) ≤ (57 : Int)))
 ((B (false)) = r ∧ [] = O)
 (m6q r O s (IntKind.wrap .i64 (i + (1 : Int)))))
 ((B (false)) = r ∧ [] = O))
 ((B (false)) = r ∧ [] = O)))
 (ifB (decide ((0 : Int) < i))
 (∃ n4 : Nat, ∃ b4 : UInt8, i = (↑n4 : Int) ∧ (s[n4]?) = some b4 ∧ ifB (decide ((48 : Int) ≤ (↑(UInt8.toNat b4) : Int)))
 (∃ n5 : Nat, ∃ b5 : UInt8, i = (↑n5 : Int) ∧ (s[n5]?) = some b5 ∧ ifB (!decide ((↑(UInt8.toNat b5) : Int) ≤ (57 : Int)))
 ((B (false)) = r ∧ [] = O)
 (m6q r O s (IntKind.wrap .i64 (i + (1 : Int)))))
 ((B (false)) = r ∧ [] = O))
 ((B (false)) = r ∧ [] = O)))
 (∃ b6 : Bool, XC pg 64 [Z (↑(ByteArray.size s) : Int), Z (1 : Int), Z (8 : Int)] [] (B b6) [] ∧ (B b6) = r ∧ [] = O)) : m6q r O s i := by
 unfold m6q CLk
 refine c2q (E := env) (hs := R2q) envOk a3q ?_
 exact a5q (by kernel_rfl) h
theorem a6Mq {s : ByteArray} {r : AV} {O : List (Nat × Ob)} (h : m6q r O s (0 : Int)) : XC pg 211 [(T s)] [] r O :=
 b1q (E := env) (hs := R2q) (c := (a1q Tryz.f211)) (n := 40) (res := [.tmp 2]) (rs := .c .b) (ks := []) (dir := []) envOk a3q rfl Tryz.func211 (by kernel_rfl) (by kernel_rfl) (by kernel_rfl) (by kernel_rfl) (a5q (by kernel_rfl) h)
def X2q : a8q := ⟨[(2, ⟨[0, 1, 5], [], [], [], [], [], []⟩)], []⟩
def A9q (r : AV) (O : List (Nat × Ob)) (s : LL) (name : ByteArray) (i : Int) : Prop := CLk 20 env X2q (a1q Tryz.f212) [1, 0, 1, 0, 0] (c7q env [.tmp 4] (.c (.i .i64)) [] [] r O) ⟨[(0, (L s)), (1, (T name)), (5, (Z i))], []⟩
theorem Z5q {r : AV} {O : List (Nat × Ob)} {s : LL} {name : ByteArray} {i : Int} (h : ifB (decide (i < (↑(s.length) : Int)))
 (∃ m : Nat, i = (↑m : Int) ∧ ∃ q : ByteArray, ∃ n : Int, ∃ b : Bool, (s[m]?) = some [.str q, .int .i64 n, .bool b] ∧ ifB (decide (q = name))
 ((Z i) = r ∧ [] = O)
 (A9q r O s name (IntKind.wrap .i64 (i + (1 : Int)))))
 ((Z (-1 : Int)) = r ∧ [] = O)) : A9q r O s name i := by
 unfold A9q CLk
 refine c2q (E := env) (hs := X2q) envOk a3q ?_
 exact a5q (by kernel_rfl) h
theorem a83q {s : LL} {name : ByteArray} {r : AV} {O : List (Nat × Ob)} (h : A9q r O s name (0 : Int)) : XC pg 212 [(L s), (T name)] [] r O :=
 b1q (E := env) (hs := X2q) (c := (a1q Tryz.f212)) (n := 20) (res := [.tmp 4]) (rs := .c (.i .i64)) (ks := []) (dir := []) envOk a3q rfl Tryz.func212 (by kernel_rfl) (by kernel_rfl) (by kernel_rfl) (by kernel_rfl) (a5q (by kernel_rfl) h)
def S0q : a8q := ⟨[(3, ⟨[1, 2, 3, 4], [], [], [(3, (2, (30, 3)))], [], [3], []⟩)], []⟩
def y2q (r : AV) (O : List (Nat × Ob)) (i t t1 : Int) (t2 : LL) (s2 s21 : Int) (out out1 : Int) (out2 : LL) : Prop := CLk 29 env S0q (a1q Tryz.f109) [1, 1, 0, 1, 0, 0] (c7q env [.cell 2 30] (.d [(.i .i64), (.i .i64), .l]) [] [] r O) ⟨[(1, (.one (.op 1900 0))), (2, (.one (.op 1901 0))), (3, (.one (.op 1902 0))), (4, (Z i))], [(1900, (.var [(.d (.int .i64 t)), (.d (.int .i64 t1)), (.d (.sl t2))])), (1901, (.var [(.d (.int .i64 s2)), (.d (.int .i64 s21)), .e0])), (1902, (.var [(.d (.int .i64 out)), (.d (.int .i64 out1)), (.ol 1903)])), (1903, (.lst 30 3 out2))]⟩
theorem V0q {r : AV} {O : List (Nat × Ob)} {i t t1 : Int} {t2 : LL} {s2 s21 out out1 : Int} {out2 : LL} (h : ifB (decide (i < (↑(t2.length) : Int)))
 (∃ m : Nat, i = (↑m : Int) ∧ ∃ n n1 : Int, ∃ xs : LL, (t2[m]?) = some (r3 n n1 xs) ∧ ∃ n2 n3 : Int, ∃ xs1 : LL, XC pg 109 [.dat (r3 n n1 xs)] [] (.dat (r3 n2 n3 xs1)) [] ∧ Do ((out2.length + List.length [(r3 n2 n3 xs1)]) * 40 ≤ 140737488355328) ∧ y2q r O (IntKind.wrap .i64 (i + (1 : Int))) t t1 t2 s2 s21 out out1 (out2 ++ [(r3 n2 n3 xs1)]))
 ((.dat (r3 out out1 out2)) = r ∧ [] = O)) : y2q r O i t t1 t2 s2 s21 out out1 out2 := by
 unfold y2q CLk
 refine c2q (E := env) (hs := S0q) envOk a3q ?_
 exact a5q (by kernel_rfl) h
theorem a6bq {t t1 : Int} {t2 : LL} {r : AV} {O : List (Nat × Ob)} (h : y2q r O (0 : Int) t t1 t2 (0 : Int) (0 : Int) t t1 []) : XC pg 109 [(.dat [(.int .i64 t), (.int .i64 t1), (.sl t2)])] [] r O :=
 b1q (E := env) (hs := S0q) (c := (a1q Tryz.f109)) (n := 29) (res := [.cell 2 30]) (rs := .d [(.i .i64), (.i .i64), .l]) (ks := []) (dir := []) envOk a3q rfl Tryz.func109 (by kernel_rfl) (by kernel_rfl) (by kernel_rfl) (by kernel_rfl) (a5q (by kernel_rfl) h)
def a9hq : a8q := ⟨[], []⟩
theorem a8tq {v : Int} {r : AV} {O : List (Nat × Ob)} (h : (.dat (r3 (-1 : Int) v [])) = r ∧ [] = O) : XC pg 153 [(Z v)] [] r O :=
 b1q (E := env) (hs := a9hq) (c := (a1q Tryz.f153)) (n := 5) (res := [.cell 2 30]) (rs := .d [(.i .i64), (.i .i64), .l]) (ks := []) (dir := []) envOk a3q rfl Tryz.func153 (by kernel_rfl) (by kernel_rfl) (by kernel_rfl) (by kernel_rfl) (a5q (by kernel_rfl) h)
def S5q : a8q := ⟨[(4, ⟨[0, 1, 5], [], [], [], [], [], []⟩)], []⟩
def z3q (r : AV) (O : List (Nat × Ob)) (list : LL) (n at_ : Int) : Prop := CLk 41 env S5q (a1q Tryz.f213) [1, 1, 1, 0, 0, 0] (c7q env [.tmp 4] (.c .l) [] [] r O) ⟨[(0, (L list)), (1, (Z n)), (5, (Z at_))], []⟩
theorem T8q {r : AV} {O : List (Nat × Ob)} {list : LL} {n at_ : Int} (h : ifB (decide (at_ < (↑(list.length) : Int)))
 (∃ m : Nat, at_ = (↑m : Int) ∧ ∃ n2 : Int, (list[m]?) = some [.int .i64 n2] ∧ ifB (decide (n2 < n))
 (z3q r O list n (IntKind.wrap .i64 (at_ + (1 : Int))))
 (∃ n3 : Nat, at_ = (↑n3 : Int) ∧ Do ((0 : Nat) ≤ n3 ∧ n3 ≤ list.length) ∧ Do (∀ (c : List Da), c ∈ list → c.length = TI.n { agg := false, n := (1 : Nat), b := (8 : Nat), el := none, fs := [], pr := (3 : Nat), ik := some IntKind.i64 }) ∧ Do (∀ (y : List Da), y ∈ List.drop (0 : Nat) (List.take n3 list) → y.length = Prod.fst ((1 : Nat), (8 : Nat), [At.d (Da.int IntKind.i64 (0 : Int))])) ∧ Do (k0q (List.drop (0 : Nat) (List.take n3 list))) ∧ Do ((List.length ([] : LL) + List.length (List.drop (0 : Nat) (List.take n3 list))) * 8 ≤ 140737488355328) ∧ Do ((List.length ([] ++ List.drop (0 : Nat) (List.take n3 list)) + List.length [[Da.int IntKind.i64 n]]) * 8 ≤ 140737488355328) ∧ ∃ n4 : Nat, at_ = (↑n4 : Int) ∧ Do (n4 ≤ list.length ∧ list.length ≤ list.length) ∧ Do (∀ (c : List Da), c ∈ list → c.length = TI.n { agg := false, n := (1 : Nat), b := (8 : Nat), el := none, fs := [], pr := (3 : Nat), ik := some IntKind.i64 }) ∧ Do (∀ (y : List Da), y ∈ List.drop n4 (List.take (list.length) list) → y.length = Prod.fst ((1 : Nat), (8 : Nat), [At.d (Da.int IntKind.i64 (0 : Int))])) ∧ Do (k0q (List.drop n4 (List.take (list.length) list))) ∧ Do ((List.length ([] ++ List.drop (0 : Nat) (List.take n3 list) ++ [[Da.int IntKind.i64 n]]) + List.length (List.drop n4 (List.take (list.length) list))) * 8 ≤ 140737488355328) ∧ (L ([] ++ List.drop (0 : Nat) (List.take n3 list) ++ [[Da.int IntKind.i64 n]] ++ List.drop n4 (List.take (list.length) list))) = r ∧ [] = O))
 (∃ n5 : Nat, at_ = (↑n5 : Int) ∧ Do ((0 : Nat) ≤ n5 ∧ n5 ≤ list.length) ∧ Do (∀ (c : List Da), c ∈ list → c.length = TI.n { agg := false, n := (1 : Nat), b := (8 : Nat), el := none, fs := [], pr := (3 : Nat), ik := some IntKind.i64 }) ∧ Do (∀ (y : List Da), y ∈ List.drop (0 : Nat) (List.take n5 list) → y.length = Prod.fst ((1 : Nat), (8 : Nat), [At.d (Da.int IntKind.i64 (0 : Int))])) ∧ Do (k0q (List.drop (0 : Nat) (List.take n5 list))) ∧ Do ((List.length ([] : LL) + List.length (List.drop (0 : Nat) (List.take n5 list))) * 8 ≤ 140737488355328) ∧ Do ((List.length ([] ++ List.drop (0 : Nat) (List.take n5 list)) + List.length [[Da.int IntKind.i64 n]]) * 8 ≤ 140737488355328) ∧ ∃ n6 : Nat, at_ = (↑n6 : Int) ∧ Do (n6 ≤ list.length ∧ list.length ≤ list.length) ∧ Do (∀ (c : List Da), c ∈ list → c.length = TI.n { agg := false, n := (1 : Nat), b := (8 : Nat), el := none, fs := [], pr := (3 : Nat), ik := some IntKind.i64 }) ∧ Do (∀ (y : List Da), y ∈ List.drop n6 (List.take (list.length) list) → y.length = Prod.fst ((1 : Nat), (8 : Nat), [At.d (Da.int IntKind.i64 (0 : Int))])) ∧ Do (k0q (List.drop n6 (List.take (list.length) list))) ∧ Do ((List.length ([] ++ List.drop (0 : Nat) (List.take n5 list) ++ [[Da.int IntKind.i64 n]]) + List.length (List.drop n6 (List.take (list.length) list))) * 8 ≤ 140737488355328) ∧ (L ([] ++ List.drop (0 : Nat) (List.take n5 list) ++ [[Da.int IntKind.i64 n]] ++ List.drop n6 (List.take (list.length) list))) = r ∧ [] = O)) : z3q r O list n at_ := by
 unfold z3q CLk
 refine c2q (E := env) (hs := S5q) envOk a3q ?_
 exact a5q (by kernel_rfl) h
theorem a6zq {list : LL} {n : Int} {r : AV} {O : List (Nat × Ob)} (h : ∃ b : Bool, XC pg 239 [L list, Z n] [] (B b) [] ∧ ifB b
 (Do (∀ (y : List Da), y ∈ list → y.length = Prod.fst ((1 : Nat), (8 : Nat), [At.d (Da.int IntKind.i64 (0 : Int))])) ∧ Do (k0q list) ∧ Do ((List.length ([] : LL) + list.length) * 8 ≤ 140737488355328) ∧ (L ([] ++ list)) = r ∧ [] = O)
 (z3q r O list n (0 : Int))) : XC pg 213 [(L list), (Z n)] [] r O :=
 b1q (E := env) (hs := S5q) (c := (a1q Tryz.f213)) (n := 41) (res := [.tmp 4]) (rs := .c .l) (ks := []) (dir := []) envOk a3q rfl Tryz.func213 (by kernel_rfl) (by kernel_rfl) (by kernel_rfl) (by kernel_rfl) (a5q (by kernel_rfl) h)
def T0q : a8q := ⟨[(2, ⟨[0, 5, 6], [], [], [], [], [], []⟩)], []⟩
def p9q (r : AV) (O : List (Nat × Ob)) (s : ByteArray) (s5 s6 : Int) : Prop := CLk 30 env T0q (a1q Tryz.f218) [1, 0, 1, 0, 0] (c7q env [.tmp 2] (.c .b) [] [] r O) ⟨[(0, (T s)), (5, (Z s5)), (6, (Z s6))], []⟩
theorem U8q {r : AV} {O : List (Nat × Ob)} {s : ByteArray} {s5 s6 : Int} (h : ifB (decide (s6 < s5))
 (∃ n : Nat, ∃ b : UInt8, s6 = (↑n : Int) ∧ (s[n]?) = some b ∧ ∃ b1 : Bool, XC pg 242 [I .u8 (↑(UInt8.toNat b) : Int)] [] (B b1) [] ∧ ifB (!b1)
 (∃ n1 : Nat, ∃ b2 : UInt8, s6 = (↑n1 : Int) ∧ (s[n1]?) = some b2 ∧ ∃ b3 : Bool, XC pg 243 [I .u8 (↑(UInt8.toNat b2) : Int)] [] (B b3) [] ∧ ifB (!b3)
 ((B (false)) = r ∧ [] = O)
 (p9q r O s s5 (IntKind.wrap .i64 (s6 + (1 : Int)))))
 (p9q r O s s5 (IntKind.wrap .i64 (s6 + (1 : Int)))))
 (∃ b4 : Bool, XC pg 134 [Z (↑(ByteArray.size s) : Int), Z (1 : Int), Z (8 : Int)] [] (B b4) [] ∧ ifB b4
 (∃ n2 : Nat, ∃ b5 : UInt8, (0 : Int) = (↑n2 : Int) ∧ (s[n2]?) = some b5 ∧ ∃ b6 : Bool, XC pg 242 [I .u8 (↑(UInt8.toNat b5) : Int)] [] (B b6) [] ∧ (B b6) = r ∧ [] = O)
 ((B (false)) = r ∧ [] = O))) : p9q r O s s5 s6 := by
 unfold p9q CLk
 refine c2q (E := env) (hs := T0q) envOk a3q ?_
 exact a5q (by kernel_rfl) h
theorem a6Hq {s : ByteArray} {r : AV} {O : List (Nat × Ob)} (h : p9q r O s (↑(ByteArray.size s) : Int) (0 : Int)) : XC pg 218 [(T s)] [] r O :=
 b1q (E := env) (hs := T0q) (c := (a1q Tryz.f218)) (n := 30) (res := [.tmp 2]) (rs := .c .b) (ks := []) (dir := []) envOk a3q rfl Tryz.func218 (by kernel_rfl) (by kernel_rfl) (by kernel_rfl) (by kernel_rfl) (a5q (by kernel_rfl) h)
def a9Oq : a8q := ⟨[], []⟩
theorem a8oq {s : LL} {name : ByteArray} {r : AV} {O : List (Nat × Ob)} (h : ∃ n : Int, ∃ q : ByteArray, XC pg 244 [L s, .one (.clo 245 [(2000, 0)])] [(2000, .var [.d (.str name)])] (Z n) [(2000, .var [.d (.str q)])] ∧ (Z n) = r ∧ [] = O) : XC pg 219 [(L s), (T name)] [] r O :=
 b1q (E := env) (hs := a9Oq) (c := (a1q Tryz.f219)) (n := 8) (res := [.tmp 4]) (rs := .c (.i .i64)) (ks := []) (dir := []) envOk a3q rfl Tryz.func219 (by kernel_rfl) (by kernel_rfl) (by kernel_rfl) (by kernel_rfl) (a5q (by kernel_rfl) h)
def t7q : a8q := ⟨[(3, ⟨[1, 10, 11, 12], [], [], [], [], [], []⟩)], []⟩
def k9q (r : AV) (O : List (Nat × Ob)) (s10 : LL) (s11 s12 o2000 : Int) : Prop := CLk 20 env t7q (a1q Tryz.f176) [1, 1, 1, 0, 0] (c7q env [] (.t []) [(2000, (true))] [2000] r O) ⟨[(1, (.one (.clo 220 [(2000, 0)]))), (10, (L s10)), (11, (Z s11)), (12, (Z s12))], [(2000, (.var [(.d (.int .i64 o2000))]))]⟩
theorem y0q {r : AV} {O : List (Nat × Ob)} {s10 : LL} {s11 s12 o2000 : Int} (h : ifB (decide (s12 < s11))
 (∃ m : Nat, s12 = (↑m : Int) ∧ ∃ n n1 : Int, ∃ xs : LL, (s10[m]?) = some (r3 n n1 xs) ∧ ∃ m1 : Int, XC pg 176 [.dat (r3 n n1 xs), .one (.clo 220 [(2000, 0)])] [(2000, .var [.d (.int .i64 o2000)])] (.tup []) [(2000, .var [.d (.int .i64 m1)])] ∧ k9q r O s10 s11 (IntKind.wrap .i64 (s12 + (1 : Int))) m1)
 ((.tup []) = r ∧ [(2000, .var [.d (.int .i64 o2000)])] = O)) : k9q r O s10 s11 s12 o2000 := by
 unfold k9q CLk
 refine c2q (E := env) (hs := t7q) envOk a3q ?_
 exact a5q (by kernel_rfl) h
theorem V8q {t t1 : Int} {t2 : LL} {o2000 : Int} {r : AV} {O : List (Nat × Ob)} (h : ∃ m : Int, XC pg 220 [.dat (r3 t t1 t2), .one (.op 2000 0)] [(2000, .var [.d (.int .i64 o2000)])] (.tup []) [(2000, .var [.d (.int .i64 m)])] ∧ k9q r O t2 (↑(t2.length) : Int) (0 : Int) m) : XC pg 176 [(.dat [(.int .i64 t), (.int .i64 t1), (.sl t2)]), (.one (.clo 220 [(2000, 0)]))] [(2000, (.var [(.d (.int .i64 o2000))]))] r O :=
 b1q (E := env) (hs := t7q) (c := (a1q Tryz.f176)) (n := 20) (res := []) (rs := .t []) (ks := [(2000, (true))]) (dir := [2000]) envOk a3q rfl Tryz.func176 (by kernel_rfl) (by kernel_rfl) (by kernel_rfl) (by kernel_rfl) (a5q (by kernel_rfl) h)
def aa5q : a8q := ⟨[], []⟩
theorem a25q {s : LL} {f : Int} {r : AV} {O : List (Nat × Ob)} (h : ∃ b : Bool, XC pg 134 [Z f, Z (0 : Int), Z (IntKind.wrap .i64 ((↑(s.length) : Int) - (1 : Int)))] [] (B b) [] ∧ (B b) = r ∧ [] = O) : XC pg 161 [(L s), (Z f)] [] r O :=
 b1q (E := env) (hs := aa5q) (c := (a1q Tryz.f161)) (n := 10) (res := [.tmp 4]) (rs := .c .b) (ks := []) (dir := []) envOk a3q rfl Tryz.func161 (by kernel_rfl) (by kernel_rfl) (by kernel_rfl) (by kernel_rfl) (a5q (by kernel_rfl) h)
def X6q : a8q := ⟨[(2, ⟨[1, 4, 8, 9, 10], [], [], [], [], [], []⟩)], []⟩
def A4q (r : AV) (O : List (Nat × Ob)) (v : Int) (s8 : LL) (s9 s10 : Int) (s4 s41 : Int) : Prop := CLk 22 env X6q (a1q Tryz.f232) [1, 0, 1, 0, 0] (c7q env [.cell 4 30, .tmp 5] (.t [.d [(.i .i64), (.i .i64), .l], .c .b]) [] [] r O) ⟨[(1, (Z v)), (4, (.one (.op 1900 0))), (8, (L s8)), (9, (Z s9)), (10, (Z s10))], [(1900, (.var [(.d (.int .i64 s4)), (.d (.int .i64 s41)), .e0]))]⟩
theorem Z0q {r : AV} {O : List (Nat × Ob)} {v : Int} {s8 : LL} {s9 s10 s4 s41 : Int} (h : ifB (decide (s10 < s9))
 (∃ m : Nat, s10 = (↑m : Int) ∧ ∃ n n1 n2 : Int, ∃ xs : LL, (s8[m]?) = some [.int .i64 n, .int .i64 n1, .int .i64 n2, .sl xs] ∧ ifB (decide (n = v))
 ((.tup [.dat (r3 n1 n2 xs), B (true)]) = r ∧ [] = O)
 (A4q r O v s8 s9 (IntKind.wrap .i64 (s10 + (1 : Int))) s4 s41))
 ((.tup [.dat (r3 (0 : Int) (0 : Int) []), B (false)]) = r ∧ [] = O)) : A4q r O v s8 s9 s10 s4 s41 := by
 unfold A4q CLk
 refine c2q (E := env) (hs := X6q) envOk a3q ?_
 exact a5q (by kernel_rfl) h
theorem a7Rq {u : LL} {v : Int} {r : AV} {O : List (Nat × Ob)} (h : A4q r O v u (↑(u.length) : Int) (0 : Int) (0 : Int) (0 : Int)) : XC pg 232 [(L u), (Z v)] [] r O :=
 b1q (E := env) (hs := X6q) (c := (a1q Tryz.f232)) (n := 22) (res := [.cell 4 30, .tmp 5]) (rs := .t [.d [(.i .i64), (.i .i64), .l], .c .b]) (ks := []) (dir := []) envOk a3q rfl Tryz.func232 (by kernel_rfl) (by kernel_rfl) (by kernel_rfl) (by kernel_rfl) (a5q (by kernel_rfl) h)
def a5jq : a8q := ⟨[], []⟩
theorem a4vq {v : Int} {r : AV} {O : List (Nat × Ob)} (h : (.agg [.d (.int .i64 (-1 : Int)), .d (.int .i64 v), .e0]) = r ∧ [] = O) : XC pg 209 [(Z v)] [] r O :=
 b1q (E := env) (hs := a5jq) (c := (a1q Tryz.f209)) (n := 5) (res := [.cell 2 30]) (rs := .s [.k (.i .i64), .k (.i .i64), .e]) (ks := []) (dir := []) envOk a3q rfl Tryz.func209 (by kernel_rfl) (by kernel_rfl) (by kernel_rfl) (by kernel_rfl) (a5q (by kernel_rfl) h)
def a4Hq : a8q := ⟨[], []⟩
theorem a42q {t t1 : Int} {t2 : LL} {r : AV} {O : List (Nat × Ob)} (h : ∃ xs : LL, XC pg 172 [L t2] [] (.one (.ol 0)) [(0, .tr 30 3 xs)] ∧ (g3 t t1 0) = r ∧ [(0, .tr 30 3 xs)] = O) : XC pg 117 [(.dat [(.int .i64 t), (.int .i64 t1), (.sl t2)])] [] r O :=
 b1q (E := env) (hs := a4Hq) (c := (a1q Tryz.f117)) (n := 8) (res := [.cell 2 30]) (rs := .s [.k (.i .i64), .k (.i .i64), .o 30 3]) (ks := []) (dir := []) envOk a3q rfl Tryz.func117 (by kernel_rfl) (by kernel_rfl) (by kernel_rfl) (by kernel_rfl) (a5q (by kernel_rfl) h)
def d6q : a8q := ⟨[(2, ⟨[0, 1, 2, 6, 7, 8], [], [], [], [], [], []⟩), (7, ⟨[0, 1, 2, 6], [], [], [], [], [], []⟩), (9, ⟨[0, 1, 2, 6, 7, 8], [], [], [], [], [], []⟩)], []⟩
def g1q (r : AV) (O : List (Nat × Ob)) (n blockSize : Int) (a b : Int) (data : LL) : Prop := CLk 63 c6q d6q (a1q Tryz.f237) [1, 1, 0, 0, 0] (c7q c6q [] (.t []) [(2000, (false))] [2000] r O) ⟨[(0, (.one (.ol 2000))), (1, (Z n)), (2, (.one (.d (.fn 143)))), (6, (Z blockSize)), (7, (Z a)), (8, (Z b))], [(2000, (.lst 30 3 data))]⟩
def c8q (r : AV) (O : List (Nat × Ob)) (n blockSize : Int) (data : LL) : Prop := CLk 63 c6q d6q (a1q Tryz.f237) [1, 1, 1, 1, 0, 0] (c7q c6q [] (.t []) [(2000, (false))] [2000] r O) ⟨[(0, (.one (.ol 2000))), (1, (Z n)), (2, (.one (.d (.fn 143)))), (6, (Z blockSize))], [(2000, (.lst 30 3 data))]⟩
def g0q (r : AV) (O : List (Nat × Ob)) (n blockSize : Int) (a b : Int) (data : LL) : Prop := CLk 63 c6q d6q (a1q Tryz.f237) [1, 1, 1, 1, 0, 0, 1, 0, 1, 0, 0, 0] (c7q c6q [] (.t []) [(2000, (false))] [2000] r O) ⟨[(0, (.one (.ol 2000))), (1, (Z n)), (2, (.one (.d (.fn 143)))), (6, (Z blockSize)), (7, (Z a)), (8, (Z b))], [(2000, (.lst 30 3 data))]⟩
theorem j4q {r : AV} {O : List (Nat × Ob)} {n blockSize a b : Int} {data : LL} (h : ifB (decide (b ≤ n))
 (∃ xs : LL, XC pg 260 [.one (.ol 2000), Z a, Z b, .one (.d (.fn 143))] [(2000, .lst 30 3 data)] (.tup []) [(2000, .lst 30 3 xs)] ∧ g1q r O n blockSize b (IntKind.wrap .i64 (b + blockSize)) xs)
 (∃ xs1 : LL, XC pg 260 [.one (.ol 2000), Z a, Z n, .one (.d (.fn 143))] [(2000, .lst 30 3 data)] (.tup []) [(2000, .lst 30 3 xs1)] ∧ c8q r O n blockSize xs1)) : g1q r O n blockSize a b data := by
 unfold g1q CLk
 refine c2q (E := c6q) (hs := d6q) f9q a3q ?_
 exact a5q (by kernel_rfl) h
theorem j3q {r : AV} {O : List (Nat × Ob)} {n blockSize : Int} {data : LL} (h : ifB (decide (blockSize < n))
 (g0q r O n blockSize (0 : Int) (IntKind.wrap .i64 ((2 : Int) * blockSize)) data)
 ((.tup []) = r ∧ [(2000, .lst 30 3 data)] = O)) : c8q r O n blockSize data := by
 unfold c8q CLk
 refine c2q (E := c6q) (hs := d6q) f9q a3q ?_
 exact a5q (by kernel_rfl) h
theorem h4q {r : AV} {O : List (Nat × Ob)} {n blockSize a b : Int} {data : LL} (h : ifB (decide (b ≤ n))
 (∃ xs : LL, XC pg 261 [.one (.ol 2000), Z a, Z (IntKind.wrap .i64 (a + blockSize)), Z b, .one (.d (.fn 143))] [(2000, .lst 30 3 data)] (.tup []) [(2000, .lst 30 3 xs)] ∧ g0q r O n blockSize b (IntKind.wrap .i64 (b + IntKind.wrap .i64 ((2 : Int) * blockSize))) xs)
 (ifB (decide (IntKind.wrap .i64 (a + blockSize) < n))
 (∃ xs1 : LL, XC pg 261 [.one (.ol 2000), Z a, Z (IntKind.wrap .i64 (a + blockSize)), Z n, .one (.d (.fn 143))] [(2000, .lst 30 3 data)] (.tup []) [(2000, .lst 30 3 xs1)] ∧ c8q r O n (IntKind.wrap .i64 (blockSize * (2 : Int))) xs1)
 (c8q r O n (IntKind.wrap .i64 (blockSize * (2 : Int))) data))) : g0q r O n blockSize a b data := by
 unfold g0q CLk
 refine c2q (E := c6q) (hs := d6q) f9q a3q ?_
 exact a5q (by kernel_rfl) h
theorem z7q {n : Int} {o2000 : LL} {r : AV} {O : List (Nat × Ob)} (h : g1q r O n (20 : Int) (0 : Int) (20 : Int) o2000) : XC pg 237 [(.one (.ol 2000)), (Z n), (.one (.d (.fn 143)))] [(2000, (.lst 30 3 o2000))] r O :=
 b1q (E := c6q) (hs := d6q) (c := (a1q Tryz.f237)) (n := 63) (res := []) (rs := .t []) (ks := [(2000, (false))]) (dir := [2000]) f9q a3q rfl Tryz.func237 (by kernel_rfl) (by kernel_rfl) (by kernel_rfl) (by kernel_rfl) (a5q (by kernel_rfl) h)
def d1q : a8q := ⟨[(2, ⟨[0, 1, 2, 6, 7, 8], [], [], [], [], [], []⟩), (7, ⟨[0, 1, 2, 6], [], [], [], [], [], []⟩), (9, ⟨[0, 1, 2, 6, 7, 8], [], [], [], [], [], []⟩)], []⟩
def f5q (r : AV) (O : List (Nat × Ob)) (n blockSize : Int) (a b : Int) (data : LL) : Prop := CLk 63 c6q d1q (a1q Tryz.f259) [1, 1, 0, 0, 0] (c7q c6q [] (.t []) [(2000, (false))] [2000] r O) ⟨[(0, (.one (.ol 2000))), (1, (Z n)), (2, (.one (.d (.fn 135)))), (6, (Z blockSize)), (7, (Z a)), (8, (Z b))], [(2000, (.lst 85 7 data))]⟩
def c4q (r : AV) (O : List (Nat × Ob)) (n blockSize : Int) (data : LL) : Prop := CLk 63 c6q d1q (a1q Tryz.f259) [1, 1, 1, 1, 0, 0] (c7q c6q [] (.t []) [(2000, (false))] [2000] r O) ⟨[(0, (.one (.ol 2000))), (1, (Z n)), (2, (.one (.d (.fn 135)))), (6, (Z blockSize))], [(2000, (.lst 85 7 data))]⟩
def f3q (r : AV) (O : List (Nat × Ob)) (n blockSize : Int) (a b : Int) (data : LL) : Prop := CLk 63 c6q d1q (a1q Tryz.f259) [1, 1, 1, 1, 0, 0, 1, 0, 1, 0, 0, 0] (c7q c6q [] (.t []) [(2000, (false))] [2000] r O) ⟨[(0, (.one (.ol 2000))), (1, (Z n)), (2, (.one (.d (.fn 135)))), (6, (Z blockSize)), (7, (Z a)), (8, (Z b))], [(2000, (.lst 85 7 data))]⟩
theorem j0q {r : AV} {O : List (Nat × Ob)} {n blockSize a b : Int} {data : LL} (h : ifB (decide (b ≤ n))
 (∃ xs : LL, XC pg 266 [.one (.ol 2000), Z a, Z b, .one (.d (.fn 135))] [(2000, .lst 85 7 data)] (.tup []) [(2000, .lst 85 7 xs)] ∧ f5q r O n blockSize b (IntKind.wrap .i64 (b + blockSize)) xs)
 (∃ xs1 : LL, XC pg 266 [.one (.ol 2000), Z a, Z n, .one (.d (.fn 135))] [(2000, .lst 85 7 data)] (.tup []) [(2000, .lst 85 7 xs1)] ∧ c4q r O n blockSize xs1)) : f5q r O n blockSize a b data := by
 unfold f5q CLk
 refine c2q (E := c6q) (hs := d1q) f9q a3q ?_
 exact a5q (by kernel_rfl) h
theorem i9q {r : AV} {O : List (Nat × Ob)} {n blockSize : Int} {data : LL} (h : ifB (decide (blockSize < n))
 (f3q r O n blockSize (0 : Int) (IntKind.wrap .i64 ((2 : Int) * blockSize)) data)
 ((.tup []) = r ∧ [(2000, .lst 85 7 data)] = O)) : c4q r O n blockSize data := by
 unfold c4q CLk
 refine c2q (E := c6q) (hs := d1q) f9q a3q ?_
 exact a5q (by kernel_rfl) h
theorem g5q {r : AV} {O : List (Nat × Ob)} {n blockSize a b : Int} {data : LL} (h : ifB (decide (b ≤ n))
 (∃ xs : LL, XC pg 267 [.one (.ol 2000), Z a, Z (IntKind.wrap .i64 (a + blockSize)), Z b, .one (.d (.fn 135))] [(2000, .lst 85 7 data)] (.tup []) [(2000, .lst 85 7 xs)] ∧ f3q r O n blockSize b (IntKind.wrap .i64 (b + IntKind.wrap .i64 ((2 : Int) * blockSize))) xs)
 (ifB (decide (IntKind.wrap .i64 (a + blockSize) < n))
 (∃ xs1 : LL, XC pg 267 [.one (.ol 2000), Z a, Z (IntKind.wrap .i64 (a + blockSize)), Z n, .one (.d (.fn 135))] [(2000, .lst 85 7 data)] (.tup []) [(2000, .lst 85 7 xs1)] ∧ c4q r O n (IntKind.wrap .i64 (blockSize * (2 : Int))) xs1)
 (c4q r O n (IntKind.wrap .i64 (blockSize * (2 : Int))) data))) : f3q r O n blockSize a b data := by
 unfold f3q CLk
 refine c2q (E := c6q) (hs := d1q) f9q a3q ?_
 exact a5q (by kernel_rfl) h
theorem x7q {n : Int} {o2000 : LL} {r : AV} {O : List (Nat × Ob)} (h : f5q r O n (20 : Int) (0 : Int) (20 : Int) o2000) : XC pg 259 [(.one (.ol 2000)), (Z n), (.one (.d (.fn 135)))] [(2000, (.lst 85 7 o2000))] r O :=
 b1q (E := c6q) (hs := d1q) (c := (a1q Tryz.f259)) (n := 63) (res := []) (rs := .t []) (ks := [(2000, (false))]) (dir := [2000]) f9q a3q rfl Tryz.func259 (by kernel_rfl) (by kernel_rfl) (by kernel_rfl) (by kernel_rfl) (a5q (by kernel_rfl) h)
def t3q : a8q := ⟨[(3, ⟨[1, 10, 11, 12], [], [], [], [], [], []⟩)], []⟩
def k4q (r : AV) (O : List (Nat × Ob)) (s10 : LL) (s11 s12 : Int) (o2000 : LL) : Prop := CLk 20 env t3q (a1q Tryz.f176) [1, 1, 1, 0, 0] (c7q env [] (.t []) [(2000, (true)), (2001, (false))] [2000] r O) ⟨[(1, (.one (.clo 177 [(2000, 0)]))), (10, (L s10)), (11, (Z s11)), (12, (Z s12))], [(2000, (.var [(.ol 1900)])), (1900, (.tr 3 1 o2000))]⟩
theorem x8q {r : AV} {O : List (Nat × Ob)} {s10 : LL} {s11 s12 : Int} {o2000 : LL} (h : ifB (decide (s12 < s11))
 (∃ m : Nat, s12 = (↑m : Int) ∧ ∃ n n1 : Int, ∃ xs : LL, (s10[m]?) = some (r3 n n1 xs) ∧ ∃ xs1 : LL, XC pg 176 [.dat (r3 n n1 xs), .one (.clo 177 [(2000, 0)])] [(2000, .var [.ol 2001]), (2001, .tr 3 1 o2000)] (.tup []) [(2000, .var [.ol 0]), (0, .tr 3 1 xs1)] ∧ k4q r O s10 s11 (IntKind.wrap .i64 (s12 + (1 : Int))) xs1)
 ((.tup []) = r ∧ [(2000, .var [.ol 0]), (0, .tr 3 1 o2000)] = O)) : k4q r O s10 s11 s12 o2000 := by
 unfold k4q CLk
 refine c2q (E := env) (hs := t3q) envOk a3q ?_
 exact a5q (by kernel_rfl) h
theorem S7q {t t1 : Int} {t2 o2000 : LL} {r : AV} {O : List (Nat × Ob)} (h : ∃ xs : LL, XC pg 177 [.dat (r3 t t1 t2), .one (.op 2000 0)] [(2000, .var [.ol 2001]), (2001, .tr 3 1 o2000)] (.tup []) [(2000, .var [.ol 0]), (0, .tr 3 1 xs)] ∧ k4q r O t2 (↑(t2.length) : Int) (0 : Int) xs) : XC pg 176 [(.dat [(.int .i64 t), (.int .i64 t1), (.sl t2)]), (.one (.clo 177 [(2000, 0)]))] [(2000, (.var [(.ol 2001)])), (2001, (.tr 3 1 o2000))] r O :=
 b1q (E := env) (hs := t3q) (c := (a1q Tryz.f176)) (n := 20) (res := []) (rs := .t []) (ks := [(2000, (true)), (2001, (false))]) (dir := [2000]) envOk a3q rfl Tryz.func176 (by kernel_rfl) (by kernel_rfl) (by kernel_rfl) (by kernel_rfl) (a5q (by kernel_rfl) h)
def a3yq : a8q := ⟨[], []⟩
theorem P9q {n : Int} {r : AV} {O : List (Nat × Ob)} (h : ifB (decide (n < (0 : Int)))
 (i1q 2 0)
 (ifB (decide ((0 : Int) < IntKind.wrap .i64 (n - IntKind.wrap .i64 ((0 : Int) - (0 : Int)))))
 (∃ n1 : Nat, (0 : Int) = (↑n1 : Int) ∧ Do ((0 : Nat) = (0 : Nat) ∧ n1 = (0 : Nat)) ∧ ∃ q : Nat, (IntKind.wrap .i64 (n - IntKind.wrap .i64 ((0 : Int) - (0 : Int)))) = (↑q : Int) ∧ Do (List.length (List.replicate q [Da.int IntKind.i64 (0 : Int)]) * 8 ≤ 140737488355328) ∧ ∃ n2 : Nat, (0 : Int) = (↑n2 : Int) ∧ Do ((0 : Nat) ≤ n2 ∧ n2 ≤ List.length (List.replicate q [Da.int IntKind.i64 (0 : Int)])) ∧ Do (n2 - (0 : Nat) ≤ List.length (List.replicate q [Da.int IntKind.i64 (0 : Int)])) ∧ (.one (.ol 0)) = r ∧ [(0, .lst 3 1 (List.take (n2 - (0 : Nat)) (List.replicate q [Da.int IntKind.i64 (0 : Int)])))] = O)
 ((.one (.ol 0)) = r ∧ [(0, .tr 3 1 [])] = O))) : XC pg 238 [(.one .e0), (Z n)] [] r O :=
 a8Bq (E := env) (hs := a3yq) (c := (a1q Tryz.f238)) (n := 27) (res := [.tmp 4]) (rs := .o 3 1) (ks := []) (dir := []) envOk a3q [] [] (by kernel_rfl) rfl Tryz.func238 (by kernel_rfl) (by kernel_rfl) (by kernel_rfl) (by kernel_rfl) (a5q (by kernel_rfl) h)
def a2Eq : a8q := ⟨[], []⟩
theorem a2dq {s : LL} {r : AV} {O : List (Nat × Ob)} (h : ((List.flatten s = []) → ((.one (.ol 0)) = r ∧ [(0, .tr 3 1 [])] = O)) ∧ Do (∀ (y : List Da), y ∈ s → y.length = Prod.fst ((1 : Nat), (8 : Nat), [At.d (Da.int IntKind.i64 (0 : Int))])) ∧ Do (k0q s) ∧ Do ((List.length ([] : LL) + s.length) * 8 ≤ 140737488355328) ∧ (.one (.ol 0)) = r ∧ [(0, .tr 3 1 ([] ++ s))] = O) : XC pg 215 [(L s)] [] r O :=
 b1q (E := env) (hs := a2Eq) (c := (a1q Tryz.f215)) (n := 8) (res := [.tmp 2]) (rs := .o 3 1) (ks := []) (dir := []) envOk a3q rfl Tryz.func215 (by kernel_rfl) (by kernel_rfl) (by kernel_rfl) (by kernel_rfl) (a5q (by kernel_rfl) h)
def aa7q : a8q := ⟨[], []⟩
theorem a7Mq {list : LL} {n : Int} {r : AV} {O : List (Nat × Ob)} (h : ∃ b : Bool, XC pg 183 [L list, Z n] [] (B b) [] ∧ (B b) = r ∧ [] = O) : XC pg 124 [(L list), (Z n)] [] r O :=
 b1q (E := env) (hs := aa7q) (c := (a1q Tryz.f124)) (n := 8) (res := [.tmp 4]) (rs := .c .b) (ks := []) (dir := []) envOk a3q rfl Tryz.func124 (by kernel_rfl) (by kernel_rfl) (by kernel_rfl) (by kernel_rfl) (a5q (by kernel_rfl) h)
def m1q : a8q := ⟨[(2, ⟨[0, 1, 7, 8], [], [], [], [], [], []⟩)], []⟩
def h2q (r : AV) (O : List (Nat × Ob)) (s : LL) (s7 s8 o2000 : Int) : Prop := CLk 19 env m1q (a1q Tryz.f182) [1, 0, 1, 0, 0] (c7q env [.tmp 4] (.c (.i .i64)) [(2000, (true))] [2000] r O) ⟨[(0, (L s)), (1, (.one (.clo 216 [(2000, 0)]))), (7, (Z s7)), (8, (Z s8))], [(2000, (.var [(.d (.int .i64 o2000))]))]⟩
theorem p0q {r : AV} {O : List (Nat × Ob)} {s : LL} {s7 s8 o2000 : Int} (h : ifB (decide (s8 < s7))
 (∃ m : Nat, s8 = (↑m : Int) ∧ ∃ n : Int, (s[m]?) = some [.int .i64 n] ∧ ∃ b : Bool, ∃ m1 : Int, XC pg 216 [Z n, .one (.op 2000 0)] [(2000, .var [.d (.int .i64 o2000)])] (B b) [(2000, .var [.d (.int .i64 m1)])] ∧ ifB b
 ((Z s8) = r ∧ [(2000, .var [.d (.int .i64 m1)])] = O)
 (h2q r O s s7 (IntKind.wrap .i64 (s8 + (1 : Int))) m1))
 ((Z (-1 : Int)) = r ∧ [(2000, .var [.d (.int .i64 o2000)])] = O)) : h2q r O s s7 s8 o2000 := by
 unfold h2q CLk
 refine c2q (E := env) (hs := m1q) envOk a3q ?_
 exact a5q (by kernel_rfl) h
theorem C0q {s : LL} {o2000 : Int} {r : AV} {O : List (Nat × Ob)} (h : h2q r O s (↑(s.length) : Int) (0 : Int) o2000) : XC pg 182 [(L s), (.one (.clo 216 [(2000, 0)]))] [(2000, (.var [(.d (.int .i64 o2000))]))] r O :=
 b1q (E := env) (hs := m1q) (c := (a1q Tryz.f182)) (n := 19) (res := [.tmp 4]) (rs := .c (.i .i64)) (ks := [(2000, (true))]) (dir := [2000]) envOk a3q rfl Tryz.func182 (by kernel_rfl) (by kernel_rfl) (by kernel_rfl) (by kernel_rfl) (a5q (by kernel_rfl) h)
end AM
end Go.Proofs.YtajcoogpmockiaaGreat
