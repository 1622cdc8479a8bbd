/- A part of the proof of the law that the last of these texts states, for every input; no conditions. -/
import Derived.Test.YtajcoogpmockiaaGreatMgC
set_option linter.unusedVariables false
set_option linter.unusedSimpArgs false
set_option linter.unusedVariables false
set_option maxRecDepth 100000
namespace Go.Proofs.YtajcoogpmockiaaGreat
namespace AM
open Go
attribute [local irreducible] vC
def P2q : a9q := ⟨[], []⟩
theorem n6q {p : List (List Da)} {p_1 : List (List Da)} {r : AV} {O : List (Nat × Ob)} (h : (∃ (n : Int), (XC Tryz.prog 9 [(L p), (Z ((1048576 : Int)))] [] (Z n) [] ∧ ifB (decide (n < (0 : Int)))
  (((B (true)) = r ∧ [] = O))
  ((∃ (n1 : Int), (XC Tryz.prog 10 [(.dat [(.sl p_1)]), (Z n)] [] (Z n1) [] ∧ ifB (decide (n1 < (0 : Int)))
  (((B (true)) = r ∧ [] = O))
  ((∃ (xs : List (List Da)), (XC Tryz.prog 12 [(L p)] [] (.one (.ol 0)) [(0, (.tr 89 3 xs))] ∧ (∃ (xs1 : List (List Da)), (XC Tryz.prog 13 [(.dat [(.sl p_1)])] [] (.agg [(.ol 0)]) [(0, (.tr 85 7 xs1))] ∧ (∃ (n2 : Int), (∃ (n3 : Int), (∃ (xs2 : List (List Da)), (∃ (n4 : Int), (∃ (n5 : Int), (∃ (xs3 : List (List Da)), (∃ (b : Bool), (XC Tryz.prog 11 [(L xs), (.dat [(.sl xs1)])] [] (.tup [(.dat [(.int .i64 n2), (.int .i64 n3), (.sl xs2), (.int .i64 n4), (.int .i64 n5), (.sl xs3)]), (B b)]) [] ∧ (∃ (xs4 : List (List Da)), (XC Tryz.prog 12 [(L p)] [] (.one (.ol 0)) [(0, (.tr 89 3 xs4))] ∧ (∃ (xs5 : List (List Da)), (XC Tryz.prog 13 [(.dat [(.sl p_1)])] [] (.agg [(.ol 0)]) [(0, (.tr 85 7 xs5))] ∧ (∃ (n6 : Int), (∃ (n7 : Int), (∃ (xs6 : List (List Da)), (∃ (n8 : Int), (∃ (n9 : Int), (∃ (xs7 : List (List Da)), (∃ (b1 : Bool), (XC Tryz.prog 14 [(L xs4), (.dat [(.sl xs5)])] [] (.tup [(.agg [(.d (.int .i64 n6)), (.d (.int .i64 n7)), (.ol 0), (.d (.int .i64 n8)), (.d (.int .i64 n9)), (.ol 1)]), (B b1)]) [(0, (.tr 30 3 xs6)), (1, (.tr 30 3 xs7))] ∧ (∃ (b2 : Bool), (XC Tryz.prog 15 [(.dat [(.int .i64 n6), (.int .i64 n7), (.sl xs6), (.int .i64 n8), (.int .i64 n9), (.sl xs7)]), (.dat [(.int .i64 n2), (.int .i64 n3), (.sl xs2), (.int .i64 n4), (.int .i64 n5), (.sl xs3)])] [] (B b2) [] ∧ ifB (!b2)
  (((B (false)) = r ∧ [] = O))
  (ifB (decide (b1 ≠ b))
  (((B (false)) = r ∧ [] = O))
  ((∃ (xs8 : List (List Da)), (XC Tryz.prog 12 [(L p)] [] (.one (.ol 0)) [(0, (.tr 89 3 xs8))] ∧ (∃ (b3 : Bool), (XC Tryz.prog 16 [(L xs4), (L xs8)] [] (B b3) [] ∧ ifB (!b3)
  (((B (false)) = r ∧ [] = O))
  ((∃ (xs9 : List (List Da)), (XC Tryz.prog 13 [(.dat [(.sl p_1)])] [] (.agg [(.ol 0)]) [(0, (.tr 85 7 xs9))] ∧ (∃ (b4 : Bool), (XC Tryz.prog 17 [(.dat [(.sl xs5)]), (.dat [(.sl xs9)])] [] (B b4) [] ∧ ifB (!b4)
  (((B (false)) = r ∧ [] = O))
  ((∃ (n10 : Int), (∃ (xs10 : List (List Da)), (XC Tryz.prog 18 [(.one (.ol 2000)), (Z ((1 : Int)))] [(2000, (.mt 89 3 xs4))] (Z n10) [(2000, (.mt 89 3 xs10))] ∧ (∃ (n11 : Int), (∃ (xs11 : List (List Da)), (XC Tryz.prog 19 [(.agg [(.ol 2000)]), (Z n10)] [(2000, (.mt 85 7 xs5))] (Z n11) [(2000, (.mt 85 7 xs11))] ∧ ifB (decide (n11 < (0 : Int)))
  (((B (false)) = r ∧ [] = O))
  ((∃ (b5 : Bool), (XC Tryz.prog 15 [(.dat [(.int .i64 n6), (.int .i64 n7), (.sl xs6), (.int .i64 n8), (.int .i64 n9), (.sl xs7)]), (.dat [(.int .i64 n2), (.int .i64 n3), (.sl xs2), (.int .i64 n4), (.int .i64 n5), (.sl xs3)])] [] (B b5) [] ∧ ifB (!b5)
  (((B (false)) = r ∧ [] = O))
  (ifB (decide (b1 ≠ b))
  (((B (false)) = r ∧ [] = O))
  ((∃ (n12 : Int), (∃ (xs12 : List (List Da)), (∃ (xs13 : List (List Da)), (XC Tryz.prog 20 [(.agg [(.d (.int .i64 n6)), (.d (.int .i64 n7)), (.ol 2000), (.d (.int .i64 n8)), (.d (.int .i64 n9)), (.ol 2001)]), (Z ((1 : Int)))] [(2000, (.mt 30 3 xs6)), (2001, (.mt 30 3 xs7))] (Z n12) [(2000, (.mt 30 3 xs12)), (2001, (.mt 30 3 xs13))] ∧ (∃ (n13 : Int), (XC Tryz.prog 21 [(.dat [(.int .i64 n6), (.int .i64 n7), (.sl xs12), (.int .i64 n8), (.int .i64 n9), (.sl xs13)]), (Z ((1 : Int)))] [] (Z n13) [] ∧ ifB (decide (n13 < (0 : Int)))
  (((B (false)) = r ∧ [] = O))
  (ifB (decide (n13 ≠ n12))
  (((B (false)) = r ∧ [] = O))
  ((∃ (xs14 : List (List Da)), (XC Tryz.prog 12 [(L p)] [] (.one (.ol 0)) [(0, (.tr 89 3 xs14))] ∧ (∃ (xs15 : List (List Da)), (XC Tryz.prog 13 [(.dat [(.sl p_1)])] [] (.agg [(.ol 0)]) [(0, (.tr 85 7 xs15))] ∧ (∃ (n14 : Int), (∃ (n15 : Int), (∃ (xs16 : List (List Da)), (∃ (n16 : Int), (∃ (n17 : Int), (∃ (xs17 : List (List Da)), (∃ (b6 : Bool), (XC Tryz.prog 14 [(L xs14), (.dat [(.sl xs15)])] [] (.tup [(.agg [(.d (.int .i64 n14)), (.d (.int .i64 n15)), (.ol 0), (.d (.int .i64 n16)), (.d (.int .i64 n17)), (.ol 1)]), (B b6)]) [(0, (.tr 30 3 xs16)), (1, (.tr 30 3 xs17))] ∧ (∃ (b7 : Bool), (XC Tryz.prog 15 [(.dat [(.int .i64 n14), (.int .i64 n15), (.sl xs16), (.int .i64 n16), (.int .i64 n17), (.sl xs17)]), (.dat [(.int .i64 n2), (.int .i64 n3), (.sl xs2), (.int .i64 n4), (.int .i64 n5), (.sl xs3)])] [] (B b7) [] ∧ ifB (!b7)
  (((B (false)) = r ∧ [] = O))
  (ifB (decide (b6 ≠ b))
  (((B (false)) = r ∧ [] = O))
  ((∃ (n18 : Int), (XC Tryz.prog 21 [(.dat [(.int .i64 n6), (.int .i64 n7), (.sl xs12), (.int .i64 n8), (.int .i64 n9), (.sl xs13)]), (Z ((1 : Int)))] [] (Z n18) [] ∧ ifB (decide (n18 < (0 : Int)))
  (((B (false)) = r ∧ [] = O))
  (ifB (decide (n18 ≠ n12))
  (((B (false)) = r ∧ [] = O))
  (((B (true)) = r ∧ [] = O))))))))))))))))))))))))))))))))))))))))))))))))))))))))))))))))))))))))))))))))))))) : XC Tryz.prog 3 [.one (.d (.sl p)), .dat [.sl p_1]] [] r O :=
  b0q (E := envL) (hs := P2q) (c := (a1q Tryz.f3)) (n := 119) (res := [.tmp 4]) (rs := .c .b) (ks := []) (dir := []) aaQq a4q rfl Tryz.func3 (by kernel_rfl) (by kernel_rfl) (by kernel_rfl) (by kernel_rfl) (a5q (by kernel_rfl) h)
def v2q : a9q := ⟨[(5, ⟨[0, 1, 5], [], [], [], [], [], []⟩)], []⟩
def o9q (r : AV) (O : List (Nat × Ob)) (a : List (List Da)) (left : Int) (i : Int) : Prop := CL 27 Tryz.prog (d6q (a1q Tryz.f9) [1, 1, 1, 0, 1, 0, 0]) (b5q Tryz.prog env v2q 27 (a1q Tryz.f9) [1, 1, 1, 0, 1, 0, 0] (a6q env [.tmp 4] (.c (.i .i64)) [] [] r O) (b4q (a6q env [.tmp 4] (.c (.i .i64)) [] [] r O))).1 (b5q Tryz.prog env v2q 27 (a1q Tryz.f9) [1, 1, 1, 0, 1, 0, 0] (a6q env [.tmp 4] (.c (.i .i64)) [] [] r O) (b4q (a6q env [.tmp 4] (.c (.i .i64)) [] [] r O))).2 ⟨[(0, (L a)), (1, (Z left)), (5, (Z i))], []⟩
theorem E4q {r : AV} {O : List (Nat × Ob)} {a : List (List Da)} {left : Int} {i : Int} (h : ifB (decide (i < (↑(List.length a) : Int)))
  ((∃ (m : Nat), (i = ((↑m : Int)) ∧ (∃ (q : ByteArray), (∃ (n : Int), (∃ (b : Bool), ((a[m]?) = some [(.str q), (.int .i64 n), (.bool b)] ∧ (∃ (n1 : Int), (XC Tryz.prog 44 [(.dat [(.str q), (.int .i64 n), (.bool b)]), (Z left)] [] (Z n1) [] ∧ ifB (decide (n1 < (0 : Int)))
  (((Z ((-1 : Int))) = r ∧ [] = O))
  (o9q r O a n1 (IntKind.wrap IntKind.i64 (i + (1 : Int)))))))))))))
  (((Z left) = r ∧ [] = O))) : o9q r O a left i := by
  unfold o9q
  refine c5q (E := env) (hs := v2q) envOk a4q ?_
  exact a5q (by kernel_rfl) h
theorem a2fq {a : List (List Da)} {left : Int} {r : AV} {O : List (Nat × Ob)} (h : ifB (decide (IntKind.wrap IntKind.i64 (left - (↑(List.length a) : Int)) < (0 : Int)))
  (((Z ((-1 : Int))) = r ∧ [] = O))
  (o9q r O a (IntKind.wrap IntKind.i64 (left - (↑(List.length a) : Int))) ((0 : Int)))) : XC Tryz.prog 9 [(L a), (Z left)] [] r O :=
  b0q (E := env) (hs := v2q) (c := (a1q Tryz.f9)) (n := 27) (res := [.tmp 4]) (rs := .c (.i .i64)) (ks := []) (dir := []) envOk a4q rfl Tryz.func9 (by kernel_rfl) (by kernel_rfl) (by kernel_rfl) (by kernel_rfl) (a5q (by kernel_rfl) h)
def a1aq : a9q := ⟨[], []⟩
theorem a0Dq {a : List (List Da)} {left : Int} {r : AV} {O : List (Nat × Ob)} (h : (∃ (n : Int), (XC Tryz.prog 45 [(L a), (Z left)] [] (Z n) [] ∧ ifB (decide (n < (0 : Int)))
  (((Z ((-1 : Int))) = r ∧ [] = O))
  (((Z n) = r ∧ [] = O))))) : XC Tryz.prog 10 [(.dat [(.sl a)]), (Z left)] [] r O :=
  b0q (E := env) (hs := a1aq) (c := (a1q Tryz.f10)) (n := 12) (res := [.tmp 4]) (rs := .c (.i .i64)) (ks := []) (dir := []) envOk a4q rfl Tryz.func10 (by kernel_rfl) (by kernel_rfl) (by kernel_rfl) (by kernel_rfl) (a5q (by kernel_rfl) h)
def w4q : a9q := ⟨[(3, ⟨[0, 3, 4], [], [], [], [], [], []⟩)], []⟩
def n7q (r : AV) (O : List (Nat × Ob)) (a : List (List Da)) (i : Int) (out : List (List Da)) : Prop := CL 23 Tryz.prog (d6q (a1q Tryz.f12) [1, 1, 0, 1, 0, 0]) (b5q Tryz.prog env w4q 23 (a1q Tryz.f12) [1, 1, 0, 1, 0, 0] (a6q env [.tmp 2] (.o 89 3) [] [] r O) (b4q (a6q env [.tmp 2] (.o 89 3) [] [] r O))).1 (b5q Tryz.prog env w4q 23 (a1q Tryz.f12) [1, 1, 0, 1, 0, 0] (a6q env [.tmp 2] (.o 89 3) [] [] r O) (b4q (a6q env [.tmp 2] (.o 89 3) [] [] r O))).2 ⟨[(0, (L a)), (3, (.one (.ol 1900))), (4, (Z i))], [(1900, (.tr 89 3 out))]⟩
theorem E3q {r : AV} {O : List (Nat × Ob)} {a : List (List Da)} {i : Int} {out : List (List Da)} (h : ifB (decide (i < (↑(List.length a) : Int)))
  ((∃ (m : Nat), (i = ((↑m : Int)) ∧ (∃ (q : ByteArray), (∃ (n : Int), (∃ (b : Bool), ((a[m]?) = some [(.str q), (.int .i64 n), (.bool b)] ∧ (∃ (q1 : ByteArray), (∃ (n1 : Int), (∃ (b1 : Bool), (XC Tryz.prog 49 [(.dat [(.str q), (.int .i64 n), (.bool b)])] [] (.dat [(.str q1), (.int .i64 n1), (.bool b1)]) [] ∧ (∃ (m1 : Nat), (i = ((↑m1 : Int)) ∧ (Do (m1 < List.length out) ∧ (∃ (m2 : Nat), ((m1 * (3 : Nat)) = (m2 * (3 : Nat) + (0 : Nat)) ∧ (∃ (q2 : ByteArray), (∃ (n2 : Int), (∃ (b2 : Bool), ((out[m2]?) = some [(.str q2), (.int .i64 n2), (.bool b2)] ∧ n7q r O a (IntKind.wrap IntKind.i64 (i + (1 : Int))) (List.set out m2 ([] ++ [Da.str q1, Da.int IntKind.i64 n1, Da.bool b1] ++ []))))))))))))))))))))))
  (((.one (.ol 0)) = r ∧ [(0, (.tr 89 3 out))] = O))) : n7q r O a i out := by
  unfold n7q
  refine c5q (E := env) (hs := w4q) envOk a4q ?_
  exact a5q (by kernel_rfl) h
theorem a2Nq {a : List (List Da)} {r : AV} {O : List (Nat × Ob)} (h : (∃ (l : Nat), (∃ (c : Nat), (((↑(List.length a) : Int)) = ((↑l : Int)) ∧ (((↑(List.length a) : Int)) = ((↑c : Int)) ∧ (Do (l ≤ c ∧ (32 : Nat) * c ≤ (281474976710656 : Nat) ∧ c ≤ (281474976710656 : Nat)) ∧ n7q r O a ((0 : Int)) (List.replicate l [Da.str { data := #[] }, Da.int IntKind.i64 (0 : Int), Da.bool false]))))))) : XC Tryz.prog 12 [(L a)] [] r O :=
  b0q (E := env) (hs := w4q) (c := (a1q Tryz.f12)) (n := 23) (res := [.tmp 2]) (rs := .o 89 3) (ks := []) (dir := []) envOk a4q rfl Tryz.func12 (by kernel_rfl) (by kernel_rfl) (by kernel_rfl) (by kernel_rfl) (a5q (by kernel_rfl) h)
def a1dq : a9q := ⟨[], []⟩
theorem a0sq {a : List (List Da)} {r : AV} {O : List (Nat × Ob)} (h : (∃ (xs : List (List Da)), (XC Tryz.prog 50 [(L a)] [] (.one (.ol 0)) [(0, (.tr 85 7 xs))] ∧ ((.agg [(.ol 0)]) = r ∧ [(0, (.tr 85 7 xs))] = O)))) : XC Tryz.prog 13 [(.dat [(.sl a)])] [] r O :=
  b0q (E := env) (hs := a1dq) (c := (a1q Tryz.f13)) (n := 9) (res := [.cell 2 39]) (rs := .s [.o 85 7]) (ks := []) (dir := []) envOk a4q rfl Tryz.func13 (by kernel_rfl) (by kernel_rfl) (by kernel_rfl) (by kernel_rfl) (a5q (by kernel_rfl) h)
def a3Xq : a9q := ⟨[], []⟩
theorem a2Sq {s : List (List Da)} {c : List (List Da)} {r : AV} {O : List (Nat × Ob)} (h : (∃ (b : Bool), (XC Tryz.prog 46 [(L s), (.dat [(.sl c)])] [] (B b) [] ∧ ifB (!b)
  (((.tup [(.dat [(.int .i64 ((0 : Int))), (.int .i64 ((0 : Int))), (.sl []), (.int .i64 ((0 : Int))), (.int .i64 ((0 : Int))), (.sl [])]), (B (false))]) = r ∧ [] = O))
  (ifB (decide ((↑(List.length c) : Int) ≠ (1 : Int)))
  (((.tup [(.dat [(.int .i64 ((0 : Int))), (.int .i64 ((0 : Int))), (.sl []), (.int .i64 ((0 : Int))), (.int .i64 ((0 : Int))), (.sl [])]), (B (false))]) = r ∧ [] = O))
  ((∃ (m : Nat), (((0 : Int)) = ((↑m : Int)) ∧ (∃ (b1 : Bool), (∃ (n : Int), (∃ (n1 : Int), (∃ (xs : List (List Da)), (∃ (n2 : Int), (∃ (n3 : Int), (∃ (xs1 : List (List Da)), ((c[m]?) = some [(.bool b1), (.int .i64 n), (.int .i64 n1), (.sl xs), (.int .i64 n2), (.int .i64 n3), (.sl xs1)] ∧ ifB (!b1)
  (((.tup [(.dat [(.int .i64 ((0 : Int))), (.int .i64 ((0 : Int))), (.sl []), (.int .i64 ((0 : Int))), (.int .i64 ((0 : Int))), (.sl [])]), (B (false))]) = r ∧ [] = O))
  ((∃ (m1 : Nat), (((0 : Int)) = ((↑m1 : Int)) ∧ (∃ (b2 : Bool), (∃ (n4 : Int), (∃ (n5 : Int), (∃ (xs2 : List (List Da)), (∃ (n6 : Int), (∃ (n7 : Int), (∃ (xs3 : List (List Da)), ((c[m1]?) = some [(.bool b2), (.int .i64 n4), (.int .i64 n5), (.sl xs2), (.int .i64 n6), (.int .i64 n7), (.sl xs3)] ∧ (∃ (m2 : Nat), (((0 : Int)) = ((↑m2 : Int)) ∧ (∃ (b3 : Bool), (∃ (n8 : Int), (∃ (n9 : Int), (∃ (xs4 : List (List Da)), (∃ (n10 : Int), (∃ (n11 : Int), (∃ (xs5 : List (List Da)), ((c[m2]?) = some [(.bool b3), (.int .i64 n8), (.int .i64 n9), (.sl xs4), (.int .i64 n10), (.int .i64 n11), (.sl xs5)] ∧ (∃ (n12 : Int), (∃ (n13 : Int), (∃ (xs6 : List (List Da)), (∃ (n14 : Int), (∃ (n15 : Int), (∃ (xs7 : List (List Da)), (∃ (b4 : Bool), (XC Tryz.prog 47 [(L s), (.dat [(.int .i64 n4), (.int .i64 n5), (.sl xs2)]), (.dat [(.int .i64 n10), (.int .i64 n11), (.sl xs5)])] [] (.tup [(.dat [(.int .i64 n12), (.int .i64 n13), (.sl xs6)]), (.dat [(.int .i64 n14), (.int .i64 n15), (.sl xs7)]), (B b4)]) [] ∧ ifB (!b4)
  (((.tup [(.dat [(.int .i64 ((0 : Int))), (.int .i64 ((0 : Int))), (.sl []), (.int .i64 ((0 : Int))), (.int .i64 ((0 : Int))), (.sl [])]), (B (false))]) = r ∧ [] = O))
  ((∃ (b5 : Bool), (XC Tryz.prog 48 [(L s), (.dat [(.int .i64 n12), (.int .i64 n13), (.sl xs6), (.int .i64 n14), (.int .i64 n15), (.sl xs7)])] [] (B b5) [] ∧ ifB (!b5)
  (((.tup [(.dat [(.int .i64 ((0 : Int))), (.int .i64 ((0 : Int))), (.sl []), (.int .i64 ((0 : Int))), (.int .i64 ((0 : Int))), (.sl [])]), (B (false))]) = r ∧ [] = O))
  (((.tup [(.dat [(.int .i64 n12), (.int .i64 n13), (.sl xs6), (.int .i64 n14), (.int .i64 n15), (.sl xs7)]), (B (true))]) = r ∧ [] = O))))))))))))))))))))))))))))))))))))))))))))))))) : XC Tryz.prog 11 [(L s), (.dat [(.sl c)])] [] r O :=
  b0q (E := env) (hs := a3Xq) (c := (a1q Tryz.f11)) (n := 60) (res := [.cell 4 32, .tmp 5]) (rs := .t [.d [(.i .i64), (.i .i64), .l, (.i .i64), (.i .i64), .l], .c .b]) (ks := []) (dir := []) envOk a4q rfl Tryz.func11 (by kernel_rfl) (by kernel_rfl) (by kernel_rfl) (by kernel_rfl) (a5q (by kernel_rfl) h)
def a3Oq : a9q := ⟨[], []⟩
theorem a2cq {s : List (List Da)} {c : List (List Da)} {r : AV} {O : List (Nat × Ob)} (h : (∃ (b : Bool), (XC Tryz.prog 51 [(L s), (.dat [(.sl c)])] [] (B b) [] ∧ ifB (!b)
  (((.tup [(.agg [(.d (.int .i64 ((0 : Int)))), (.d (.int .i64 ((0 : Int)))), (.ol 0), (.d (.int .i64 ((0 : Int)))), (.d (.int .i64 ((0 : Int)))), (.ol 1)]), (B (false))]) = r ∧ [(0, (.tr 30 3 [])), (1, (.tr 30 3 []))] = O))
  (ifB (decide ((↑(List.length c) : Int) ≠ (1 : Int)))
  (((.tup [(.agg [(.d (.int .i64 ((0 : Int)))), (.d (.int .i64 ((0 : Int)))), (.ol 0), (.d (.int .i64 ((0 : Int)))), (.d (.int .i64 ((0 : Int)))), (.ol 1)]), (B (false))]) = r ∧ [(0, (.tr 30 3 [])), (1, (.tr 30 3 []))] = O))
  ((∃ (m : Nat), (((0 : Int)) = ((↑m : Int)) ∧ (∃ (b1 : Bool), (∃ (n : Int), (∃ (n1 : Int), (∃ (xs : List (List Da)), (∃ (n2 : Int), (∃ (n3 : Int), (∃ (xs1 : List (List Da)), ((c[m]?) = some [(.bool b1), (.int .i64 n), (.int .i64 n1), (.sl xs), (.int .i64 n2), (.int .i64 n3), (.sl xs1)] ∧ ifB (!b1)
  (((.tup [(.agg [(.d (.int .i64 ((0 : Int)))), (.d (.int .i64 ((0 : Int)))), (.ol 0), (.d (.int .i64 ((0 : Int)))), (.d (.int .i64 ((0 : Int)))), (.ol 1)]), (B (false))]) = r ∧ [(0, (.tr 30 3 [])), (1, (.tr 30 3 []))] = O))
  ((∃ (m1 : Nat), (((0 : Int)) = ((↑m1 : Int)) ∧ (∃ (b2 : Bool), (∃ (n4 : Int), (∃ (n5 : Int), (∃ (xs2 : List (List Da)), (∃ (n6 : Int), (∃ (n7 : Int), (∃ (xs3 : List (List Da)), ((c[m1]?) = some [(.bool b2), (.int .i64 n4), (.int .i64 n5), (.sl xs2), (.int .i64 n6), (.int .i64 n7), (.sl xs3)] ∧ (∃ (m2 : Nat), (((0 : Int)) = ((↑m2 : Int)) ∧ (∃ (b3 : Bool), (∃ (n8 : Int), (∃ (n9 : Int), (∃ (xs4 : List (List Da)), (∃ (n10 : Int), (∃ (n11 : Int), (∃ (xs5 : List (List Da)), ((c[m2]?) = some [(.bool b3), (.int .i64 n8), (.int .i64 n9), (.sl xs4), (.int .i64 n10), (.int .i64 n11), (.sl xs5)] ∧ (∃ (n12 : Int), (∃ (n13 : Int), (∃ (xs6 : List (List Da)), (∃ (n14 : Int), (∃ (n15 : Int), (∃ (xs7 : List (List Da)), (∃ (b4 : Bool), (XC Tryz.prog 52 [(L s), (.dat [(.int .i64 n4), (.int .i64 n5), (.sl xs2)]), (.dat [(.int .i64 n10), (.int .i64 n11), (.sl xs5)])] [] (.tup [(.agg [(.d (.int .i64 n12)), (.d (.int .i64 n13)), (.ol 0)]), (.agg [(.d (.int .i64 n14)), (.d (.int .i64 n15)), (.ol 1)]), (B b4)]) [(0, (.tr 30 3 xs6)), (1, (.tr 30 3 xs7))] ∧ ifB (!b4)
  (((.tup [(.agg [(.d (.int .i64 ((0 : Int)))), (.d (.int .i64 ((0 : Int)))), (.ol 0), (.d (.int .i64 ((0 : Int)))), (.d (.int .i64 ((0 : Int)))), (.ol 1)]), (B (false))]) = r ∧ [(0, (.tr 30 3 [])), (1, (.tr 30 3 []))] = O))
  ((∃ (b5 : Bool), (XC Tryz.prog 53 [(L s), (.dat [(.int .i64 n12), (.int .i64 n13), (.sl xs6), (.int .i64 n14), (.int .i64 n15), (.sl xs7)])] [] (B b5) [] ∧ ifB (!b5)
  (((.tup [(.agg [(.d (.int .i64 ((0 : Int)))), (.d (.int .i64 ((0 : Int)))), (.ol 0), (.d (.int .i64 ((0 : Int)))), (.d (.int .i64 ((0 : Int)))), (.ol 1)]), (B (false))]) = r ∧ [(0, (.tr 30 3 [])), (1, (.tr 30 3 []))] = O))
  (((.tup [(.agg [(.d (.int .i64 n12)), (.d (.int .i64 n13)), (.ol 0), (.d (.int .i64 n14)), (.d (.int .i64 n15)), (.ol 1)]), (B (true))]) = r ∧ [(0, (.tr 30 3 xs6)), (1, (.tr 30 3 xs7))] = O))))))))))))))))))))))))))))))))))))))))))))))))) : XC Tryz.prog 14 [(L s), (.dat [(.sl c)])] [] r O :=
  b0q (E := env) (hs := a3Oq) (c := (a1q Tryz.f14)) (n := 58) (res := [.cell 4 32, .tmp 5]) (rs := .t [.s [.k (.i .i64), .k (.i .i64), .o 30 3, .k (.i .i64), .k (.i .i64), .o 30 3], .c .b]) (ks := []) (dir := []) envOk a4q rfl Tryz.func14 (by kernel_rfl) (by kernel_rfl) (by kernel_rfl) (by kernel_rfl) (a5q (by kernel_rfl) h)
def a3Aq : a9q := ⟨[], []⟩
theorem a2Qq {a : Int} {a1 : Int} {a2 : List (List Da)} {a3 : Int} {a4 : Int} {a5 : List (List Da)} {b : Int} {b1 : Int} {b2 : List (List Da)} {b3 : Int} {b4 : Int} {b5 : List (List Da)} {r : AV} {O : List (Nat × Ob)} (h : (∃ (b6 : Bool), (XC Tryz.prog 54 [(.dat [(.int .i64 a), (.int .i64 a1), (.sl a2)]), (.dat [(.int .i64 b), (.int .i64 b1), (.sl b2)])] [] (B b6) [] ∧ ifB (!b6)
  (((B (false)) = r ∧ [] = O))
  ((∃ (b7 : Bool), (XC Tryz.prog 54 [(.dat [(.int .i64 a3), (.int .i64 a4), (.sl a5)]), (.dat [(.int .i64 b3), (.int .i64 b4), (.sl b5)])] [] (B b7) [] ∧ ifB (!b7)
  (((B (false)) = r ∧ [] = O))
  (((B (true)) = r ∧ [] = O)))))))) : XC Tryz.prog 15 [(.dat [(.int .i64 a), (.int .i64 a1), (.sl a2), (.int .i64 a3), (.int .i64 a4), (.sl a5)]), (.dat [(.int .i64 b), (.int .i64 b1), (.sl b2), (.int .i64 b3), (.int .i64 b4), (.sl b5)])] [] r O :=
  b0q (E := env) (hs := a3Aq) (c := (a1q Tryz.f15)) (n := 17) (res := [.tmp 4]) (rs := .c .b) (ks := []) (dir := []) envOk a4q rfl Tryz.func15 (by kernel_rfl) (by kernel_rfl) (by kernel_rfl) (by kernel_rfl) (a5q (by kernel_rfl) h)
def w0q : a9q := ⟨[(4, ⟨[0, 1, 5], [], [], [], [], [], []⟩)], []⟩
def o5q (r : AV) (O : List (Nat × Ob)) (a : List (List Da)) (b : List (List Da)) (i : Int) : Prop := CL 27 Tryz.prog (d6q (a1q Tryz.f16) [1, 1, 0, 1, 0, 0]) (b5q Tryz.prog env w0q 27 (a1q Tryz.f16) [1, 1, 0, 1, 0, 0] (a6q env [.tmp 4] (.c .b) [] [] r O) (b4q (a6q env [.tmp 4] (.c .b) [] [] r O))).1 (b5q Tryz.prog env w0q 27 (a1q Tryz.f16) [1, 1, 0, 1, 0, 0] (a6q env [.tmp 4] (.c .b) [] [] r O) (b4q (a6q env [.tmp 4] (.c .b) [] [] r O))).2 ⟨[(0, (L a)), (1, (L b)), (5, (Z i))], []⟩
theorem D9q {r : AV} {O : List (Nat × Ob)} {a : List (List Da)} {b : List (List Da)} {i : Int} (h : ifB (decide (i < (↑(List.length a) : Int)))
  ((∃ (m : Nat), (i = ((↑m : Int)) ∧ (∃ (q : ByteArray), (∃ (n : Int), (∃ (b2 : Bool), ((a[m]?) = some [(.str q), (.int .i64 n), (.bool b2)] ∧ (∃ (m1 : Nat), (i = ((↑m1 : Int)) ∧ (∃ (q1 : ByteArray), (∃ (n1 : Int), (∃ (b3 : Bool), ((b[m1]?) = some [(.str q1), (.int .i64 n1), (.bool b3)] ∧ (∃ (b4 : Bool), (XC Tryz.prog 55 [(.dat [(.str q), (.int .i64 n), (.bool b2)]), (.dat [(.str q1), (.int .i64 n1), (.bool b3)])] [] (B b4) [] ∧ ifB (!b4)
  (((B (false)) = r ∧ [] = O))
  (o5q r O a b (IntKind.wrap IntKind.i64 (i + (1 : Int)))))))))))))))))))
  (((B (true)) = r ∧ [] = O))) : o5q r O a b i := by
  unfold o5q
  refine c5q (E := env) (hs := w0q) envOk a4q ?_
  exact a5q (by kernel_rfl) h
theorem a2qq {a : List (List Da)} {b : List (List Da)} {r : AV} {O : List (Nat × Ob)} (h : ifB (decide ((↑(List.length a) : Int) ≠ (↑(List.length b) : Int)))
  (((B (false)) = r ∧ [] = O))
  (o5q r O a b ((0 : Int)))) : XC Tryz.prog 16 [(L a), (L b)] [] r O :=
  b0q (E := env) (hs := w0q) (c := (a1q Tryz.f16)) (n := 27) (res := [.tmp 4]) (rs := .c .b) (ks := []) (dir := []) envOk a4q rfl Tryz.func16 (by kernel_rfl) (by kernel_rfl) (by kernel_rfl) (by kernel_rfl) (a5q (by kernel_rfl) h)
def a15q : a9q := ⟨[], []⟩
theorem a0eq {a : List (List Da)} {b : List (List Da)} {r : AV} {O : List (Nat × Ob)} (h : (∃ (b1 : Bool), (XC Tryz.prog 56 [(L a), (L b)] [] (B b1) [] ∧ ifB (!b1)
  (((B (false)) = r ∧ [] = O))
  (((B (true)) = r ∧ [] = O))))) : XC Tryz.prog 17 [(.dat [(.sl a)]), (.dat [(.sl b)])] [] r O :=
  b0q (E := env) (hs := a15q) (c := (a1q Tryz.f17)) (n := 11) (res := [.tmp 4]) (rs := .c .b) (ks := []) (dir := []) envOk a4q rfl Tryz.func17 (by kernel_rfl) (by kernel_rfl) (by kernel_rfl) (by kernel_rfl) (a5q (by kernel_rfl) h)
def r2q : a9q := ⟨[(2, ⟨[0, 1, 5], [], [], [], [], [], []⟩)], []⟩
def k9q (r : AV) (O : List (Nat × Ob)) (k : Int) (i : Int) (a : List (List Da)) : Prop := CL 37 Tryz.prog (d6q (a1q Tryz.f18) [1, 0, 1, 0, 0]) (b5q Tryz.prog env r2q 37 (a1q Tryz.f18) [1, 0, 1, 0, 0] (a6q env [.tmp 4] (.c (.i .i64)) [(2000, (false))] [2000] r O) (b4q (a6q env [.tmp 4] (.c (.i .i64)) [(2000, (false))] [2000] r O))).1 (b5q Tryz.prog env r2q 37 (a1q Tryz.f18) [1, 0, 1, 0, 0] (a6q env [.tmp 4] (.c (.i .i64)) [(2000, (false))] [2000] r O) (b4q (a6q env [.tmp 4] (.c (.i .i64)) [(2000, (false))] [2000] r O))).2 ⟨[(0, (.one (.ol 2000))), (1, (Z k)), (5, (Z i))], [(2000, (.mt 89 3 a))]⟩
theorem A8q {r : AV} {O : List (Nat × Ob)} {k : Int} {i : Int} {a : List (List Da)} (h : ifB (decide (i < (↑(List.length a) : Int)))
  ((∃ (q : ByteArray), (XC Tryz.prog 57 [(Z k)] [] (T q) [] ∧ (∃ (m : Nat), (i = ((↑m : Int)) ∧ (Do (m < List.length a) ∧ (∃ (m1 : Nat), ((m * (3 : Nat) + (0 : Nat)) = (m1 * (3 : Nat) + (0 : Nat)) ∧ (∃ (q1 : ByteArray), (∃ (n : Int), (∃ (b : Bool), ((a[m1]?) = some [(.str q1), (.int .i64 n), (.bool b)] ∧ (∃ (m2 : Nat), (i = ((↑m2 : Int)) ∧ (Do (m2 < List.length (List.set a m1 ([] ++ [Da.str q] ++ [Da.int IntKind.i64 n, Da.bool b]))) ∧ (∃ (m3 : Nat), ((m2 * (3 : Nat) + (1 : Nat)) = (m3 * (3 : Nat) + Nat.succ (nat_lit 0)) ∧ (∃ (q2 : ByteArray), (∃ (n1 : Int), (∃ (b1 : Bool), (((List.set a m1 ([] ++ [Da.str q] ++ [Da.int IntKind.i64 n, Da.bool b]))[m3]?) = some [(.str q2), (.int .i64 n1), (.bool b1)] ∧ (Do ((3 : Int) ≠ (0 : Int)) ∧ (∃ (m4 : Nat), (i = ((↑m4 : Int)) ∧ (Do (m4 < List.length (List.set (List.set a m1 ([] ++ [Da.str q] ++ [Da.int IntKind.i64 n, Da.bool b])) m3 ([Da.str q2] ++ [Da.int IntKind.i64 (IntKind.wrap IntKind.i64 (k + (1 : Int)))] ++ [Da.bool b1]))) ∧ (∃ (m5 : Nat), ((m4 * (3 : Nat) + (2 : Nat)) = (m5 * (3 : Nat) + Nat.succ (nat_lit 1)) ∧ (∃ (q3 : ByteArray), (∃ (n2 : Int), (∃ (b2 : Bool), (((List.set (List.set a m1 ([] ++ [Da.str q] ++ [Da.int IntKind.i64 n, Da.bool b])) m3 ([Da.str q2] ++ [Da.int IntKind.i64 (IntKind.wrap IntKind.i64 (k + (1 : Int)))] ++ [Da.bool b1]))[m5]?) = some [(.str q3), (.int .i64 n2), (.bool b2)] ∧ k9q r O (IntKind.wrap IntKind.i64 (IntKind.wrap IntKind.i64 (IntKind.wrap IntKind.i64 (k + (1 : Int)) + (1 : Int)) + (1 : Int))) (IntKind.wrap IntKind.i64 (i + (1 : Int))) (List.set (List.set (List.set a m1 ([] ++ [Da.str q] ++ [Da.int IntKind.i64 n, Da.bool b])) m3 ([Da.str q2] ++ [Da.int IntKind.i64 (IntKind.wrap IntKind.i64 (k + (1 : Int)))] ++ [Da.bool b1])) m5 ([Da.str q3, Da.int IntKind.i64 n2] ++ [Da.bool (decide (Int.tmod (IntKind.wrap IntKind.i64 (IntKind.wrap IntKind.i64 (k + (1 : Int)) + (1 : Int))) (3 : Int) = (0 : Int)))] ++ [])))))))))))))))))))))))))))))))))
  (((Z k) = r ∧ [(2000, (.mt 89 3 a))] = O))) : k9q r O k i a := by
  unfold k9q
  refine c5q (E := env) (hs := r2q) envOk a4q ?_
  exact a5q (by kernel_rfl) h
theorem a0Iq {k : Int} {o2000 : List (List Da)} {r : AV} {O : List (Nat × Ob)} (h : k9q r O k ((0 : Int)) o2000) : XC Tryz.prog 18 [(.one (.ol 2000)), (Z k)] [(2000, (.mt 89 3 o2000))] r O :=
  b0q (E := env) (hs := r2q) (c := (a1q Tryz.f18)) (n := 37) (res := [.tmp 4]) (rs := .c (.i .i64)) (ks := [(2000, (false))]) (dir := [2000]) envOk a4q rfl Tryz.func18 (by kernel_rfl) (by kernel_rfl) (by kernel_rfl) (by kernel_rfl) (a5q (by kernel_rfl) h)
def Z0q : a9q := ⟨[], []⟩
theorem W3q {k : Int} {o2000 : List (List Da)} {r : AV} {O : List (Nat × Ob)} (h : (∃ (n : Int), (∃ (xs : List (List Da)), (XC Tryz.prog 58 [(.one (.ol 2000)), (Z k)] [(2000, (.mt 85 7 o2000))] (Z n) [(2000, (.mt 85 7 xs))] ∧ ((Z n) = r ∧ [(2000, (.mt 85 7 xs))] = O))))) : XC Tryz.prog 19 [(.agg [(.ol 2000)]), (Z k)] [(2000, (.mt 85 7 o2000))] r O :=
  b0q (E := env) (hs := Z0q) (c := (a1q Tryz.f19)) (n := 10) (res := [.tmp 4]) (rs := .c (.i .i64)) (ks := [(2000, (false))]) (dir := [2000]) envOk a4q rfl Tryz.func19 (by kernel_rfl) (by kernel_rfl) (by kernel_rfl) (by kernel_rfl) (a5q (by kernel_rfl) h)
def a13q : a9q := ⟨[], []⟩
theorem a0Pq {a : Int} {a1 : Int} {a2 : Int} {a3 : Int} {k : Int} {o2000 : List (List Da)} {o2001 : List (List Da)} {r : AV} {O : List (Nat × Ob)} (h : (∃ (n : Int), (∃ (xs : List (List Da)), (XC Tryz.prog 59 [(.agg [(.d (.int .i64 a)), (.d (.int .i64 a1)), (.ol 2000)]), (Z k)] [(2000, (.mt 30 3 o2000))] (Z n) [(2000, (.mt 30 3 xs))] ∧ (∃ (n1 : Int), (∃ (xs1 : List (List Da)), (XC Tryz.prog 59 [(.agg [(.d (.int .i64 a2)), (.d (.int .i64 a3)), (.ol 2000)]), (Z n)] [(2000, (.mt 30 3 o2001))] (Z n1) [(2000, (.mt 30 3 xs1))] ∧ ((Z n1) = r ∧ [(2000, (.mt 30 3 xs)), (2001, (.mt 30 3 xs1))] = O)))))))) : XC Tryz.prog 20 [(.agg [(.d (.int .i64 a)), (.d (.int .i64 a1)), (.ol 2000), (.d (.int .i64 a2)), (.d (.int .i64 a3)), (.ol 2001)]), (Z k)] [(2000, (.mt 30 3 o2000)), (2001, (.mt 30 3 o2001))] r O :=
  b0q (E := env) (hs := a13q) (c := (a1q Tryz.f20)) (n := 14) (res := [.tmp 4]) (rs := .c (.i .i64)) (ks := [(2000, (false)), (2001, (false))]) (dir := [2000, 2001]) envOk a4q rfl Tryz.func20 (by kernel_rfl) (by kernel_rfl) (by kernel_rfl) (by kernel_rfl) (a5q (by kernel_rfl) h)
def a23q : a9q := ⟨[], []⟩
theorem a0rq {a : Int} {a1 : Int} {a2 : List (List Da)} {a3 : Int} {a4 : Int} {a5 : List (List Da)} {k : Int} {r : AV} {O : List (Nat × Ob)} (h : (∃ (n : Int), (XC Tryz.prog 60 [(.dat [(.int .i64 a), (.int .i64 a1), (.sl a2)]), (Z k)] [] (Z n) [] ∧ ifB (decide (n < (0 : Int)))
  (((Z ((-1 : Int))) = r ∧ [] = O))
  ((∃ (n1 : Int), (XC Tryz.prog 60 [(.dat [(.int .i64 a3), (.int .i64 a4), (.sl a5)]), (Z n)] [] (Z n1) [] ∧ ifB (decide (n1 < (0 : Int)))
  (((Z ((-1 : Int))) = r ∧ [] = O))
  (((Z n1) = r ∧ [] = O)))))))) : XC Tryz.prog 21 [(.dat [(.int .i64 a), (.int .i64 a1), (.sl a2), (.int .i64 a3), (.int .i64 a4), (.sl a5)]), (Z k)] [] r O :=
  b0q (E := env) (hs := a23q) (c := (a1q Tryz.f21)) (n := 18) (res := [.tmp 4]) (rs := .c (.i .i64)) (ks := []) (dir := []) envOk a4q rfl Tryz.func21 (by kernel_rfl) (by kernel_rfl) (by kernel_rfl) (by kernel_rfl) (a5q (by kernel_rfl) h)
def a5lq : a9q := ⟨[], []⟩
theorem a3yq {a : ByteArray} {a1 : Int} {a2 : Bool} {left : Int} {r : AV} {O : List (Nat × Ob)} (h : ifB (decide (IntKind.wrap IntKind.i64 (left - (↑(ByteArray.size a) : Int)) < (0 : Int)))
  (((Z ((-1 : Int))) = r ∧ [] = O))
  (((Z (IntKind.wrap IntKind.i64 (left - (↑(ByteArray.size a) : Int)))) = r ∧ [] = O))) : XC Tryz.prog 44 [(.dat [(.str a), (.int .i64 a1), (.bool a2)]), (Z left)] [] r O :=
  b0q (E := env) (hs := a5lq) (c := (a1q Tryz.f44)) (n := 13) (res := [.tmp 4]) (rs := .c (.i .i64)) (ks := []) (dir := []) envOk a4q rfl Tryz.func44 (by kernel_rfl) (by kernel_rfl) (by kernel_rfl) (by kernel_rfl) (a5q (by kernel_rfl) h)
def v4q : a9q := ⟨[(5, ⟨[0, 1, 5], [], [], [], [], [], []⟩)], []⟩
def o0q (r : AV) (O : List (Nat × Ob)) (a : List (List Da)) (left : Int) (i : Int) : Prop := CL 27 Tryz.prog (d6q (a1q Tryz.f45) [1, 1, 1, 0, 1, 0, 0]) (b5q Tryz.prog env v4q 27 (a1q Tryz.f45) [1, 1, 1, 0, 1, 0, 0] (a6q env [.tmp 4] (.c (.i .i64)) [] [] r O) (b4q (a6q env [.tmp 4] (.c (.i .i64)) [] [] r O))).1 (b5q Tryz.prog env v4q 27 (a1q Tryz.f45) [1, 1, 1, 0, 1, 0, 0] (a6q env [.tmp 4] (.c (.i .i64)) [] [] r O) (b4q (a6q env [.tmp 4] (.c (.i .i64)) [] [] r O))).2 ⟨[(0, (L a)), (1, (Z left)), (5, (Z i))], []⟩
theorem F1q {r : AV} {O : List (Nat × Ob)} {a : List (List Da)} {left : Int} {i : Int} (h : ifB (decide (i < (↑(List.length a) : Int)))
  ((∃ (m : Nat), (i = ((↑m : Int)) ∧ (∃ (b : Bool), (∃ (n : Int), (∃ (n1 : Int), (∃ (xs : List (List Da)), (∃ (n2 : Int), (∃ (n3 : Int), (∃ (xs1 : List (List Da)), ((a[m]?) = some [(.bool b), (.int .i64 n), (.int .i64 n1), (.sl xs), (.int .i64 n2), (.int .i64 n3), (.sl xs1)] ∧ (∃ (n4 : Int), (XC Tryz.prog 105 [(.dat [(.bool b), (.int .i64 n), (.int .i64 n1), (.sl xs), (.int .i64 n2), (.int .i64 n3), (.sl xs1)]), (Z left)] [] (Z n4) [] ∧ ifB (decide (n4 < (0 : Int)))
  (((Z ((-1 : Int))) = r ∧ [] = O))
  (o0q r O a n4 (IntKind.wrap IntKind.i64 (i + (1 : Int)))))))))))))))))
  (((Z left) = r ∧ [] = O))) : o0q r O a left i := by
  unfold o0q
  refine c5q (E := env) (hs := v4q) envOk a4q ?_
  exact a5q (by kernel_rfl) h
theorem a2Wq {a : List (List Da)} {left : Int} {r : AV} {O : List (Nat × Ob)} (h : ifB (decide (IntKind.wrap IntKind.i64 (left - (↑(List.length a) : Int)) < (0 : Int)))
  (((Z ((-1 : Int))) = r ∧ [] = O))
  (o0q r O a (IntKind.wrap IntKind.i64 (left - (↑(List.length a) : Int))) ((0 : Int)))) : XC Tryz.prog 45 [(L a), (Z left)] [] r O :=
  b0q (E := env) (hs := v4q) (c := (a1q Tryz.f45)) (n := 27) (res := [.tmp 4]) (rs := .c (.i .i64)) (ks := []) (dir := []) envOk a4q rfl Tryz.func45 (by kernel_rfl) (by kernel_rfl) (by kernel_rfl) (by kernel_rfl) (a5q (by kernel_rfl) h)
def a5zq : a9q := ⟨[], []⟩
theorem a4aq {a : ByteArray} {a1 : Int} {a2 : Bool} {r : AV} {O : List (Nat × Ob)} (h : ((.dat [(.str a), (.int .i64 a1), (.bool a2)]) = r ∧ [] = O)) : XC Tryz.prog 49 [(.dat [(.str a), (.int .i64 a1), (.bool a2)])] [] r O :=
  b0q (E := env) (hs := a5zq) (c := (a1q Tryz.f49)) (n := 14) (res := [.cell 2 89]) (rs := .d [.s, (.i .i64), .b]) (ks := []) (dir := []) envOk a4q rfl Tryz.func49 (by kernel_rfl) (by kernel_rfl) (by kernel_rfl) (by kernel_rfl) (a5q (by kernel_rfl) h)
def v8q : a9q := ⟨[(3, ⟨[0, 3, 4], [], [], [], [], [], []⟩)], []⟩
def o6q (r : AV) (O : List (Nat × Ob)) (a : List (List Da)) (i : Int) (out : List (List Da)) : Prop := CL 23 Tryz.prog (d6q (a1q Tryz.f50) [1, 1, 0, 1, 0, 0]) (b5q Tryz.prog env v8q 23 (a1q Tryz.f50) [1, 1, 0, 1, 0, 0] (a6q env [.tmp 2] (.o 85 7) [] [] r O) (b4q (a6q env [.tmp 2] (.o 85 7) [] [] r O))).1 (b5q Tryz.prog env v8q 23 (a1q Tryz.f50) [1, 1, 0, 1, 0, 0] (a6q env [.tmp 2] (.o 85 7) [] [] r O) (b4q (a6q env [.tmp 2] (.o 85 7) [] [] r O))).2 ⟨[(0, (L a)), (3, (.one (.ol 1900))), (4, (Z i))], [(1900, (.tr 85 7 out))]⟩
theorem F4q {r : AV} {O : List (Nat × Ob)} {a : List (List Da)} {i : Int} {out : List (List Da)} (h : ifB (decide (i < (↑(List.length a) : Int)))
  ((∃ (m : Nat), (i = ((↑m : Int)) ∧ (∃ (b : Bool), (∃ (n : Int), (∃ (n1 : Int), (∃ (xs : List (List Da)), (∃ (n2 : Int), (∃ (n3 : Int), (∃ (xs1 : List (List Da)), ((a[m]?) = some [(.bool b), (.int .i64 n), (.int .i64 n1), (.sl xs), (.int .i64 n2), (.int .i64 n3), (.sl xs1)] ∧ (∃ (b1 : Bool), (∃ (n4 : Int), (∃ (n5 : Int), (∃ (xs2 : List (List Da)), (∃ (n6 : Int), (∃ (n7 : Int), (∃ (xs3 : List (List Da)), (XC Tryz.prog 114 [(.dat [(.bool b), (.int .i64 n), (.int .i64 n1), (.sl xs), (.int .i64 n2), (.int .i64 n3), (.sl xs1)])] [] (.agg [(.d (.bool b1)), (.d (.int .i64 n4)), (.d (.int .i64 n5)), (.ol 0), (.d (.int .i64 n6)), (.d (.int .i64 n7)), (.ol 1)]) [(0, (.tr 30 3 xs2)), (1, (.tr 30 3 xs3))] ∧ (∃ (m1 : Nat), (i = ((↑m1 : Int)) ∧ (Do (m1 < List.length out) ∧ (∃ (m2 : Nat), ((m1 * (7 : Nat)) = (m2 * (7 : Nat) + (0 : Nat)) ∧ (∃ (b2 : Bool), (∃ (n8 : Int), (∃ (n9 : Int), (∃ (xs4 : List (List Da)), (∃ (n10 : Int), (∃ (n11 : Int), (∃ (xs5 : List (List Da)), ((out[m2]?) = some [(.bool b2), (.int .i64 n8), (.int .i64 n9), (.sl xs4), (.int .i64 n10), (.int .i64 n11), (.sl xs5)] ∧ o6q r O a (IntKind.wrap IntKind.i64 (i + (1 : Int))) (List.set out m2 ([] ++ [Da.bool b1, Da.int IntKind.i64 n4, Da.int IntKind.i64 n5, Da.sl xs2, Da.int IntKind.i64 n6, Da.int IntKind.i64 n7, Da.sl xs3] ++ []))))))))))))))))))))))))))))))))))
  (((.one (.ol 0)) = r ∧ [(0, (.tr 85 7 out))] = O))) : o6q r O a i out := by
  unfold o6q
  refine c5q (E := env) (hs := v8q) envOk a4q ?_
  exact a5q (by kernel_rfl) h
theorem a2Zq {a : List (List Da)} {r : AV} {O : List (Nat × Ob)} (h : (∃ (l : Nat), (∃ (c : Nat), (((↑(List.length a) : Int)) = ((↑l : Int)) ∧ (((↑(List.length a) : Int)) = ((↑c : Int)) ∧ (Do (l ≤ c ∧ (88 : Nat) * c ≤ (281474976710656 : Nat) ∧ c ≤ (281474976710656 : Nat)) ∧ o6q r O a ((0 : Int)) (List.replicate l [Da.bool false, Da.int IntKind.i64 (0 : Int), Da.int IntKind.i64 (0 : Int), Da.sl [], Da.int IntKind.i64 (0 : Int), Da.int IntKind.i64 (0 : Int), Da.sl []]))))))) : XC Tryz.prog 50 [(L a)] [] r O :=
  b0q (E := env) (hs := v8q) (c := (a1q Tryz.f50)) (n := 23) (res := [.tmp 2]) (rs := .o 85 7) (ks := []) (dir := []) envOk a4q rfl Tryz.func50 (by kernel_rfl) (by kernel_rfl) (by kernel_rfl) (by kernel_rfl) (a5q (by kernel_rfl) h)
def r4q : a9q := ⟨[(2, ⟨[0, 3, 5], [], [], [], [], [], []⟩)], []⟩
def h3q (r : AV) (O : List (Nat × Ob)) (s : List (List Da)) (i : Int) (c : List (List Da)) : Prop := CL 44 Tryz.prog (d6q (a1q Tryz.f46) [1, 0, 1, 0, 0]) (b5q Tryz.prog env r4q 44 (a1q Tryz.f46) [1, 0, 1, 0, 0] (a6q env [.tmp 4] (.c .b) [] [] r O) (b4q (a6q env [.tmp 4] (.c .b) [] [] r O))).1 (b5q Tryz.prog env r4q 44 (a1q Tryz.f46) [1, 0, 1, 0, 0] (a6q env [.tmp 4] (.c .b) [] [] r O) (b4q (a6q env [.tmp 4] (.c .b) [] [] r O))).2 ⟨[(0, (L s)), (3, (.one (.op 1900 0))), (5, (Z i))], [(1900, (.var [(.d (.sl c))]))]⟩
theorem A9q {r : AV} {O : List (Nat × Ob)} {s : List (List Da)} {i : Int} {c : List (List Da)} (h : ifB (decide (i < (↑(List.length c) : Int)))
  ((∃ (m : Nat), (i = ((↑m : Int)) ∧ (∃ (b : Bool), (∃ (n : Int), (∃ (n1 : Int), (∃ (xs : List (List Da)), (∃ (n2 : Int), (∃ (n3 : Int), (∃ (xs1 : List (List Da)), ((c[m]?) = some [(.bool b), (.int .i64 n), (.int .i64 n1), (.sl xs), (.int .i64 n2), (.int .i64 n3), (.sl xs1)] ∧ (∃ (b1 : Bool), (XC Tryz.prog 106 [(L s), (.dat [(.bool b), (.int .i64 n), (.int .i64 n1), (.sl xs), (.int .i64 n2), (.int .i64 n3), (.sl xs1)])] [] (B b1) [] ∧ ifB (!b1)
  (((B (false)) = r ∧ [] = O))
  (ifB (decide ((0 : Int) < i))
  ((∃ (m1 : Nat), ((IntKind.wrap IntKind.i64 (i - (1 : Int))) = ((↑m1 : Int)) ∧ (∃ (b2 : Bool), (∃ (n4 : Int), (∃ (n5 : Int), (∃ (xs2 : List (List Da)), (∃ (n6 : Int), (∃ (n7 : Int), (∃ (xs3 : List (List Da)), ((c[m1]?) = some [(.bool b2), (.int .i64 n4), (.int .i64 n5), (.sl xs2), (.int .i64 n6), (.int .i64 n7), (.sl xs3)] ∧ (∃ (m2 : Nat), (i = ((↑m2 : Int)) ∧ (∃ (b3 : Bool), (∃ (n8 : Int), (∃ (n9 : Int), (∃ (xs4 : List (List Da)), (∃ (n10 : Int), (∃ (n11 : Int), (∃ (xs5 : List (List Da)), ((c[m2]?) = some [(.bool b3), (.int .i64 n8), (.int .i64 n9), (.sl xs4), (.int .i64 n10), (.int .i64 n11), (.sl xs5)] ∧ (∃ (b4 : Bool), (XC Tryz.prog 107 [(.dat [(.bool b2), (.int .i64 n4), (.int .i64 n5), (.sl xs2), (.int .i64 n6), (.int .i64 n7), (.sl xs3)]), (.dat [(.bool b3), (.int .i64 n8), (.int .i64 n9), (.sl xs4), (.int .i64 n10), (.int .i64 n11), (.sl xs5)])] [] (B b4) [] ∧ ifB (!b4)
  (((B (false)) = r ∧ [] = O))
  (h3q r O s (IntKind.wrap IntKind.i64 (i + (1 : Int))) c))))))))))))))))))))))))
  (h3q r O s (IntKind.wrap IntKind.i64 (i + (1 : Int))) c)))))))))))))))
  (((B (decide ((↑(List.length c) : Int) ≤ (8 : Int)))) = r ∧ [] = O))) : h3q r O s i c := by
  unfold h3q
  refine c5q (E := env) (hs := r4q) envOk a4q ?_
  exact a5q (by kernel_rfl) h
theorem a0hq {s : List (List Da)} {c : List (List Da)} {r : AV} {O : List (Nat × Ob)} (h : h3q r O s ((0 : Int)) c) : XC Tryz.prog 46 [(L s), (.dat [(.sl c)])] [] r O :=
  b0q (E := env) (hs := r4q) (c := (a1q Tryz.f46)) (n := 44) (res := [.tmp 4]) (rs := .c .b) (ks := []) (dir := []) envOk a4q rfl Tryz.func46 (by kernel_rfl) (by kernel_rfl) (by kernel_rfl) (by kernel_rfl) (a5q (by kernel_rfl) h)
def a1fq : a9q := ⟨[], []⟩
theorem a0cq {s : List (List Da)} {a : Int} {a1 : Int} {a2 : List (List Da)} {b : Int} {b1 : Int} {b2 : List (List Da)} {r : AV} {O : List (Nat × Ob)} (h : (∃ (b3 : Bool), (XC Tryz.prog 108 [(L s), (.dat [(.int .i64 b), (.int .i64 b1), (.sl b2)]), (.dat [(.int .i64 a), (.int .i64 a1), (.sl a2)])] [] (B b3) [] ∧ ifB b3
  ((∃ (n : Int), (∃ (n1 : Int), (∃ (xs : List (List Da)), (XC Tryz.prog 109 [(.dat [(.int .i64 b), (.int .i64 b1), (.sl b2)])] [] (.dat [(.int .i64 n), (.int .i64 n1), (.sl xs)]) [] ∧ (∃ (n2 : Int), (∃ (n3 : Int), (∃ (xs1 : List (List Da)), (XC Tryz.prog 109 [(.dat [(.int .i64 a), (.int .i64 a1), (.sl a2)])] [] (.dat [(.int .i64 n2), (.int .i64 n3), (.sl xs1)]) [] ∧ ((.tup [(.dat [(.int .i64 n), (.int .i64 n1), (.sl xs)]), (.dat [(.int .i64 n2), (.int .i64 n3), (.sl xs1)]), (B (true))]) = r ∧ [] = O))))))))))
  ((∃ (n4 : Int), (∃ (n5 : Int), (∃ (xs2 : List (List Da)), (XC Tryz.prog 109 [(.dat [(.int .i64 a), (.int .i64 a1), (.sl a2)])] [] (.dat [(.int .i64 n4), (.int .i64 n5), (.sl xs2)]) [] ∧ (∃ (n6 : Int), (∃ (n7 : Int), (∃ (xs3 : List (List Da)), (XC Tryz.prog 109 [(.dat [(.int .i64 b), (.int .i64 b1), (.sl b2)])] [] (.dat [(.int .i64 n6), (.int .i64 n7), (.sl xs3)]) [] ∧ (∃ (b4 : Bool), (XC Tryz.prog 108 [(L s), (.dat [(.int .i64 a), (.int .i64 a1), (.sl a2)]), (.dat [(.int .i64 b), (.int .i64 b1), (.sl b2)])] [] (B b4) [] ∧ ((.tup [(.dat [(.int .i64 n4), (.int .i64 n5), (.sl xs2)]), (.dat [(.int .i64 n6), (.int .i64 n7), (.sl xs3)]), (B b4)]) = r ∧ [] = O))))))))))))))) : XC Tryz.prog 47 [(L s), (.dat [(.int .i64 a), (.int .i64 a1), (.sl a2)]), (.dat [(.int .i64 b), (.int .i64 b1), (.sl b2)])] [] r O :=
  b0q (E := env) (hs := a1fq) (c := (a1q Tryz.f47)) (n := 25) (res := [.cell 6 30, .cell 7 30, .tmp 8]) (rs := .t [.d [(.i .i64), (.i .i64), .l], .d [(.i .i64), (.i .i64), .l], .c .b]) (ks := []) (dir := []) envOk a4q rfl Tryz.func47 (by kernel_rfl) (by kernel_rfl) (by kernel_rfl) (by kernel_rfl) (a5q (by kernel_rfl) h)
def w9q : a9q := ⟨[(5, ⟨[3, 5, 6], [], [], [], [], [], []⟩)], []⟩
def o4q (r : AV) (O : List (Nat × Ob)) (list : List (List Da)) (i : Int) (r_ : Int) (r_1 : Int) (r_2 : List (List Da)) (r_3 : Int) (r_4 : Int) (r_5 : List (List Da)) : Prop := CL 54 Tryz.prog (d6q (a1q Tryz.f48) [1, 1, 1, 0, 1, 0, 0]) (b5q Tryz.prog env w9q 54 (a1q Tryz.f48) [1, 1, 1, 0, 1, 0, 0] (a6q env [.tmp 4] (.c .b) [] [] r O) (b4q (a6q env [.tmp 4] (.c .b) [] [] r O))).1 (b5q Tryz.prog env w9q 54 (a1q Tryz.f48) [1, 1, 1, 0, 1, 0, 0] (a6q env [.tmp 4] (.c .b) [] [] r O) (b4q (a6q env [.tmp 4] (.c .b) [] [] r O))).2 ⟨[(3, (.one (.op 1900 0))), (5, (L list)), (6, (Z i))], [(1900, (.var [(.d (.int .i64 r_)), (.d (.int .i64 r_1)), (.d (.sl r_2)), (.d (.int .i64 r_3)), (.d (.int .i64 r_4)), (.d (.sl r_5))]))]⟩
theorem F2q {r : AV} {O : List (Nat × Ob)} {list : List (List Da)} {i : Int} {r_ : Int} {r_1 : Int} {r_2 : List (List Da)} {r_3 : Int} {r_4 : Int} {r_5 : List (List Da)} (h : ifB (decide (i < (↑(List.length list) : Int)))
  ((∃ (m : Nat), (i = ((↑m : Int)) ∧ (∃ (n : Int), ((list[m]?) = some [(.int .i64 n)] ∧ (∃ (n1 : Int), (XC Tryz.prog 113 [(.dat [(.int .i64 r_), (.int .i64 r_1), (.sl r_2)]), (Z n)] [] (Z n1) [] ∧ ifB (decide (n1 = (0 : Int)))
  (((B (false)) = r ∧ [] = O))
  (o4q r O list (IntKind.wrap IntKind.i64 (i + (1 : Int))) r_ r_1 r_2 r_3 r_4 r_5))))))))
  (((B (true)) = r ∧ [] = O))) : o4q r O list i r_ r_1 r_2 r_3 r_4 r_5 := by
  unfold o4q
  refine c5q (E := env) (hs := w9q) envOk a4q ?_
  exact a5q (by kernel_rfl) h
theorem a31q {s : List (List Da)} {r_ : Int} {r_1 : Int} {r_2 : List (List Da)} {r_3 : Int} {r_4 : Int} {r_5 : List (List Da)} {r : AV} {O : List (Nat × Ob)} (h : (∃ (b : Bool), (XC Tryz.prog 110 [(L s), (.dat [(.int .i64 r_), (.int .i64 r_1), (.sl r_2)])] [] (B b) [] ∧ ifB (!b)
  (((B (false)) = r ∧ [] = O))
  ((∃ (b1 : Bool), (XC Tryz.prog 110 [(L s), (.dat [(.int .i64 r_3), (.int .i64 r_4), (.sl r_5)])] [] (B b1) [] ∧ ifB (!b1)
  (((B (false)) = r ∧ [] = O))
  (ifB (decide (r_ = (-1 : Int)))
  (((B (false)) = r ∧ [] = O))
  ((∃ (b2 : Bool), (XC Tryz.prog 111 [(.dat [(.int .i64 r_), (.int .i64 r_1), (.sl r_2)]), (Z ((60 : Int)))] [] (B b2) [] ∧ ifB (!b2)
  (((B (false)) = r ∧ [] = O))
  ((∃ (b3 : Bool), (XC Tryz.prog 111 [(.dat [(.int .i64 r_3), (.int .i64 r_4), (.sl r_5)]), (Z ((60 : Int)))] [] (B b3) [] ∧ ifB (!b3)
  (((B (false)) = r ∧ [] = O))
  ((∃ (xs : List (List Da)), (XC Tryz.prog 112 [(.dat [(.int .i64 r_3), (.int .i64 r_4), (.sl r_5)])] [] (L xs) [] ∧ o4q r O xs ((0 : Int)) r_ r_1 r_2 r_3 r_4 r_5)))))))))))))))) : XC Tryz.prog 48 [(L s), (.dat [(.int .i64 r_), (.int .i64 r_1), (.sl r_2), (.int .i64 r_3), (.int .i64 r_4), (.sl r_5)])] [] r O :=
  b0q (E := env) (hs := w9q) (c := (a1q Tryz.f48)) (n := 54) (res := [.tmp 4]) (rs := .c .b) (ks := []) (dir := []) envOk a4q rfl Tryz.func48 (by kernel_rfl) (by kernel_rfl) (by kernel_rfl) (by kernel_rfl) (a5q (by kernel_rfl) h)
def s0q : a9q := ⟨[(2, ⟨[0, 3, 8, 9, 10], [], [], [], [], [], []⟩)], []⟩
def h2q (r : AV) (O : List (Nat × Ob)) (s : List (List Da)) (s8 : List (List Da)) (s9 : Int) (s10 : Int) (c : List (List Da)) : Prop := CL 39 Tryz.prog (d6q (a1q Tryz.f51) [1, 0, 1, 0, 0]) (b5q Tryz.prog env s0q 39 (a1q Tryz.f51) [1, 0, 1, 0, 0] (a6q env [.tmp 4] (.c .b) [] [] r O) (b4q (a6q env [.tmp 4] (.c .b) [] [] r O))).1 (b5q Tryz.prog env s0q 39 (a1q Tryz.f51) [1, 0, 1, 0, 0] (a6q env [.tmp 4] (.c .b) [] [] r O) (b4q (a6q env [.tmp 4] (.c .b) [] [] r O))).2 ⟨[(0, (L s)), (3, (.one (.op 1900 0))), (8, (L s8)), (9, (Z s9)), (10, (Z s10))], [(1900, (.var [(.d (.sl c))]))]⟩
theorem A7q {r : AV} {O : List (Nat × Ob)} {s : List (List Da)} {s8 : List (List Da)} {s9 : Int} {s10 : Int} {c : List (List Da)} (h : ifB (decide (s10 < s9))
  ((∃ (m : Nat), (s10 = ((↑m : Int)) ∧ (∃ (b : Bool), (∃ (n : Int), (∃ (n1 : Int), (∃ (xs : List (List Da)), (∃ (n2 : Int), (∃ (n3 : Int), (∃ (xs1 : List (List Da)), ((s8[m]?) = some [(.bool b), (.int .i64 n), (.int .i64 n1), (.sl xs), (.int .i64 n2), (.int .i64 n3), (.sl xs1)] ∧ (∃ (b1 : Bool), (XC Tryz.prog 115 [(L s), (.dat [(.bool b), (.int .i64 n), (.int .i64 n1), (.sl xs), (.int .i64 n2), (.int .i64 n3), (.sl xs1)])] [] (B b1) [] ∧ ifB (!b1)
  (((B (false)) = r ∧ [] = O))
  (ifB (decide ((0 : Int) < s10))
  ((∃ (m1 : Nat), ((IntKind.wrap IntKind.i64 (s10 - (1 : Int))) = ((↑m1 : Int)) ∧ (∃ (b2 : Bool), (∃ (n4 : Int), (∃ (n5 : Int), (∃ (xs2 : List (List Da)), (∃ (n6 : Int), (∃ (n7 : Int), (∃ (xs3 : List (List Da)), ((c[m1]?) = some [(.bool b2), (.int .i64 n4), (.int .i64 n5), (.sl xs2), (.int .i64 n6), (.int .i64 n7), (.sl xs3)] ∧ (∃ (b3 : Bool), (XC Tryz.prog 116 [(.dat [(.bool b2), (.int .i64 n4), (.int .i64 n5), (.sl xs2), (.int .i64 n6), (.int .i64 n7), (.sl xs3)]), (.dat [(.bool b), (.int .i64 n), (.int .i64 n1), (.sl xs), (.int .i64 n2), (.int .i64 n3), (.sl xs1)])] [] (B b3) [] ∧ ifB (!b3)
  (((B (false)) = r ∧ [] = O))
  (h2q r O s s8 s9 (IntKind.wrap IntKind.i64 (s10 + (1 : Int))) c))))))))))))))
  (h2q r O s s8 s9 (IntKind.wrap IntKind.i64 (s10 + (1 : Int))) c)))))))))))))))
  (((B (decide ((↑(List.length c) : Int) ≤ (8 : Int)))) = r ∧ [] = O))) : h2q r O s s8 s9 s10 c := by
  unfold h2q
  refine c5q (E := env) (hs := s0q) envOk a4q ?_
  exact a5q (by kernel_rfl) h
theorem a0Jq {s : List (List Da)} {c : List (List Da)} {r : AV} {O : List (Nat × Ob)} (h : h2q r O s c ((↑(List.length c) : Int)) ((0 : Int)) c) : XC Tryz.prog 51 [(L s), (.dat [(.sl c)])] [] r O :=
  b0q (E := env) (hs := s0q) (c := (a1q Tryz.f51)) (n := 39) (res := [.tmp 4]) (rs := .c .b) (ks := []) (dir := []) envOk a4q rfl Tryz.func51 (by kernel_rfl) (by kernel_rfl) (by kernel_rfl) (by kernel_rfl) (a5q (by kernel_rfl) h)
def a0Vq : a9q := ⟨[], []⟩
theorem a0Oq {s : List (List Da)} {a : Int} {a1 : Int} {a2 : List (List Da)} {b : Int} {b1 : Int} {b2 : List (List Da)} {r : AV} {O : List (Nat × Ob)} (h : (∃ (n : Int), (∃ (n1 : Int), (∃ (xs : List (List Da)), (XC Tryz.prog 117 [(.dat [(.int .i64 a), (.int .i64 a1), (.sl a2)])] [] (.agg [(.d (.int .i64 n)), (.d (.int .i64 n1)), (.ol 0)]) [(0, (.tr 30 3 xs))] ∧ (∃ (n2 : Int), (∃ (n3 : Int), (∃ (xs1 : List (List Da)), (XC Tryz.prog 117 [(.dat [(.int .i64 b), (.int .i64 b1), (.sl b2)])] [] (.agg [(.d (.int .i64 n2)), (.d (.int .i64 n3)), (.ol 0)]) [(0, (.tr 30 3 xs1))] ∧ (∃ (b3 : Bool), (XC Tryz.prog 118 [(L s), (.dat [(.int .i64 a), (.int .i64 a1), (.sl a2)]), (.dat [(.int .i64 b), (.int .i64 b1), (.sl b2)])] [] (B b3) [] ∧ ifB b3
  (((.tup [(.agg [(.d (.int .i64 n)), (.d (.int .i64 n1)), (.ol 0)]), (.agg [(.d (.int .i64 n2)), (.d (.int .i64 n3)), (.ol 1)]), (B (true))]) = r ∧ [(0, (.tr 30 3 xs)), (1, (.tr 30 3 xs1))] = O))
  ((∃ (b4 : Bool), (XC Tryz.prog 118 [(L s), (.dat [(.int .i64 b), (.int .i64 b1), (.sl b2)]), (.dat [(.int .i64 a), (.int .i64 a1), (.sl a2)])] [] (B b4) [] ∧ ifB b4
  (((.tup [(.agg [(.d (.int .i64 n2)), (.d (.int .i64 n3)), (.ol 0)]), (.agg [(.d (.int .i64 n)), (.d (.int .i64 n1)), (.ol 1)]), (B (true))]) = r ∧ [(0, (.tr 30 3 xs1)), (1, (.tr 30 3 xs))] = O))
  (((.tup [(.agg [(.d (.int .i64 n)), (.d (.int .i64 n1)), (.ol 0)]), (.agg [(.d (.int .i64 n2)), (.d (.int .i64 n3)), (.ol 1)]), (B (false))]) = r ∧ [(0, (.tr 30 3 xs)), (1, (.tr 30 3 xs1))] = O)))))))))))))))) : XC Tryz.prog 52 [(L s), (.dat [(.int .i64 a), (.int .i64 a1), (.sl a2)]), (.dat [(.int .i64 b), (.int .i64 b1), (.sl b2)])] [] r O :=
  b0q (E := env) (hs := a0Vq) (c := (a1q Tryz.f52)) (n := 31) (res := [.cell 6 30, .cell 7 30, .tmp 8]) (rs := .t [.s [.k (.i .i64), .k (.i .i64), .o 30 3], .s [.k (.i .i64), .k (.i .i64), .o 30 3], .c .b]) (ks := []) (dir := []) envOk a4q rfl Tryz.func52 (by kernel_rfl) (by kernel_rfl) (by kernel_rfl) (by kernel_rfl) (a5q (by kernel_rfl) h)
def a4cq : a9q := ⟨[], []⟩
theorem a30q {s : List (List Da)} {r_ : Int} {r_1 : Int} {r_2 : List (List Da)} {r_3 : Int} {r_4 : Int} {r_5 : List (List Da)} {r : AV} {O : List (Nat × Ob)} (h : (∃ (xs : List (List Da)), (XC Tryz.prog 119 [(.dat [(.int .i64 r_), (.int .i64 r_1), (.sl r_2)])] [] (.one (.ol 0)) [(0, (.tr 3 1 xs))] ∧ (∃ (b : Bool), (XC Tryz.prog 120 [(L s), (.dat [(.int .i64 r_), (.int .i64 r_1), (.sl r_2)])] [] (B b) [] ∧ ifB (!b)
  (((B (false)) = r ∧ [] = O))
  ((∃ (b1 : Bool), (XC Tryz.prog 120 [(L s), (.dat [(.int .i64 r_3), (.int .i64 r_4), (.sl r_5)])] [] (B b1) [] ∧ ifB (!b1)
  (((B (false)) = r ∧ [] = O))
  ((∃ (b2 : Bool), (XC Tryz.prog 100 [(.dat [(.int .i64 r_), (.int .i64 r_1), (.sl r_2)])] [] (B b2) [] ∧ ifB b2
  (((B (false)) = r ∧ [] = O))
  ((∃ (b3 : Bool), (XC Tryz.prog 121 [(L xs), (.one (.d (.fn 122)))] [] (B b3) [] ∧ ifB b3
  (((B (false)) = r ∧ [] = O))
  ((∃ (xs1 : List (List Da)), (XC Tryz.prog 119 [(.dat [(.int .i64 r_3), (.int .i64 r_4), (.sl r_5)])] [] (.one (.ol 0)) [(0, (.tr 3 1 xs1))] ∧ (∃ (b4 : Bool), (∃ (xs2 : List (List Da)), (XC Tryz.prog 121 [(L xs1), (.one (.clo 123 [(2000, 0)]))] [(2000, (.var [(.ol 2001)])), (2001, (.tr 3 1 xs))] (B b4) [(2000, (.var [(.ol 0)])), (0, (.tr 3 1 xs2))] ∧ ((B (!b4)) = r ∧ [] = O))))))))))))))))))))) : XC Tryz.prog 53 [(L s), (.dat [(.int .i64 r_), (.int .i64 r_1), (.sl r_2), (.int .i64 r_3), (.int .i64 r_4), (.sl r_5)])] [] r O :=
  b0q (E := env) (hs := a4cq) (c := (a1q Tryz.f53)) (n := 36) (res := [.tmp 4]) (rs := .c .b) (ks := []) (dir := []) envOk a4q rfl Tryz.func53 (by kernel_rfl) (by kernel_rfl) (by kernel_rfl) (by kernel_rfl) (a5q (by kernel_rfl) h)
def a3Nq : a9q := ⟨[], []⟩
theorem a2Uq {a : Int} {a1 : Int} {a2 : List (List Da)} {b : Int} {b1 : Int} {b2 : List (List Da)} {r : AV} {O : List (Nat × Ob)} (h : ifB (decide (a ≠ b))
  (((B (false)) = r ∧ [] = O))
  (ifB (decide (a1 ≠ b1))
  (((B (false)) = r ∧ [] = O))
  ((∃ (b3 : Bool), (XC Tryz.prog 125 [(L a2), (L b2)] [] (B b3) [] ∧ ifB (!b3)
  (((B (false)) = r ∧ [] = O))
  (((B (true)) = r ∧ [] = O))))))) : XC Tryz.prog 54 [(.dat [(.int .i64 a), (.int .i64 a1), (.sl a2)]), (.dat [(.int .i64 b), (.int .i64 b1), (.sl b2)])] [] r O :=
  b0q (E := env) (hs := a3Nq) (c := (a1q Tryz.f54)) (n := 21) (res := [.tmp 4]) (rs := .c .b) (ks := []) (dir := []) envOk a4q rfl Tryz.func54 (by kernel_rfl) (by kernel_rfl) (by kernel_rfl) (by kernel_rfl) (a5q (by kernel_rfl) h)
def a5kq : a9q := ⟨[], []⟩
theorem a3Cq {a : ByteArray} {a1 : Int} {a2 : Bool} {b : ByteArray} {b1 : Int} {b2 : Bool} {r : AV} {O : List (Nat × Ob)} (h : ifB (decide (a ≠ b))
  (((B (false)) = r ∧ [] = O))
  (ifB (decide (a1 ≠ b1))
  (((B (false)) = r ∧ [] = O))
  (ifB (decide (a2 ≠ b2))
  (((B (false)) = r ∧ [] = O))
  (((B (true)) = r ∧ [] = O))))) : XC Tryz.prog 55 [(.dat [(.str a), (.int .i64 a1), (.bool a2)]), (.dat [(.str b), (.int .i64 b1), (.bool b2)])] [] r O :=
  b0q (E := env) (hs := a5kq) (c := (a1q Tryz.f55)) (n := 20) (res := [.tmp 4]) (rs := .c .b) (ks := []) (dir := []) envOk a4q rfl Tryz.func55 (by kernel_rfl) (by kernel_rfl) (by kernel_rfl) (by kernel_rfl) (a5q (by kernel_rfl) h)
def w1q : a9q := ⟨[(4, ⟨[0, 1, 5], [], [], [], [], [], []⟩)], []⟩
def o2q (r : AV) (O : List (Nat × Ob)) (a : List (List Da)) (b : List (List Da)) (i : Int) : Prop := CL 27 Tryz.prog (d6q (a1q Tryz.f56) [1, 1, 0, 1, 0, 0]) (b5q Tryz.prog env w1q 27 (a1q Tryz.f56) [1, 1, 0, 1, 0, 0] (a6q env [.tmp 4] (.c .b) [] [] r O) (b4q (a6q env [.tmp 4] (.c .b) [] [] r O))).1 (b5q Tryz.prog env w1q 27 (a1q Tryz.f56) [1, 1, 0, 1, 0, 0] (a6q env [.tmp 4] (.c .b) [] [] r O) (b4q (a6q env [.tmp 4] (.c .b) [] [] r O))).2 ⟨[(0, (L a)), (1, (L b)), (5, (Z i))], []⟩
theorem E8q {r : AV} {O : List (Nat × Ob)} {a : List (List Da)} {b : List (List Da)} {i : Int} (h : ifB (decide (i < (↑(List.length a) : Int)))
  ((∃ (m : Nat), (i = ((↑m : Int)) ∧ (∃ (b2 : Bool), (∃ (n : Int), (∃ (n1 : Int), (∃ (xs : List (List Da)), (∃ (n2 : Int), (∃ (n3 : Int), (∃ (xs1 : List (List Da)), ((a[m]?) = some [(.bool b2), (.int .i64 n), (.int .i64 n1), (.sl xs), (.int .i64 n2), (.int .i64 n3), (.sl xs1)] ∧ (∃ (m1 : Nat), (i = ((↑m1 : Int)) ∧ (∃ (b3 : Bool), (∃ (n4 : Int), (∃ (n5 : Int), (∃ (xs2 : List (List Da)), (∃ (n6 : Int), (∃ (n7 : Int), (∃ (xs3 : List (List Da)), ((b[m1]?) = some [(.bool b3), (.int .i64 n4), (.int .i64 n5), (.sl xs2), (.int .i64 n6), (.int .i64 n7), (.sl xs3)] ∧ (∃ (b4 : Bool), (XC Tryz.prog 126 [(.dat [(.bool b2), (.int .i64 n), (.int .i64 n1), (.sl xs), (.int .i64 n2), (.int .i64 n3), (.sl xs1)]), (.dat [(.bool b3), (.int .i64 n4), (.int .i64 n5), (.sl xs2), (.int .i64 n6), (.int .i64 n7), (.sl xs3)])] [] (B b4) [] ∧ ifB (!b4)
  (((B (false)) = r ∧ [] = O))
  (o2q r O a b (IntKind.wrap IntKind.i64 (i + (1 : Int)))))))))))))))))))))))))))
  (((B (true)) = r ∧ [] = O))) : o2q r O a b i := by
  unfold o2q
  refine c5q (E := env) (hs := w1q) envOk a4q ?_
  exact a5q (by kernel_rfl) h
theorem a2Cq {a : List (List Da)} {b : List (List Da)} {r : AV} {O : List (Nat × Ob)} (h : ifB (decide ((↑(List.length a) : Int) ≠ (↑(List.length b) : Int)))
  (((B (false)) = r ∧ [] = O))
  (o2q r O a b ((0 : Int)))) : XC Tryz.prog 56 [(L a), (L b)] [] r O :=
  b0q (E := env) (hs := w1q) (c := (a1q Tryz.f56)) (n := 27) (res := [.tmp 4]) (rs := .c .b) (ks := []) (dir := []) envOk a4q rfl Tryz.func56 (by kernel_rfl) (by kernel_rfl) (by kernel_rfl) (by kernel_rfl) (a5q (by kernel_rfl) h)
def s1q : a9q := ⟨[(4, ⟨[0, 3], [], [], [], [], [], []⟩)], []⟩
def l1q (r : AV) (O : List (Nat × Ob)) (k : Int) (out : ByteArray) : Prop := CL 20 Tryz.prog (d6q (a1q Tryz.f57) [1, 1, 1, 0, 0, 0]) (b5q Tryz.prog env s1q 20 (a1q Tryz.f57) [1, 1, 1, 0, 0, 0] (a6q env [.tmp 2] (.c .s) [] [] r O) (b4q (a6q env [.tmp 2] (.c .s) [] [] r O))).1 (b5q Tryz.prog env s1q 20 (a1q Tryz.f57) [1, 1, 1, 0, 0, 0] (a6q env [.tmp 2] (.c .s) [] [] r O) (b4q (a6q env [.tmp 2] (.c .s) [] [] r O))).2 ⟨[(0, (Z k)), (3, (T out))], []⟩
theorem A4q {r : AV} {O : List (Nat × Ob)} {k : Int} {out : ByteArray} (h : ifB (decide ((0 : Int) < k))
  ((Do ((10 : Int) ≠ (0 : Int)) ∧ (∃ (ns : List Int), ([[(.int .u8 (IntKind.wrap IntKind.u8 (IntKind.wrap IntKind.i64 ((48 : Int) + Int.tmod k (10 : Int)))))]] = (List.map (fun n => [Da.int IntKind.u8 n]) ns) ∧ (Do (ByteArray.size (strOfNums ns ++ out) ≤ (281474976710656 : Nat)) ∧ (Do ((10 : Int) ≠ (0 : Int)) ∧ l1q r O (IntKind.wrap IntKind.i64 (Int.tdiv k (10 : Int))) (strOfNums ns ++ out)))))))
  ((Do (ByteArray.size ({ data := #[(109 : UInt8)] } ++ out) ≤ (281474976710656 : Nat)) ∧ ((T ({ data := #[(109 : UInt8)] } ++ out)) = r ∧ [] = O)))) : l1q r O k out := by
  unfold l1q
  refine c5q (E := env) (hs := s1q) envOk a4q ?_
  exact a5q (by kernel_rfl) h
theorem a0gq {k : Int} {r : AV} {O : List (Nat × Ob)} (h : ifB (decide (k ≤ (0 : Int)))
  (((T ({ data := #[(109 : UInt8), (48 : UInt8)] })) = r ∧ [] = O))
  (l1q r O k ({ data := #[] }))) : XC Tryz.prog 57 [(Z k)] [] r O :=
  b0q (E := env) (hs := s1q) (c := (a1q Tryz.f57)) (n := 20) (res := [.tmp 2]) (rs := .c .s) (ks := []) (dir := []) envOk a4q rfl Tryz.func57 (by kernel_rfl) (by kernel_rfl) (by kernel_rfl) (by kernel_rfl) (a5q (by kernel_rfl) h)
def r6q : a9q := ⟨[(2, ⟨[0, 1, 5], [], [], [], [], [], []⟩)], []⟩
def l2q (r : AV) (O : List (Nat × Ob)) (s1 : Int) (s5 : Int) (s0 : List (List Da)) : Prop := CL 70 Tryz.prog (d6q (a1q Tryz.f58) [1, 0, 1, 0, 0]) (b5q Tryz.prog env r6q 70 (a1q Tryz.f58) [1, 0, 1, 0, 0] (a6q env [.tmp 4] (.c (.i .i64)) [(2000, (false))] [2000] r O) (b4q (a6q env [.tmp 4] (.c (.i .i64)) [(2000, (false))] [2000] r O))).1 (b5q Tryz.prog env r6q 70 (a1q Tryz.f58) [1, 0, 1, 0, 0] (a6q env [.tmp 4] (.c (.i .i64)) [(2000, (false))] [2000] r O) (b4q (a6q env [.tmp 4] (.c (.i .i64)) [(2000, (false))] [2000] r O))).2 ⟨[(0, (.one (.ol 2000))), (1, (Z s1)), (5, (Z s5))], [(2000, (.mt 85 7 s0))]⟩
theorem A5q {r : AV} {O : List (Nat × Ob)} {s1 : Int} {s5 : Int} {s0 : List (List Da)} (h : ifB (decide (s5 < (↑(List.length s0) : Int)))
  ((Do ((3 : Int) ≠ (0 : Int)) ∧ (∃ (m : Nat), (s5 = ((↑m : Int)) ∧ (Do (m < List.length s0) ∧ (∃ (m1 : Nat), ((m * (7 : Nat) + (0 : Nat)) = (m1 * (7 : Nat) + (0 : Nat)) ∧ (∃ (b : Bool), (∃ (n : Int), (∃ (n1 : Int), (∃ (xs : List (List Da)), (∃ (n2 : Int), (∃ (n3 : Int), (∃ (xs1 : List (List Da)), ((s0[m1]?) = some [(.bool b), (.int .i64 n), (.int .i64 n1), (.sl xs), (.int .i64 n2), (.int .i64 n3), (.sl xs1)] ∧ (∃ (m2 : Nat), (s5 = ((↑m2 : Int)) ∧ (Do (m2 < List.length (List.set s0 m1 ([] ++ [Da.bool (decide (Int.tmod s1 (3 : Int) = (0 : Int)))] ++ [Da.int IntKind.i64 n, Da.int IntKind.i64 n1, Da.sl xs, Da.int IntKind.i64 n2, Da.int IntKind.i64 n3, Da.sl xs1]))) ∧ (∃ (m3 : Nat), ((m2 * (7 : Nat) + (1 : Nat) + (0 : Nat)) = (m3 * (7 : Nat) + Nat.succ (nat_lit 0)) ∧ (∃ (b1 : Bool), (∃ (n4 : Int), (∃ (n5 : Int), (∃ (xs2 : List (List Da)), (∃ (n6 : Int), (∃ (n7 : Int), (∃ (xs3 : List (List Da)), (((List.set s0 m1 ([] ++ [Da.bool (decide (Int.tmod s1 (3 : Int) = (0 : Int)))] ++ [Da.int IntKind.i64 n, Da.int IntKind.i64 n1, Da.sl xs, Da.int IntKind.i64 n2, Da.int IntKind.i64 n3, Da.sl xs1]))[m3]?) = some [(.bool b1), (.int .i64 n4), (.int .i64 n5), (.sl xs2), (.int .i64 n6), (.int .i64 n7), (.sl xs3)] ∧ (∃ (m4 : Nat), (s5 = ((↑m4 : Int)) ∧ (Do (m4 < List.length (List.set (List.set s0 m1 ([] ++ [Da.bool (decide (Int.tmod s1 (3 : Int) = (0 : Int)))] ++ [Da.int IntKind.i64 n, Da.int IntKind.i64 n1, Da.sl xs, Da.int IntKind.i64 n2, Da.int IntKind.i64 n3, Da.sl xs1])) m3 ([Da.bool b1] ++ [Da.int IntKind.i64 (IntKind.wrap IntKind.i64 (s1 + (1 : Int)))] ++ [Da.int IntKind.i64 n5, Da.sl xs2, Da.int IntKind.i64 n6, Da.int IntKind.i64 n7, Da.sl xs3]))) ∧ (∃ (m5 : Nat), ((m4 * (7 : Nat) + (1 : Nat) + (1 : Nat)) = (m5 * (7 : Nat) + Nat.succ (nat_lit 1)) ∧ (∃ (b2 : Bool), (∃ (n8 : Int), (∃ (n9 : Int), (∃ (xs4 : List (List Da)), (∃ (n10 : Int), (∃ (n11 : Int), (∃ (xs5 : List (List Da)), (((List.set (List.set s0 m1 ([] ++ [Da.bool (decide (Int.tmod s1 (3 : Int) = (0 : Int)))] ++ [Da.int IntKind.i64 n, Da.int IntKind.i64 n1, Da.sl xs, Da.int IntKind.i64 n2, Da.int IntKind.i64 n3, Da.sl xs1])) m3 ([Da.bool b1] ++ [Da.int IntKind.i64 (IntKind.wrap IntKind.i64 (s1 + (1 : Int)))] ++ [Da.int IntKind.i64 n5, Da.sl xs2, Da.int IntKind.i64 n6, Da.int IntKind.i64 n7, Da.sl xs3]))[m5]?) = some [(.bool b2), (.int .i64 n8), (.int .i64 n9), (.sl xs4), (.int .i64 n10), (.int .i64 n11), (.sl xs5)] ∧ (∃ (m6 : Nat), (s5 = ((↑m6 : Int)) ∧ (Do (m6 < List.length (List.set (List.set (List.set s0 m1 ([] ++ [Da.bool (decide (Int.tmod s1 (3 : Int) = (0 : Int)))] ++ [Da.int IntKind.i64 n, Da.int IntKind.i64 n1, Da.sl xs, Da.int IntKind.i64 n2, Da.int IntKind.i64 n3, Da.sl xs1])) m3 ([Da.bool b1] ++ [Da.int IntKind.i64 (IntKind.wrap IntKind.i64 (s1 + (1 : Int)))] ++ [Da.int IntKind.i64 n5, Da.sl xs2, Da.int IntKind.i64 n6, Da.int IntKind.i64 n7, Da.sl xs3])) m5 ([Da.bool b2, Da.int IntKind.i64 n8] ++ [Da.int IntKind.i64 (IntKind.wrap IntKind.i64 (IntKind.wrap IntKind.i64 (s1 + (1 : Int)) + (1 : Int)))] ++ [Da.sl xs4, Da.int IntKind.i64 n10, Da.int IntKind.i64 n11, Da.sl xs5]))) ∧ (∃ (m7 : Nat), ((m6 * (7 : Nat) + (1 : Nat) + (2 : Nat)) = (m7 * (7 : Nat) + Nat.succ (nat_lit 2)) ∧ (∃ (b3 : Bool), (∃ (n12 : Int), (∃ (n13 : Int), (∃ (xs6 : List (List Da)), (∃ (n14 : Int), (∃ (n15 : Int), (∃ (xs7 : List (List Da)), (((List.set (List.set (List.set s0 m1 ([] ++ [Da.bool (decide (Int.tmod s1 (3 : Int) = (0 : Int)))] ++ [Da.int IntKind.i64 n, Da.int IntKind.i64 n1, Da.sl xs, Da.int IntKind.i64 n2, Da.int IntKind.i64 n3, Da.sl xs1])) m3 ([Da.bool b1] ++ [Da.int IntKind.i64 (IntKind.wrap IntKind.i64 (s1 + (1 : Int)))] ++ [Da.int IntKind.i64 n5, Da.sl xs2, Da.int IntKind.i64 n6, Da.int IntKind.i64 n7, Da.sl xs3])) m5 ([Da.bool b2, Da.int IntKind.i64 n8] ++ [Da.int IntKind.i64 (IntKind.wrap IntKind.i64 (IntKind.wrap IntKind.i64 (s1 + (1 : Int)) + (1 : Int)))] ++ [Da.sl xs4, Da.int IntKind.i64 n10, Da.int IntKind.i64 n11, Da.sl xs5]))[m7]?) = some [(.bool b3), (.int .i64 n12), (.int .i64 n13), (.sl xs6), (.int .i64 n14), (.int .i64 n15), (.sl xs7)] ∧ (∀ (a : Option Addr), (∀ (l : Nat), (∀ (r1 : Nat), ((a = a ∧ ((l) = (l) ∧ (r1) = (r1))) ∧ (∃ (b4 : Bool), (∃ (n16 : Int), (∃ (n17 : Int), (∃ (xs8 : List (List Da)), (∃ (n18 : Int), (∃ (n19 : Int), (∃ (xs9 : List (List Da)), (((List.set (List.set (List.set s0 m1 ([] ++ [Da.bool (decide (Int.tmod s1 (3 : Int) = (0 : Int)))] ++ [Da.int IntKind.i64 n, Da.int IntKind.i64 n1, Da.sl xs, Da.int IntKind.i64 n2, Da.int IntKind.i64 n3, Da.sl xs1])) m3 ([Da.bool b1] ++ [Da.int IntKind.i64 (IntKind.wrap IntKind.i64 (s1 + (1 : Int)))] ++ [Da.int IntKind.i64 n5, Da.sl xs2, Da.int IntKind.i64 n6, Da.int IntKind.i64 n7, Da.sl xs3])) m5 ([Da.bool b2, Da.int IntKind.i64 n8] ++ [Da.int IntKind.i64 (IntKind.wrap IntKind.i64 (IntKind.wrap IntKind.i64 (s1 + (1 : Int)) + (1 : Int)))] ++ [Da.sl xs4, Da.int IntKind.i64 n10, Da.int IntKind.i64 n11, Da.sl xs5]))[m7]?) = some [(.bool b4), (.int .i64 n16), (.int .i64 n17), (.sl xs8), (.int .i64 n18), (.int .i64 n19), (.sl xs9)] ∧ (Do (∀ (y : List Da), y ∈ xs8 → List.length y = Prod.fst ((3 : Nat), (40 : Nat), [At.d (Da.int IntKind.i64 (0 : Int)), At.d (Da.int IntKind.i64 (0 : Int)), At.e0])) ∧ (∃ (ys1 : List (List Da)), (∃ (n20 : Int), (XC Tryz.prog 76 [(.one (.ol 2000)), (Z (IntKind.wrap IntKind.i64 (IntKind.wrap IntKind.i64 (IntKind.wrap IntKind.i64 (s1 + (1 : Int)) + (1 : Int)) + (1 : Int))))] [(2000, (.mt 30 3 xs8))] (Z n20) [(2000, (.mt 30 3 ys1))] ∧ (∃ (m8 : Nat), (s5 = ((↑m8 : Int)) ∧ (Do (m8 < List.length (List.set (List.set (List.set (List.set s0 m1 ([] ++ [Da.bool (decide (Int.tmod s1 (3 : Int) = (0 : Int)))] ++ [Da.int IntKind.i64 n, Da.int IntKind.i64 n1, Da.sl xs, Da.int IntKind.i64 n2, Da.int IntKind.i64 n3, Da.sl xs1])) m3 ([Da.bool b1] ++ [Da.int IntKind.i64 (IntKind.wrap IntKind.i64 (s1 + (1 : Int)))] ++ [Da.int IntKind.i64 n5, Da.sl xs2, Da.int IntKind.i64 n6, Da.int IntKind.i64 n7, Da.sl xs3])) m5 ([Da.bool b2, Da.int IntKind.i64 n8] ++ [Da.int IntKind.i64 (IntKind.wrap IntKind.i64 (IntKind.wrap IntKind.i64 (s1 + (1 : Int)) + (1 : Int)))] ++ [Da.sl xs4, Da.int IntKind.i64 n10, Da.int IntKind.i64 n11, Da.sl xs5])) m7 ([Da.bool b4, Da.int IntKind.i64 n16, Da.int IntKind.i64 n17] ++ [Da.sl ys1] ++ [Da.int IntKind.i64 n18, Da.int IntKind.i64 n19, Da.sl xs9]))) ∧ (∃ (m9 : Nat), ((m8 * (7 : Nat) + (4 : Nat) + (0 : Nat)) = (m9 * (7 : Nat) + Nat.succ (nat_lit 3)) ∧ (∃ (b5 : Bool), (∃ (n21 : Int), (∃ (n22 : Int), (∃ (xs10 : List (List Da)), (∃ (n23 : Int), (∃ (n24 : Int), (∃ (xs11 : List (List Da)), (((List.set (List.set (List.set (List.set s0 m1 ([] ++ [Da.bool (decide (Int.tmod s1 (3 : Int) = (0 : Int)))] ++ [Da.int IntKind.i64 n, Da.int IntKind.i64 n1, Da.sl xs, Da.int IntKind.i64 n2, Da.int IntKind.i64 n3, Da.sl xs1])) m3 ([Da.bool b1] ++ [Da.int IntKind.i64 (IntKind.wrap IntKind.i64 (s1 + (1 : Int)))] ++ [Da.int IntKind.i64 n5, Da.sl xs2, Da.int IntKind.i64 n6, Da.int IntKind.i64 n7, Da.sl xs3])) m5 ([Da.bool b2, Da.int IntKind.i64 n8] ++ [Da.int IntKind.i64 (IntKind.wrap IntKind.i64 (IntKind.wrap IntKind.i64 (s1 + (1 : Int)) + (1 : Int)))] ++ [Da.sl xs4, Da.int IntKind.i64 n10, Da.int IntKind.i64 n11, Da.sl xs5])) m7 ([Da.bool b4, Da.int IntKind.i64 n16, Da.int IntKind.i64 n17] ++ [Da.sl ys1] ++ [Da.int IntKind.i64 n18, Da.int IntKind.i64 n19, Da.sl xs9]))[m9]?) = some [(.bool b5), (.int .i64 n21), (.int .i64 n22), (.sl xs10), (.int .i64 n23), (.int .i64 n24), (.sl xs11)] ∧ (∃ (m10 : Nat), (s5 = ((↑m10 : Int)) ∧ (Do (m10 < List.length (List.set (List.set (List.set (List.set (List.set s0 m1 ([] ++ [Da.bool (decide (Int.tmod s1 (3 : Int) = (0 : Int)))] ++ [Da.int IntKind.i64 n, Da.int IntKind.i64 n1, Da.sl xs, Da.int IntKind.i64 n2, Da.int IntKind.i64 n3, Da.sl xs1])) m3 ([Da.bool b1] ++ [Da.int IntKind.i64 (IntKind.wrap IntKind.i64 (s1 + (1 : Int)))] ++ [Da.int IntKind.i64 n5, Da.sl xs2, Da.int IntKind.i64 n6, Da.int IntKind.i64 n7, Da.sl xs3])) m5 ([Da.bool b2, Da.int IntKind.i64 n8] ++ [Da.int IntKind.i64 (IntKind.wrap IntKind.i64 (IntKind.wrap IntKind.i64 (s1 + (1 : Int)) + (1 : Int)))] ++ [Da.sl xs4, Da.int IntKind.i64 n10, Da.int IntKind.i64 n11, Da.sl xs5])) m7 ([Da.bool b4, Da.int IntKind.i64 n16, Da.int IntKind.i64 n17] ++ [Da.sl ys1] ++ [Da.int IntKind.i64 n18, Da.int IntKind.i64 n19, Da.sl xs9])) m9 ([Da.bool b5, Da.int IntKind.i64 n21, Da.int IntKind.i64 n22, Da.sl xs10] ++ [Da.int IntKind.i64 n20] ++ [Da.int IntKind.i64 n24, Da.sl xs11]))) ∧ (∃ (m11 : Nat), ((m10 * (7 : Nat) + (4 : Nat) + (1 : Nat)) = (m11 * (7 : Nat) + Nat.succ (nat_lit 4)) ∧ (∃ (b6 : Bool), (∃ (n25 : Int), (∃ (n26 : Int), (∃ (xs12 : List (List Da)), (∃ (n27 : Int), (∃ (n28 : Int), (∃ (xs13 : List (List Da)), (((List.set (List.set (List.set (List.set (List.set s0 m1 ([] ++ [Da.bool (decide (Int.tmod s1 (3 : Int) = (0 : Int)))] ++ [Da.int IntKind.i64 n, Da.int IntKind.i64 n1, Da.sl xs, Da.int IntKind.i64 n2, Da.int IntKind.i64 n3, Da.sl xs1])) m3 ([Da.bool b1] ++ [Da.int IntKind.i64 (IntKind.wrap IntKind.i64 (s1 + (1 : Int)))] ++ [Da.int IntKind.i64 n5, Da.sl xs2, Da.int IntKind.i64 n6, Da.int IntKind.i64 n7, Da.sl xs3])) m5 ([Da.bool b2, Da.int IntKind.i64 n8] ++ [Da.int IntKind.i64 (IntKind.wrap IntKind.i64 (IntKind.wrap IntKind.i64 (s1 + (1 : Int)) + (1 : Int)))] ++ [Da.sl xs4, Da.int IntKind.i64 n10, Da.int IntKind.i64 n11, Da.sl xs5])) m7 ([Da.bool b4, Da.int IntKind.i64 n16, Da.int IntKind.i64 n17] ++ [Da.sl ys1] ++ [Da.int IntKind.i64 n18, Da.int IntKind.i64 n19, Da.sl xs9])) m9 ([Da.bool b5, Da.int IntKind.i64 n21, Da.int IntKind.i64 n22, Da.sl xs10] ++ [Da.int IntKind.i64 n20] ++ [Da.int IntKind.i64 n24, Da.sl xs11]))[m11]?) = some [(.bool b6), (.int .i64 n25), (.int .i64 n26), (.sl xs12), (.int .i64 n27), (.int .i64 n28), (.sl xs13)] ∧ (∃ (m12 : Nat), (s5 = ((↑m12 : Int)) ∧ (Do (m12 < List.length (List.set (List.set (List.set (List.set (List.set (List.set s0 m1 ([] ++ [Da.bool (decide (Int.tmod s1 (3 : Int) = (0 : Int)))] ++ [Da.int IntKind.i64 n, Da.int IntKind.i64 n1, Da.sl xs, Da.int IntKind.i64 n2, Da.int IntKind.i64 n3, Da.sl xs1])) m3 ([Da.bool b1] ++ [Da.int IntKind.i64 (IntKind.wrap IntKind.i64 (s1 + (1 : Int)))] ++ [Da.int IntKind.i64 n5, Da.sl xs2, Da.int IntKind.i64 n6, Da.int IntKind.i64 n7, Da.sl xs3])) m5 ([Da.bool b2, Da.int IntKind.i64 n8] ++ [Da.int IntKind.i64 (IntKind.wrap IntKind.i64 (IntKind.wrap IntKind.i64 (s1 + (1 : Int)) + (1 : Int)))] ++ [Da.sl xs4, Da.int IntKind.i64 n10, Da.int IntKind.i64 n11, Da.sl xs5])) m7 ([Da.bool b4, Da.int IntKind.i64 n16, Da.int IntKind.i64 n17] ++ [Da.sl ys1] ++ [Da.int IntKind.i64 n18, Da.int IntKind.i64 n19, Da.sl xs9])) m9 ([Da.bool b5, Da.int IntKind.i64 n21, Da.int IntKind.i64 n22, Da.sl xs10] ++ [Da.int IntKind.i64 n20] ++ [Da.int IntKind.i64 n24, Da.sl xs11])) m11 ([Da.bool b6, Da.int IntKind.i64 n25, Da.int IntKind.i64 n26, Da.sl xs12, Da.int IntKind.i64 n27] ++ [Da.int IntKind.i64 (IntKind.wrap IntKind.i64 (n20 + (1 : Int)))] ++ [Da.sl xs13]))) ∧ (∃ (m13 : Nat), ((m12 * (7 : Nat) + (4 : Nat) + (2 : Nat)) = (m13 * (7 : Nat) + Nat.succ (nat_lit 5)) ∧ (∃ (b7 : Bool), (∃ (n29 : Int), (∃ (n30 : Int), (∃ (xs14 : List (List Da)), (∃ (n31 : Int), (∃ (n32 : Int), (∃ (xs15 : List (List Da)), (((List.set (List.set (List.set (List.set (List.set (List.set s0 m1 ([] ++ [Da.bool (decide (Int.tmod s1 (3 : Int) = (0 : Int)))] ++ [Da.int IntKind.i64 n, Da.int IntKind.i64 n1, Da.sl xs, Da.int IntKind.i64 n2, Da.int IntKind.i64 n3, Da.sl xs1])) m3 ([Da.bool b1] ++ [Da.int IntKind.i64 (IntKind.wrap IntKind.i64 (s1 + (1 : Int)))] ++ [Da.int IntKind.i64 n5, Da.sl xs2, Da.int IntKind.i64 n6, Da.int IntKind.i64 n7, Da.sl xs3])) m5 ([Da.bool b2, Da.int IntKind.i64 n8] ++ [Da.int IntKind.i64 (IntKind.wrap IntKind.i64 (IntKind.wrap IntKind.i64 (s1 + (1 : Int)) + (1 : Int)))] ++ [Da.sl xs4, Da.int IntKind.i64 n10, Da.int IntKind.i64 n11, Da.sl xs5])) m7 ([Da.bool b4, Da.int IntKind.i64 n16, Da.int IntKind.i64 n17] ++ [Da.sl ys1] ++ [Da.int IntKind.i64 n18, Da.int IntKind.i64 n19, Da.sl xs9])) m9 ([Da.bool b5, Da.int IntKind.i64 n21, Da.int IntKind.i64 n22, Da.sl xs10] ++ [Da.int IntKind.i64 n20] ++ [Da.int IntKind.i64 n24, Da.sl xs11])) m11 ([Da.bool b6, Da.int IntKind.i64 n25, Da.int IntKind.i64 n26, Da.sl xs12, Da.int IntKind.i64 n27] ++ [Da.int IntKind.i64 (IntKind.wrap IntKind.i64 (n20 + (1 : Int)))] ++ [Da.sl xs13]))[m13]?) = some [(.bool b7), (.int .i64 n29), (.int .i64 n30), (.sl xs14), (.int .i64 n31), (.int .i64 n32), (.sl xs15)] ∧ (∀ (a1 : Option Addr), (∀ (l1 : Nat), (∀ (r2 : Nat), ((a1 = a1 ∧ ((l1) = (l1) ∧ (r2) = (r2))) ∧ (∃ (b8 : Bool), (∃ (n33 : Int), (∃ (n34 : Int), (∃ (xs16 : List (List Da)), (∃ (n35 : Int), (∃ (n36 : Int), (∃ (xs17 : List (List Da)), (((List.set (List.set (List.set (List.set (List.set (List.set s0 m1 ([] ++ [Da.bool (decide (Int.tmod s1 (3 : Int) = (0 : Int)))] ++ [Da.int IntKind.i64 n, Da.int IntKind.i64 n1, Da.sl xs, Da.int IntKind.i64 n2, Da.int IntKind.i64 n3, Da.sl xs1])) m3 ([Da.bool b1] ++ [Da.int IntKind.i64 (IntKind.wrap IntKind.i64 (s1 + (1 : Int)))] ++ [Da.int IntKind.i64 n5, Da.sl xs2, Da.int IntKind.i64 n6, Da.int IntKind.i64 n7, Da.sl xs3])) m5 ([Da.bool b2, Da.int IntKind.i64 n8] ++ [Da.int IntKind.i64 (IntKind.wrap IntKind.i64 (IntKind.wrap IntKind.i64 (s1 + (1 : Int)) + (1 : Int)))] ++ [Da.sl xs4, Da.int IntKind.i64 n10, Da.int IntKind.i64 n11, Da.sl xs5])) m7 ([Da.bool b4, Da.int IntKind.i64 n16, Da.int IntKind.i64 n17] ++ [Da.sl ys1] ++ [Da.int IntKind.i64 n18, Da.int IntKind.i64 n19, Da.sl xs9])) m9 ([Da.bool b5, Da.int IntKind.i64 n21, Da.int IntKind.i64 n22, Da.sl xs10] ++ [Da.int IntKind.i64 n20] ++ [Da.int IntKind.i64 n24, Da.sl xs11])) m11 ([Da.bool b6, Da.int IntKind.i64 n25, Da.int IntKind.i64 n26, Da.sl xs12, Da.int IntKind.i64 n27] ++ [Da.int IntKind.i64 (IntKind.wrap IntKind.i64 (n20 + (1 : Int)))] ++ [Da.sl xs13]))[m13]?) = some [(.bool b8), (.int .i64 n33), (.int .i64 n34), (.sl xs16), (.int .i64 n35), (.int .i64 n36), (.sl xs17)] ∧ (Do (∀ (y : List Da), y ∈ xs17 → List.length y = Prod.fst ((3 : Nat), (40 : Nat), [At.d (Da.int IntKind.i64 (0 : Int)), At.d (Da.int IntKind.i64 (0 : Int)), At.e0])) ∧ (∃ (ys11 : List (List Da)), (∃ (n37 : Int), (XC Tryz.prog 76 [(.one (.ol 2000)), (Z (IntKind.wrap IntKind.i64 (IntKind.wrap IntKind.i64 (n20 + (1 : Int)) + (1 : Int))))] [(2000, (.mt 30 3 xs17))] (Z n37) [(2000, (.mt 30 3 ys11))] ∧ l2q r O n37 (IntKind.wrap IntKind.i64 (s5 + (1 : Int))) (List.set (List.set (List.set (List.set (List.set (List.set (List.set s0 m1 ([] ++ [Da.bool (decide (Int.tmod s1 (3 : Int) = (0 : Int)))] ++ [Da.int IntKind.i64 n, Da.int IntKind.i64 n1, Da.sl xs, Da.int IntKind.i64 n2, Da.int IntKind.i64 n3, Da.sl xs1])) m3 ([Da.bool b1] ++ [Da.int IntKind.i64 (IntKind.wrap IntKind.i64 (s1 + (1 : Int)))] ++ [Da.int IntKind.i64 n5, Da.sl xs2, Da.int IntKind.i64 n6, Da.int IntKind.i64 n7, Da.sl xs3])) m5 ([Da.bool b2, Da.int IntKind.i64 n8] ++ [Da.int IntKind.i64 (IntKind.wrap IntKind.i64 (IntKind.wrap IntKind.i64 (s1 + (1 : Int)) + (1 : Int)))] ++ [Da.sl xs4, Da.int IntKind.i64 n10, Da.int IntKind.i64 n11, Da.sl xs5])) m7 ([Da.bool b4, Da.int IntKind.i64 n16, Da.int IntKind.i64 n17] ++ [Da.sl ys1] ++ [Da.int IntKind.i64 n18, Da.int IntKind.i64 n19, Da.sl xs9])) m9 ([Da.bool b5, Da.int IntKind.i64 n21, Da.int IntKind.i64 n22, Da.sl xs10] ++ [Da.int IntKind.i64 n20] ++ [Da.int IntKind.i64 n24, Da.sl xs11])) m11 ([Da.bool b6, Da.int IntKind.i64 n25, Da.int IntKind.i64 n26, Da.sl xs12, Da.int IntKind.i64 n27] ++ [Da.int IntKind.i64 (IntKind.wrap IntKind.i64 (n20 + (1 : Int)))] ++ [Da.sl xs13])) m13 ([Da.bool b8, Da.int IntKind.i64 n33, Da.int IntKind.i64 n34, Da.sl xs16, Da.int IntKind.i64 n35, Da.int IntKind.i64 n36] ++ [Da.sl ys11] ++ [])))))))))))))))))))))))))))))))))))))))))))))))))))))))))))))))))))))))))))))))))))))))))))))))))))))))))))))))))))))))))))))))
  (((Z s1) = r ∧ [(2000, (.mt 85 7 s0))] = O))) : l2q r O s1 s5 s0 := by
  unfold l2q
  refine c5q (E := env) (hs := r6q) envOk a4q ?_
  exact a5q (by kernel_rfl) h
theorem a0pq {p : Int} {o2000 : List (List Da)} {r : AV} {O : List (Nat × Ob)} (h : l2q r O p ((0 : Int)) o2000) : XC Tryz.prog 58 [(.one (.ol 2000)), (Z p)] [(2000, (.mt 85 7 o2000))] r O :=
  b0q (E := env) (hs := r6q) (c := (a1q Tryz.f58)) (n := 70) (res := [.tmp 4]) (rs := .c (.i .i64)) (ks := [(2000, (false))]) (dir := [2000]) envOk a4q rfl Tryz.func58 (by kernel_rfl) (by kernel_rfl) (by kernel_rfl) (by kernel_rfl) (a5q (by kernel_rfl) h)
def a0Yq : a9q := ⟨[], []⟩
theorem a0Rq {a : Int} {a1 : Int} {k : Int} {o2000 : List (List Da)} {r : AV} {O : List (Nat × Ob)} (h : (∃ (n : Int), (∃ (xs : List (List Da)), (XC Tryz.prog 76 [(.one (.ol 2000)), (Z k)] [(2000, (.mt 30 3 o2000))] (Z n) [(2000, (.mt 30 3 xs))] ∧ ((Z n) = r ∧ [(2000, (.mt 30 3 xs))] = O))))) : XC Tryz.prog 59 [(.agg [(.d (.int .i64 a)), (.d (.int .i64 a1)), (.ol 2000)]), (Z k)] [(2000, (.mt 30 3 o2000))] r O :=
  b0q (E := env) (hs := a0Yq) (c := (a1q Tryz.f59)) (n := 10) (res := [.tmp 4]) (rs := .c (.i .i64)) (ks := [(2000, (false))]) (dir := [2000]) envOk a4q rfl Tryz.func59 (by kernel_rfl) (by kernel_rfl) (by kernel_rfl) (by kernel_rfl) (a5q (by kernel_rfl) h)
def a1Kq : a9q := ⟨[], []⟩
theorem a0Mq {a : Int} {a1 : Int} {a2 : List (List Da)} {k : Int} {r : AV} {O : List (Nat × Ob)} (h : (∃ (n : Int), (XC Tryz.prog 127 [(L a2), (Z k)] [] (Z n) [] ∧ ifB (decide (n < (0 : Int)))
  (((Z ((-1 : Int))) = r ∧ [] = O))
  (((Z n) = r ∧ [] = O))))) : XC Tryz.prog 60 [(.dat [(.int .i64 a), (.int .i64 a1), (.sl a2)]), (Z k)] [] r O :=
  b0q (E := env) (hs := a1Kq) (c := (a1q Tryz.f60)) (n := 12) (res := [.tmp 4]) (rs := .c (.i .i64)) (ks := []) (dir := []) envOk a4q rfl Tryz.func60 (by kernel_rfl) (by kernel_rfl) (by kernel_rfl) (by kernel_rfl) (a5q (by kernel_rfl) h)
def a52q : a9q := ⟨[], []⟩
theorem a3Mq {a : Bool} {a1 : Int} {a2 : Int} {a3 : List (List Da)} {a4 : Int} {a5 : Int} {a6 : List (List Da)} {left : Int} {r : AV} {O : List (Nat × Ob)} (h : (∃ (n : Int), (XC Tryz.prog 130 [(.dat [(.int .i64 a1), (.int .i64 a2), (.sl a3)]), (Z left)] [] (Z n) [] ∧ ifB (decide (n < (0 : Int)))
  (((Z ((-1 : Int))) = r ∧ [] = O))
  ((∃ (n1 : Int), (XC Tryz.prog 130 [(.dat [(.int .i64 a4), (.int .i64 a5), (.sl a6)]), (Z n)] [] (Z n1) [] ∧ ifB (decide (n1 < (0 : Int)))
  (((Z ((-1 : Int))) = r ∧ [] = O))
  (((Z n1) = r ∧ [] = O)))))))) : XC Tryz.prog 105 [(.dat [(.bool a), (.int .i64 a1), (.int .i64 a2), (.sl a3), (.int .i64 a4), (.int .i64 a5), (.sl a6)]), (Z left)] [] r O :=
  b0q (E := env) (hs := a52q) (c := (a1q Tryz.f105)) (n := 18) (res := [.tmp 4]) (rs := .c (.i .i64)) (ks := []) (dir := []) envOk a4q rfl Tryz.func105 (by kernel_rfl) (by kernel_rfl) (by kernel_rfl) (by kernel_rfl) (a5q (by kernel_rfl) h)
def a5dq : a9q := ⟨[], []⟩
theorem a3Iq {a : Bool} {a1 : Int} {a2 : Int} {a3 : List (List Da)} {a4 : Int} {a5 : Int} {a6 : List (List Da)} {r : AV} {O : List (Nat × Ob)} (h : (∃ (n : Int), (∃ (n1 : Int), (∃ (xs : List (List Da)), (XC Tryz.prog 133 [(.dat [(.int .i64 a1), (.int .i64 a2), (.sl a3)])] [] (.agg [(.d (.int .i64 n)), (.d (.int .i64 n1)), (.ol 0)]) [(0, (.tr 30 3 xs))] ∧ (∃ (n2 : Int), (∃ (n3 : Int), (∃ (xs1 : List (List Da)), (XC Tryz.prog 133 [(.dat [(.int .i64 a4), (.int .i64 a5), (.sl a6)])] [] (.agg [(.d (.int .i64 n2)), (.d (.int .i64 n3)), (.ol 0)]) [(0, (.tr 30 3 xs1))] ∧ ((.agg [(.d (.bool a)), (.d (.int .i64 n)), (.d (.int .i64 n1)), (.ol 0), (.d (.int .i64 n2)), (.d (.int .i64 n3)), (.ol 1)]) = r ∧ [(0, (.tr 30 3 xs)), (1, (.tr 30 3 xs1))] = O)))))))))) : XC Tryz.prog 114 [(.dat [(.bool a), (.int .i64 a1), (.int .i64 a2), (.sl a3), (.int .i64 a4), (.int .i64 a5), (.sl a6)])] [] r O :=
  b0q (E := env) (hs := a5dq) (c := (a1q Tryz.f114)) (n := 16) (res := [.cell 2 85]) (rs := .s [.k .b, .k (.i .i64), .k (.i .i64), .o 30 3, .k (.i .i64), .k (.i .i64), .o 30 3]) (ks := []) (dir := []) envOk a4q rfl Tryz.func114 (by kernel_rfl) (by kernel_rfl) (by kernel_rfl) (by kernel_rfl) (a5q (by kernel_rfl) h)
def a51q : a9q := ⟨[], []⟩
theorem a4fq {s : List (List Da)} {l : Bool} {l1 : Int} {l2 : Int} {l3 : List (List Da)} {l4 : Int} {l5 : Int} {l6 : List (List Da)} {r : AV} {O : List (Nat × Ob)} (h : (∃ (b : Bool), (XC Tryz.prog 110 [(L s), (.dat [(.int .i64 l1), (.int .i64 l2), (.sl l3)])] [] (B b) [] ∧ ifB b
  ((∃ (b1 : Bool), (XC Tryz.prog 110 [(L s), (.dat [(.int .i64 l4), (.int .i64 l5), (.sl l6)])] [] (B b1) [] ∧ ifB b1
  ((∃ (b2 : Bool), (XC Tryz.prog 154 [(.dat [(.int .i64 l1), (.int .i64 l2), (.sl l3)]), (.dat [(.int .i64 l4), (.int .i64 l5), (.sl l6)])] [] (B b2) [] ∧ ((B (!b2)) = r ∧ [] = O))))
  (((B (false)) = r ∧ [] = O)))))
  (((B (false)) = r ∧ [] = O))))) : XC Tryz.prog 106 [(L s), (.dat [(.bool l), (.int .i64 l1), (.int .i64 l2), (.sl l3), (.int .i64 l4), (.int .i64 l5), (.sl l6)])] [] r O :=
  b0q (E := env) (hs := a51q) (c := (a1q Tryz.f106)) (n := 23) (res := [.tmp 4]) (rs := .c .b) (ks := []) (dir := []) envOk a4q rfl Tryz.func106 (by kernel_rfl) (by kernel_rfl) (by kernel_rfl) (by kernel_rfl) (a5q (by kernel_rfl) h)
def a0jq : a9q := ⟨[], []⟩
theorem Y8q {a : Bool} {a1 : Int} {a2 : Int} {a3 : List (List Da)} {a4 : Int} {a5 : Int} {a6 : List (List Da)} {b : Bool} {b1 : Int} {b2 : Int} {b3 : List (List Da)} {b4 : Int} {b5 : Int} {b6 : List (List Da)} {r : AV} {O : List (Nat × Ob)} (h : ifB (decide (a ≠ b))
  (((B b) = r ∧ [] = O))
  ((∃ (b7 : Bool), (XC Tryz.prog 78 [(.dat [(.int .i64 a1), (.int .i64 a2), (.sl a3)]), (.dat [(.int .i64 b1), (.int .i64 b2), (.sl b3)])] [] (B b7) [] ∧ ifB (!b7)
  ((∃ (b8 : Bool), (XC Tryz.prog 154 [(.dat [(.int .i64 a1), (.int .i64 a2), (.sl a3)]), (.dat [(.int .i64 b1), (.int .i64 b2), (.sl b3)])] [] (B b8) [] ∧ ((B b8) = r ∧ [] = O))))
  ((∃ (b9 : Bool), (XC Tryz.prog 154 [(.dat [(.int .i64 a4), (.int .i64 a5), (.sl a6)]), (.dat [(.int .i64 b4), (.int .i64 b5), (.sl b6)])] [] (B b9) [] ∧ ((B b9) = r ∧ [] = O)))))))) : XC Tryz.prog 107 [(.dat [(.bool a), (.int .i64 a1), (.int .i64 a2), (.sl a3), (.int .i64 a4), (.int .i64 a5), (.sl a6)]), (.dat [(.bool b), (.int .i64 b1), (.int .i64 b2), (.sl b3), (.int .i64 b4), (.int .i64 b5), (.sl b6)])] [] r O :=
  b0q (E := env) (hs := a0jq) (c := (a1q Tryz.f107)) (n := 28) (res := [.tmp 4]) (rs := .c .b) (ks := []) (dir := []) envOk a4q rfl Tryz.func107 (by kernel_rfl) (by kernel_rfl) (by kernel_rfl) (by kernel_rfl) (a5q (by kernel_rfl) h)
def u3q : a9q := ⟨[(5, ⟨[0, 4, 5, 7, 8], [], [], [], [], [], []⟩)], []⟩
def m5q (r : AV) (O : List (Nat × Ob)) (s0 : List (List Da)) (s7 : List (List Da)) (s8 : Int) (s4 : Int) (s41 : Int) (s42 : List (List Da)) (s5 : Int) (s51 : Int) (s52 : List (List Da)) : Prop := CL 69 Tryz.prog (d6q (a1q Tryz.f108) [1, 1, 1, 0, 1, 0, 0]) (b5q Tryz.prog env u3q 69 (a1q Tryz.f108) [1, 1, 1, 0, 1, 0, 0] (a6q env [.tmp 6] (.c .b) [] [] r O) (b4q (a6q env [.tmp 6] (.c .b) [] [] r O))).1 (b5q Tryz.prog env u3q 69 (a1q Tryz.f108) [1, 1, 1, 0, 1, 0, 0] (a6q env [.tmp 6] (.c .b) [] [] r O) (b4q (a6q env [.tmp 6] (.c .b) [] [] r O))).2 ⟨[(0, (L s0)), (4, (.one (.op 1900 0))), (5, (.one (.op 1901 0))), (7, (L s7)), (8, (Z s8))], [(1900, (.var [(.d (.int .i64 s4)), (.d (.int .i64 s41)), (.d (.sl s42))])), (1901, (.var [(.d (.int .i64 s5)), (.d (.int .i64 s51)), (.d (.sl s52))]))]⟩
theorem D3q {r : AV} {O : List (Nat × Ob)} {s0 : List (List Da)} {s7 : List (List Da)} {s8 : Int} {s4 : Int} {s41 : Int} {s42 : List (List Da)} {s5 : Int} {s51 : Int} {s52 : List (List Da)} (h : ifB (decide (s8 < (↑(List.length s7) : Int)))
  ((∃ (m : Nat), (s8 = ((↑m : Int)) ∧ (∃ (n : Int), ((s7[m]?) = some [(.int .i64 n)] ∧ (∃ (n1 : Int), (XC Tryz.prog 113 [(.dat [(.int .i64 s4), (.int .i64 s41), (.sl s42)]), (Z n)] [] (Z n1) [] ∧ (∃ (m1 : Nat), (s8 = ((↑m1 : Int)) ∧ (∃ (n2 : Int), ((s7[m1]?) = some [(.int .i64 n2)] ∧ (∃ (n3 : Int), (XC Tryz.prog 113 [(.dat [(.int .i64 s5), (.int .i64 s51), (.sl s52)]), (Z n2)] [] (Z n3) [] ∧ ifB (decide (n1 < n3))
  (((B (false)) = r ∧ [] = O))
  (m5q r O s0 s7 (IntKind.wrap IntKind.i64 (s8 + (1 : Int))) s4 s41 s42 s5 s51 s52))))))))))))))
  ((∃ (n4 : Int), (XC Tryz.prog 164 [(L s0), (.dat [(.int .i64 s4), (.int .i64 s41), (.sl s42)])] [] (Z n4) [] ∧ (∃ (n5 : Int), (XC Tryz.prog 164 [(L s0), (.dat [(.int .i64 s5), (.int .i64 s51), (.sl s52)])] [] (Z n5) [] ∧ ifB (decide (n5 < n4))
  (((B (true)) = r ∧ [] = O))
  (ifB (decide (n4 = n5))
  ((∃ (b : Bool), (XC Tryz.prog 165 [(.dat [(.int .i64 s4), (.int .i64 s41), (.sl s42)])] [] (B b) [] ∧ ifB b
  ((∃ (b1 : Bool), (XC Tryz.prog 165 [(.dat [(.int .i64 s5), (.int .i64 s51), (.sl s52)])] [] (B b1) [] ∧ ifB b1
  ((∃ (b2 : Bool), (XC Tryz.prog 154 [(.dat [(.int .i64 s5), (.int .i64 s51), (.sl s52)]), (.dat [(.int .i64 s4), (.int .i64 s41), (.sl s42)])] [] (B b2) [] ∧ ((B b2) = r ∧ [] = O))))
  (((B (false)) = r ∧ [] = O)))))
  (((B (false)) = r ∧ [] = O)))))
  (((B (false)) = r ∧ [] = O))))))))) : m5q r O s0 s7 s8 s4 s41 s42 s5 s51 s52 := by
  unfold m5q
  refine c5q (E := env) (hs := u3q) envOk a4q ?_
  exact a5q (by kernel_rfl) h
theorem a1lq {p : List (List Da)} {p1 : Int} {p2 : Int} {p3 : List (List Da)} {p4 : Int} {p5 : Int} {p6 : List (List Da)} {r : AV} {O : List (Nat × Ob)} (h : (∃ (b : Bool), (XC Tryz.prog 110 [(L p), (.dat [(.int .i64 p1), (.int .i64 p2), (.sl p3)])] [] (B b) [] ∧ ifB (!b)
  (((B (false)) = r ∧ [] = O))
  ((∃ (b1 : Bool), (XC Tryz.prog 110 [(L p), (.dat [(.int .i64 p4), (.int .i64 p5), (.sl p6)])] [] (B b1) [] ∧ ifB (!b1)
  (((B (false)) = r ∧ [] = O))
  ((∃ (xs : List (List Da)), (XC Tryz.prog 112 [(.dat [(.int .i64 p4), (.int .i64 p5), (.sl p6)])] [] (L xs) [] ∧ m5q r O p xs ((0 : Int)) p1 p2 p3 p4 p5 p6))))))))) : XC Tryz.prog 108 [(L p), (.dat [(.int .i64 p1), (.int .i64 p2), (.sl p3)]), (.dat [(.int .i64 p4), (.int .i64 p5), (.sl p6)])] [] r O :=
  b0q (E := env) (hs := u3q) (c := (a1q Tryz.f108)) (n := 69) (res := [.tmp 6]) (rs := .c .b) (ks := []) (dir := []) envOk a4q rfl Tryz.func108 (by kernel_rfl) (by kernel_rfl) (by kernel_rfl) (by kernel_rfl) (a5q (by kernel_rfl) h)
def v5q : a9q := ⟨[(3, ⟨[1, 2, 3, 4], [], [], [(3, (2, (30, 3)))], [], [3], []⟩)], []⟩
def o1q (r : AV) (O : List (Nat × Ob)) (i : Int) (t : Int) (t1 : Int) (t2 : List (List Da)) (s2 : Int) (s21 : Int) (out : Int) (out1 : Int) (out2 : List (List Da)) : Prop := CL 29 Tryz.prog (d6q (a1q Tryz.f109) [1, 1, 0, 1, 0, 0]) (b5q Tryz.prog env v5q 29 (a1q Tryz.f109) [1, 1, 0, 1, 0, 0] (a6q env [.cell 2 30] (.d [(.i .i64), (.i .i64), .l]) [] [] r O) (b4q (a6q env [.cell 2 30] (.d [(.i .i64), (.i .i64), .l]) [] [] r O))).1 (b5q Tryz.prog env v5q 29 (a1q Tryz.f109) [1, 1, 0, 1, 0, 0] (a6q env [.cell 2 30] (.d [(.i .i64), (.i .i64), .l]) [] [] r O) (b4q (a6q env [.cell 2 30] (.d [(.i .i64), (.i .i64), .l]) [] [] r O))).2 ⟨[(1, (.one (.op 1900 0))), (2, (.one (.op 1901 0))), (3, (.one (.op 1902 0))), (4, (Z i))], [(1900, (.var [(.d (.int .i64 t)), (.d (.int .i64 t1)), (.d (.sl t2))])), (1901, (.var [(.d (.int .i64 s2)), (.d (.int .i64 s21)), .e0])), (1902, (.var [(.d (.int .i64 out)), (.d (.int .i64 out1)), (.ol 1903)])), (1903, (.lst 30 3 out2))]⟩
theorem E2q {r : AV} {O : List (Nat × Ob)} {i : Int} {t : Int} {t1 : Int} {t2 : List (List Da)} {s2 : Int} {s21 : Int} {out : Int} {out1 : Int} {out2 : List (List Da)} (h : ifB (decide (i < (↑(List.length t2) : Int)))
  ((∃ (m : Nat), (i = ((↑m : Int)) ∧ (∃ (n : Int), (∃ (n1 : Int), (∃ (xs : List (List Da)), ((t2[m]?) = some [(.int .i64 n), (.int .i64 n1), (.sl xs)] ∧ (∃ (n2 : Int), (∃ (n3 : Int), (∃ (xs1 : List (List Da)), (XC Tryz.prog 109 [(.dat [(.int .i64 n), (.int .i64 n1), (.sl xs)])] [] (.dat [(.int .i64 n2), (.int .i64 n3), (.sl xs1)]) [] ∧ (Do ((List.length out2 + List.length [[Da.int IntKind.i64 n2, Da.int IntKind.i64 n3, Da.sl xs1]]) * (40 : Nat) ≤ (140737488355328 : Nat)) ∧ o1q r O (IntKind.wrap IntKind.i64 (i + (1 : Int))) t t1 t2 s2 s21 out out1 (out2 ++ [[Da.int IntKind.i64 n2, Da.int IntKind.i64 n3, Da.sl xs1]])))))))))))))
  (((.dat [(.int .i64 out), (.int .i64 out1), (.sl out2)]) = r ∧ [] = O))) : o1q r O i t t1 t2 s2 s21 out out1 out2 := by
  unfold o1q
  refine c5q (E := env) (hs := v5q) envOk a4q ?_
  exact a5q (by kernel_rfl) h
theorem a2Vq {t : Int} {t1 : Int} {t2 : List (List Da)} {r : AV} {O : List (Nat × Ob)} (h : o1q r O ((0 : Int)) t t1 t2 ((0 : Int)) ((0 : Int)) t t1 []) : XC Tryz.prog 109 [(.dat [(.int .i64 t), (.int .i64 t1), (.sl t2)])] [] r O :=
  b0q (E := env) (hs := v5q) (c := (a1q Tryz.f109)) (n := 29) (res := [.cell 2 30]) (rs := .d [(.i .i64), (.i .i64), .l]) (ks := []) (dir := []) envOk a4q rfl Tryz.func109 (by kernel_rfl) (by kernel_rfl) (by kernel_rfl) (by kernel_rfl) (a5q (by kernel_rfl) h)
def a3Wq : a9q := ⟨[], []⟩
theorem a2wq {s : List (List Da)} {t : Int} {t1 : Int} {t2 : List (List Da)} {r : AV} {O : List (Nat × Ob)} (h : (∃ (b : Bool), (XC Tryz.prog 166 [(L s)] [] (B b) [] ∧ ifB b
  ((∃ (n : Int), (XC Tryz.prog 167 [(.dat [(.int .i64 t), (.int .i64 t1), (.sl t2)])] [] (Z n) [] ∧ ifB (decide (n ≤ (60 : Int)))
  ((∃ (b1 : Bool), (XC Tryz.prog 168 [(L s), (.dat [(.int .i64 t), (.int .i64 t1), (.sl t2)])] [] (B b1) [] ∧ ((B b1) = r ∧ [] = O))))
  (((B (false)) = r ∧ [] = O)))))
  (((B (false)) = r ∧ [] = O))))) : XC Tryz.prog 110 [(L s), (.dat [(.int .i64 t), (.int .i64 t1), (.sl t2)])] [] r O :=
  b0q (E := env) (hs := a3Wq) (c := (a1q Tryz.f110)) (n := 17) (res := [.tmp 4]) (rs := .c .b) (ks := []) (dir := []) envOk a4q rfl Tryz.func110 (by kernel_rfl) (by kernel_rfl) (by kernel_rfl) (by kernel_rfl) (a5q (by kernel_rfl) h)
def a1Eq : a9q := ⟨[], []⟩
theorem a0wq {t : Int} {t1 : Int} {t2 : List (List Da)} {n : Int} {r : AV} {O : List (Nat × Ob)} (h : (∃ (xs : List (List Da)), (XC Tryz.prog 112 [(.dat [(.int .i64 t), (.int .i64 t1), (.sl t2)])] [] (L xs) [] ∧ ifB (decide ((↑(List.length xs) : Int) = (0 : Int)))
  (((B (true)) = r ∧ [] = O))
  ((∃ (m : Nat), ((IntKind.wrap IntKind.i64 ((↑(List.length xs) : Int) - (1 : Int))) = ((↑m : Int)) ∧ (∃ (n1 : Int), ((xs[m]?) = some [(.int .i64 n1)] ∧ ((B (decide (n1 < n))) = r ∧ [] = O))))))))) : XC Tryz.prog 111 [(.dat [(.int .i64 t), (.int .i64 t1), (.sl t2)]), (Z n)] [] r O :=
  b0q (E := env) (hs := a1Eq) (c := (a1q Tryz.f111)) (n := 21) (res := [.tmp 4]) (rs := .c .b) (ks := []) (dir := []) envOk a4q rfl Tryz.func111 (by kernel_rfl) (by kernel_rfl) (by kernel_rfl) (by kernel_rfl) (a5q (by kernel_rfl) h)
def a3Qq : a9q := ⟨[], []⟩
theorem a2oq {t : Int} {t1 : Int} {t2 : List (List Da)} {r : AV} {O : List (Nat × Ob)} (h : (∃ (xs : List (List Da)), (XC Tryz.prog 169 [(.dat [(.int .i64 t), (.int .i64 t1), (.sl t2)]), (L [])] [] (L xs) [] ∧ ((L xs) = r ∧ [] = O)))) : XC Tryz.prog 112 [(.dat [(.int .i64 t), (.int .i64 t1), (.sl t2)])] [] r O :=
  b0q (E := env) (hs := a3Qq) (c := (a1q Tryz.f112)) (n := 6) (res := [.tmp 2]) (rs := .c .l) (ks := []) (dir := []) envOk a4q rfl Tryz.func112 (by kernel_rfl) (by kernel_rfl) (by kernel_rfl) (by kernel_rfl) (a5q (by kernel_rfl) h)
def A2q : a9q := ⟨[(3, ⟨[1, 2, 5, 6], [], [], [], [], [], []⟩)], []⟩
def l9q (r : AV) (O : List (Nat × Ob)) (v : Int) (n : Int) (i : Int) (t : Int) (t1 : Int) (t2 : List (List Da)) : Prop := CL 34 Tryz.prog (d6q (a1q Tryz.f113) [1, 1, 0, 1, 0, 0]) (b5q Tryz.prog env A2q 34 (a1q Tryz.f113) [1, 1, 0, 1, 0, 0] (a6q env [.tmp 4] (.c (.i .i64)) [] [] r O) (b4q (a6q env [.tmp 4] (.c (.i .i64)) [] [] r O))).1 (b5q Tryz.prog env A2q 34 (a1q Tryz.f113) [1, 1, 0, 1, 0, 0] (a6q env [.tmp 4] (.c (.i .i64)) [] [] r O) (b4q (a6q env [.tmp 4] (.c (.i .i64)) [] [] r O))).2 ⟨[(1, (Z v)), (2, (.one (.op 1900 0))), (5, (Z n)), (6, (Z i))], [(1900, (.var [(.d (.int .i64 t)), (.d (.int .i64 t1)), (.d (.sl t2))]))]⟩
theorem I0q {r : AV} {O : List (Nat × Ob)} {v : Int} {n : Int} {i : Int} {t : Int} {t1 : Int} {t2 : List (List Da)} (h : ifB (decide (i < (↑(List.length t2) : Int)))
  ((∃ (m : Nat), (i = ((↑m : Int)) ∧ (∃ (n1 : Int), (∃ (n2 : Int), (∃ (xs : List (List Da)), ((t2[m]?) = some [(.int .i64 n1), (.int .i64 n2), (.sl xs)] ∧ (∃ (n3 : Int), (XC Tryz.prog 113 [(.dat [(.int .i64 n1), (.int .i64 n2), (.sl xs)]), (Z v)] [] (Z n3) [] ∧ l9q r O v (IntKind.wrap IntKind.i64 (n + n3)) (IntKind.wrap IntKind.i64 (i + (1 : Int))) t t1 t2)))))))))
  (((Z n) = r ∧ [] = O))) : l9q r O v n i t t1 t2 := by
  unfold l9q
  refine c5q (E := env) (hs := A2q) envOk a4q ?_
  exact a5q (by kernel_rfl) h
theorem a42q {t : Int} {t1 : Int} {t2 : List (List Da)} {v : Int} {r : AV} {O : List (Nat × Ob)} (h : ifB (decide (t = (-1 : Int)))
  ((∃ (n : Int), (XC Tryz.prog 170 [(B (decide (t1 = v)))] [] (Z n) [] ∧ l9q r O v n ((0 : Int)) t t1 t2)))
  ((∃ (n1 : Int), (XC Tryz.prog 170 [(B (false))] [] (Z n1) [] ∧ l9q r O v n1 ((0 : Int)) t t1 t2)))) : XC Tryz.prog 113 [(.dat [(.int .i64 t), (.int .i64 t1), (.sl t2)]), (Z v)] [] r O :=
  b0q (E := env) (hs := A2q) (c := (a1q Tryz.f113)) (n := 34) (res := [.tmp 4]) (rs := .c (.i .i64)) (ks := []) (dir := []) envOk a4q rfl Tryz.func113 (by kernel_rfl) (by kernel_rfl) (by kernel_rfl) (by kernel_rfl) (a5q (by kernel_rfl) h)
def a5aq : a9q := ⟨[], []⟩
theorem a4lq {s : List (List Da)} {l : Bool} {l1 : Int} {l2 : Int} {l3 : List (List Da)} {l4 : Int} {l5 : Int} {l6 : List (List Da)} {r : AV} {O : List (Nat × Ob)} (h : (∃ (b : Bool), (XC Tryz.prog 120 [(L s), (.dat [(.int .i64 l1), (.int .i64 l2), (.sl l3)])] [] (B b) [] ∧ ifB b
  ((∃ (b1 : Bool), (XC Tryz.prog 120 [(L s), (.dat [(.int .i64 l4), (.int .i64 l5), (.sl l6)])] [] (B b1) [] ∧ ifB b1
  ((∃ (b2 : Bool), (XC Tryz.prog 171 [(.dat [(.int .i64 l1), (.int .i64 l2), (.sl l3)]), (.dat [(.int .i64 l4), (.int .i64 l5), (.sl l6)])] [] (B b2) [] ∧ ((B (!b2)) = r ∧ [] = O))))
  (((B (false)) = r ∧ [] = O)))))
  (((B (false)) = r ∧ [] = O))))) : XC Tryz.prog 115 [(L s), (.dat [(.bool l), (.int .i64 l1), (.int .i64 l2), (.sl l3), (.int .i64 l4), (.int .i64 l5), (.sl l6)])] [] r O :=
  b0q (E := env) (hs := a5aq) (c := (a1q Tryz.f115)) (n := 23) (res := [.tmp 4]) (rs := .c .b) (ks := []) (dir := []) envOk a4q rfl Tryz.func115 (by kernel_rfl) (by kernel_rfl) (by kernel_rfl) (by kernel_rfl) (a5q (by kernel_rfl) h)
def a0uq : a9q := ⟨[], []⟩
theorem Z2q {a : Bool} {a1 : Int} {a2 : Int} {a3 : List (List Da)} {a4 : Int} {a5 : Int} {a6 : List (List Da)} {b : Bool} {b1 : Int} {b2 : Int} {b3 : List (List Da)} {b4 : Int} {b5 : Int} {b6 : List (List Da)} {r : AV} {O : List (Nat × Ob)} (h : (∃ (n : Int), (XC Tryz.prog 135 [(.dat [(.bool a), (.int .i64 a1), (.int .i64 a2), (.sl a3), (.int .i64 a4), (.int .i64 a5), (.sl a6)]), (.dat [(.bool b), (.int .i64 b1), (.int .i64 b2), (.sl b3), (.int .i64 b4), (.int .i64 b5), (.sl b6)])] [] (Z n) [] ∧ ((B (decide (n < (0 : Int)))) = r ∧ [] = O)))) : XC Tryz.prog 116 [(.dat [(.bool a), (.int .i64 a1), (.int .i64 a2), (.sl a3), (.int .i64 a4), (.int .i64 a5), (.sl a6)]), (.dat [(.bool b), (.int .i64 b1), (.int .i64 b2), (.sl b3), (.int .i64 b4), (.int .i64 b5), (.sl b6)])] [] r O :=
  b0q (E := env) (hs := a0uq) (c := (a1q Tryz.f116)) (n := 9) (res := [.tmp 4]) (rs := .c .b) (ks := []) (dir := []) envOk a4q rfl Tryz.func116 (by kernel_rfl) (by kernel_rfl) (by kernel_rfl) (by kernel_rfl) (a5q (by kernel_rfl) h)
def a1tq : a9q := ⟨[], []⟩
theorem a0mq {t : Int} {t1 : Int} {t2 : List (List Da)} {r : AV} {O : List (Nat × Ob)} (h : (∃ (xs : List (List Da)), (XC Tryz.prog 172 [(L t2)] [] (.one (.ol 0)) [(0, (.tr 30 3 xs))] ∧ ((.agg [(.d (.int .i64 t)), (.d (.int .i64 t1)), (.ol 0)]) = r ∧ [(0, (.tr 30 3 xs))] = O)))) : XC Tryz.prog 117 [(.dat [(.int .i64 t), (.int .i64 t1), (.sl t2)])] [] r O :=
  b0q (E := env) (hs := a1tq) (c := (a1q Tryz.f117)) (n := 8) (res := [.cell 2 30]) (rs := .s [.k (.i .i64), .k (.i .i64), .o 30 3]) (ks := []) (dir := []) envOk a4q rfl Tryz.func117 (by kernel_rfl) (by kernel_rfl) (by kernel_rfl) (by kernel_rfl) (a5q (by kernel_rfl) h)
def u5q : a9q := ⟨[(4, ⟨[0, 4, 5, 22, 23, 24], [], [], [], [], [], []⟩)], []⟩
def m3q (r : AV) (O : List (Nat × Ob)) (s : List (List Da)) (s23 : Int) (s24 : Int) (a : Int) (a1 : Int) (a2 : List (List Da)) (b : Int) (b1 : Int) (b2 : List (List Da)) (s22 : List (List Da)) : Prop := CL 63 Tryz.prog (d6q (a1q Tryz.f118) [1, 1, 0, 1, 0, 0]) (b5q Tryz.prog env u5q 63 (a1q Tryz.f118) [1, 1, 0, 1, 0, 0] (a6q env [.tmp 6] (.c .b) [] [] r O) (b4q (a6q env [.tmp 6] (.c .b) [] [] r O))).1 (b5q Tryz.prog env u5q 63 (a1q Tryz.f118) [1, 1, 0, 1, 0, 0] (a6q env [.tmp 6] (.c .b) [] [] r O) (b4q (a6q env [.tmp 6] (.c .b) [] [] r O))).2 ⟨[(0, (L s)), (4, (.one (.op 1900 0))), (5, (.one (.op 1901 0))), (22, (.one (.ol 1902))), (23, (Z s23)), (24, (Z s24))], [(1900, (.var [(.d (.int .i64 a)), (.d (.int .i64 a1)), (.d (.sl a2))])), (1901, (.var [(.d (.int .i64 b)), (.d (.int .i64 b1)), (.d (.sl b2))])), (1902, (.tr 3 1 s22))]⟩
theorem D0q {r : AV} {O : List (Nat × Ob)} {s : List (List Da)} {s23 : Int} {s24 : Int} {a : Int} {a1 : Int} {a2 : List (List Da)} {b : Int} {b1 : Int} {b2 : List (List Da)} {s22 : List (List Da)} (h : ifB (decide (s24 < s23))
  ((∃ (m : Nat), (s24 = ((↑m : Int)) ∧ (Do (m < List.length s22) ∧ (∃ (n : Nat), ((m * (1 : Nat)) = (n * (1 : Nat)) ∧ (∃ (n1 : Int), ((s22[n]?) = some [(.int .i64 n1)] ∧ (∃ (n2 : Int), (XC Tryz.prog 173 [(.dat [(.int .i64 a), (.int .i64 a1), (.sl a2)]), (Z n1)] [] (Z n2) [] ∧ (∃ (n3 : Int), (XC Tryz.prog 173 [(.dat [(.int .i64 b), (.int .i64 b1), (.sl b2)]), (Z n1)] [] (Z n3) [] ∧ ifB (decide (n2 < n3))
  (((B (false)) = r ∧ [] = O))
  (m3q r O s s23 (IntKind.wrap IntKind.i64 (s24 + (1 : Int))) a a1 a2 b b1 b2 s22)))))))))))))
  ((∃ (n4 : Int), (XC Tryz.prog 174 [(L s), (.dat [(.int .i64 a), (.int .i64 a1), (.sl a2)])] [] (Z n4) [] ∧ (∃ (n5 : Int), (XC Tryz.prog 174 [(L s), (.dat [(.int .i64 b), (.int .i64 b1), (.sl b2)])] [] (Z n5) [] ∧ ifB (decide (n5 < n4))
  (((B (true)) = r ∧ [] = O))
  (ifB (decide (n4 = n5))
  ((∃ (b4 : Bool), (XC Tryz.prog 175 [(.dat [(.int .i64 a), (.int .i64 a1), (.sl a2)])] [] (B b4) [] ∧ ifB b4
  ((∃ (b5 : Bool), (XC Tryz.prog 175 [(.dat [(.int .i64 b), (.int .i64 b1), (.sl b2)])] [] (B b5) [] ∧ ifB b5
  ((∃ (b6 : Bool), (XC Tryz.prog 171 [(.dat [(.int .i64 b), (.int .i64 b1), (.sl b2)]), (.dat [(.int .i64 a), (.int .i64 a1), (.sl a2)])] [] (B b6) [] ∧ ((B b6) = r ∧ [] = O))))
  (((B (false)) = r ∧ [] = O)))))
  (((B (false)) = r ∧ [] = O)))))
  (((B (false)) = r ∧ [] = O))))))))) : m3q r O s s23 s24 a a1 a2 b b1 b2 s22 := by
  unfold m3q
  refine c5q (E := env) (hs := u5q) envOk a4q ?_
  exact a5q (by kernel_rfl) h
theorem a1Fq {s : List (List Da)} {a : Int} {a1 : Int} {a2 : List (List Da)} {b : Int} {b1 : Int} {b2 : List (List Da)} {r : AV} {O : List (Nat × Ob)} (h : (∃ (b3 : Bool), (XC Tryz.prog 120 [(L s), (.dat [(.int .i64 a), (.int .i64 a1), (.sl a2)])] [] (B b3) [] ∧ ifB (!b3)
  (((B (false)) = r ∧ [] = O))
  ((∃ (b4 : Bool), (XC Tryz.prog 120 [(L s), (.dat [(.int .i64 b), (.int .i64 b1), (.sl b2)])] [] (B b4) [] ∧ ifB (!b4)
  (((B (false)) = r ∧ [] = O))
  ((∃ (xs : List (List Da)), (XC Tryz.prog 119 [(.dat [(.int .i64 b), (.int .i64 b1), (.sl b2)])] [] (.one (.ol 0)) [(0, (.tr 3 1 xs))] ∧ m3q r O s ((↑(List.length xs) : Int)) ((0 : Int)) a a1 a2 b b1 b2 xs))))))))) : XC Tryz.prog 118 [(L s), (.dat [(.int .i64 a), (.int .i64 a1), (.sl a2)]), (.dat [(.int .i64 b), (.int .i64 b1), (.sl b2)])] [] r O :=
  b0q (E := env) (hs := u5q) (c := (a1q Tryz.f118)) (n := 63) (res := [.tmp 6]) (rs := .c .b) (ks := []) (dir := []) envOk a4q rfl Tryz.func118 (by kernel_rfl) (by kernel_rfl) (by kernel_rfl) (by kernel_rfl) (a5q (by kernel_rfl) h)
def a4iq : a9q := ⟨[], []⟩
theorem a3aq {t : Int} {t1 : Int} {t2 : List (List Da)} {r : AV} {O : List (Nat × Ob)} (h : (∃ (xs : List (List Da)), (XC Tryz.prog 176 [(.dat [(.int .i64 t), (.int .i64 t1), (.sl t2)]), (.one (.clo 177 [(2000, 0)]))] [(2000, (.var [(.ol 2001)])), (2001, (.tr 3 1 []))] (.tup []) [(2000, (.var [(.ol 0)])), (0, (.tr 3 1 xs))] ∧ ((.one (.ol 0)) = r ∧ [(0, (.tr 3 1 xs))] = O)))) : XC Tryz.prog 119 [(.dat [(.int .i64 t), (.int .i64 t1), (.sl t2)])] [] r O :=
  b0q (E := env) (hs := a4iq) (c := (a1q Tryz.f119)) (n := 9) (res := [.tmp 2]) (rs := .o 3 1) (ks := []) (dir := []) envOk a4q rfl Tryz.func119 (by kernel_rfl) (by kernel_rfl) (by kernel_rfl) (by kernel_rfl) (a5q (by kernel_rfl) h)
def a3Dq : a9q := ⟨[], []⟩
theorem a2lq {s : List (List Da)} {t : Int} {t1 : Int} {t2 : List (List Da)} {r : AV} {O : List (Nat × Ob)} (h : (∃ (b : Bool), (XC Tryz.prog 179 [(L s)] [] (B b) [] ∧ ifB b
  ((∃ (n : Int), (XC Tryz.prog 180 [(.dat [(.int .i64 t), (.int .i64 t1), (.sl t2)])] [] (Z n) [] ∧ ifB (decide (n ≤ (60 : Int)))
  ((∃ (b1 : Bool), (XC Tryz.prog 181 [(L s), (.dat [(.int .i64 t), (.int .i64 t1), (.sl t2)])] [] (B b1) [] ∧ ((B b1) = r ∧ [] = O))))
  (((B (false)) = r ∧ [] = O)))))
  (((B (false)) = r ∧ [] = O))))) : XC Tryz.prog 120 [(L s), (.dat [(.int .i64 t), (.int .i64 t1), (.sl t2)])] [] r O :=
  b0q (E := env) (hs := a3Dq) (c := (a1q Tryz.f120)) (n := 17) (res := [.tmp 4]) (rs := .c .b) (ks := []) (dir := []) envOk a4q rfl Tryz.func120 (by kernel_rfl) (by kernel_rfl) (by kernel_rfl) (by kernel_rfl) (a5q (by kernel_rfl) h)
def a4Tq : a9q := ⟨[], []⟩
theorem R5q {t : Int} {t1 : Int} {t2 : List (List Da)} {r : AV} {O : List (Nat × Ob)} (h : ((B (decide (t = (-1 : Int)))) = r ∧ [] = O)) : XC Tryz.prog 100 [(.dat [(.int .i64 t), (.int .i64 t1), (.sl t2)])] [] r O :=
  b0q (E := env) (hs := a4Tq) (c := (a1q Tryz.f100)) (n := 6) (res := [.tmp 2]) (rs := .c .b) (ks := []) (dir := []) envOk a4q rfl Tryz.func100 (by kernel_rfl) (by kernel_rfl) (by kernel_rfl) (by kernel_rfl) (a5q (by kernel_rfl) h)
def q4q : a9q := ⟨[], []⟩
theorem p8q {s : List (List Da)} {r : AV} {O : List (Nat × Ob)} (h : (∃ (n : Int), (XC Tryz.prog 182 [(L s), (.one (.d (.fn 122)))] [] (Z n) [] ∧ ((B (decide ((0 : Int) ≤ n))) = r ∧ [] = O)))) : XC Tryz.prog 121 [(L s), (.one (.d (.fn 122)))] [] r O :=
  b0q (E := env) (hs := q4q) (c := (a1q Tryz.f121)) (n := 9) (res := [.tmp 4]) (rs := .c .b) (ks := []) (dir := []) envOk a4q rfl Tryz.func121 (by kernel_rfl) (by kernel_rfl) (by kernel_rfl) (by kernel_rfl) (a5q (by kernel_rfl) h)
def q1q : a9q := ⟨[], []⟩
theorem p9q {s : List (List Da)} {o2000 : List (List Da)} {r : AV} {O : List (Nat × Ob)} (h : (∃ (n : Int), (∃ (xs : List (List Da)), (XC Tryz.prog 182 [(L s), (.one (.clo 123 [(2000, 0)]))] [(2000, (.var [(.ol 2001)])), (2001, (.tr 3 1 o2000))] (Z n) [(2000, (.var [(.ol 0)])), (0, (.tr 3 1 xs))] ∧ ((B (decide ((0 : Int) ≤ n))) = r ∧ [(2000, (.var [(.ol 0)])), (0, (.tr 3 1 xs))] = O))))) : XC Tryz.prog 121 [(L s), (.one (.clo 123 [(2000, 0)]))] [(2000, (.var [(.ol 2001)])), (2001, (.tr 3 1 o2000))] r O :=
  b0q (E := env) (hs := q1q) (c := (a1q Tryz.f121)) (n := 9) (res := [.tmp 4]) (rs := .c .b) (ks := [(2000, (true)), (2001, (false))]) (dir := [2000]) envOk a4q rfl Tryz.func121 (by kernel_rfl) (by kernel_rfl) (by kernel_rfl) (by kernel_rfl) (a5q (by kernel_rfl) h)
def u1q : a9q := ⟨[(4, ⟨[0, 1, 5], [], [], [], [], [], []⟩)], []⟩
def m9q (r : AV) (O : List (Nat × Ob)) (a : List (List Da)) (b : List (List Da)) (i : Int) : Prop := CL 27 Tryz.prog (d6q (a1q Tryz.f125) [1, 1, 0, 1, 0, 0]) (b5q Tryz.prog env u1q 27 (a1q Tryz.f125) [1, 1, 0, 1, 0, 0] (a6q env [.tmp 4] (.c .b) [] [] r O) (b4q (a6q env [.tmp 4] (.c .b) [] [] r O))).1 (b5q Tryz.prog env u1q 27 (a1q Tryz.f125) [1, 1, 0, 1, 0, 0] (a6q env [.tmp 4] (.c .b) [] [] r O) (b4q (a6q env [.tmp 4] (.c .b) [] [] r O))).2 ⟨[(0, (L a)), (1, (L b)), (5, (Z i))], []⟩
theorem D1q {r : AV} {O : List (Nat × Ob)} {a : List (List Da)} {b : List (List Da)} {i : Int} (h : ifB (decide (i < (↑(List.length a) : Int)))
  ((∃ (m : Nat), (i = ((↑m : Int)) ∧ (∃ (n : Int), (∃ (n1 : Int), (∃ (xs : List (List Da)), ((a[m]?) = some [(.int .i64 n), (.int .i64 n1), (.sl xs)] ∧ (∃ (m1 : Nat), (i = ((↑m1 : Int)) ∧ (∃ (n2 : Int), (∃ (n3 : Int), (∃ (xs1 : List (List Da)), ((b[m1]?) = some [(.int .i64 n2), (.int .i64 n3), (.sl xs1)] ∧ (∃ (b2 : Bool), (XC Tryz.prog 54 [(.dat [(.int .i64 n), (.int .i64 n1), (.sl xs)]), (.dat [(.int .i64 n2), (.int .i64 n3), (.sl xs1)])] [] (B b2) [] ∧ ifB (!b2)
  (((B (false)) = r ∧ [] = O))
  (m9q r O a b (IntKind.wrap IntKind.i64 (i + (1 : Int)))))))))))))))))))
  (((B (true)) = r ∧ [] = O))) : m9q r O a b i := by
  unfold m9q
  refine c5q (E := env) (hs := u1q) envOk a4q ?_
  exact a5q (by kernel_rfl) h
theorem a1Wq {a : List (List Da)} {b : List (List Da)} {r : AV} {O : List (Nat × Ob)} (h : ifB (decide ((↑(List.length a) : Int) ≠ (↑(List.length b) : Int)))
  (((B (false)) = r ∧ [] = O))
  (m9q r O a b ((0 : Int)))) : XC Tryz.prog 125 [(L a), (L b)] [] r O :=
  b0q (E := env) (hs := u1q) (c := (a1q Tryz.f125)) (n := 27) (res := [.tmp 4]) (rs := .c .b) (ks := []) (dir := []) envOk a4q rfl Tryz.func125 (by kernel_rfl) (by kernel_rfl) (by kernel_rfl) (by kernel_rfl) (a5q (by kernel_rfl) h)
def a5Hq : a9q := ⟨[], []⟩
theorem a3Eq {a : Bool} {a1 : Int} {a2 : Int} {a3 : List (List Da)} {a4 : Int} {a5 : Int} {a6 : List (List Da)} {b : Bool} {b1 : Int} {b2 : Int} {b3 : List (List Da)} {b4 : Int} {b5 : Int} {b6 : List (List Da)} {r : AV} {O : List (Nat × Ob)} (h : ifB (decide (a ≠ b))
  (((B (false)) = r ∧ [] = O))
  ((∃ (b7 : Bool), (XC Tryz.prog 54 [(.dat [(.int .i64 a1), (.int .i64 a2), (.sl a3)]), (.dat [(.int .i64 b1), (.int .i64 b2), (.sl b3)])] [] (B b7) [] ∧ ifB (!b7)
  (((B (false)) = r ∧ [] = O))
  ((∃ (b8 : Bool), (XC Tryz.prog 54 [(.dat [(.int .i64 a4), (.int .i64 a5), (.sl a6)]), (.dat [(.int .i64 b4), (.int .i64 b5), (.sl b6)])] [] (B b8) [] ∧ ifB (!b8)
  (((B (false)) = r ∧ [] = O))
  (((B (true)) = r ∧ [] = O))))))))) : XC Tryz.prog 126 [(.dat [(.bool a), (.int .i64 a1), (.int .i64 a2), (.sl a3), (.int .i64 a4), (.int .i64 a5), (.sl a6)]), (.dat [(.bool b), (.int .i64 b1), (.int .i64 b2), (.sl b3), (.int .i64 b4), (.int .i64 b5), (.sl b6)])] [] r O :=
  b0q (E := env) (hs := a5Hq) (c := (a1q Tryz.f126)) (n := 22) (res := [.tmp 4]) (rs := .c .b) (ks := []) (dir := []) envOk a4q rfl Tryz.func126 (by kernel_rfl) (by kernel_rfl) (by kernel_rfl) (by kernel_rfl) (a5q (by kernel_rfl) h)
def p3q : a9q := ⟨[(2, ⟨[0, 1, 5], [], [], [], [], [], []⟩)], []⟩
def k3q (r : AV) (O : List (Nat × Ob)) (k : Int) (i : Int) (a : List (List Da)) : Prop := CL 34 Tryz.prog (d6q (a1q Tryz.f76) [1, 0, 1, 0, 0]) (b5q Tryz.prog env p3q 34 (a1q Tryz.f76) [1, 0, 1, 0, 0] (a6q env [.tmp 4] (.c (.i .i64)) [(2000, (false))] [2000] r O) (b4q (a6q env [.tmp 4] (.c (.i .i64)) [(2000, (false))] [2000] r O))).1 (b5q Tryz.prog env p3q 34 (a1q Tryz.f76) [1, 0, 1, 0, 0] (a6q env [.tmp 4] (.c (.i .i64)) [(2000, (false))] [2000] r O) (b4q (a6q env [.tmp 4] (.c (.i .i64)) [(2000, (false))] [2000] r O))).2 ⟨[(0, (.one (.ol 2000))), (1, (Z k)), (5, (Z i))], [(2000, (.mt 30 3 a))]⟩
theorem z1q {r : AV} {O : List (Nat × Ob)} {k : Int} {i : Int} {a : List (List Da)} (h : ifB (decide (i < (↑(List.length a) : Int)))
  ((∃ (m : Nat), (i = ((↑m : Int)) ∧ (Do (m < List.length a) ∧ (∃ (m1 : Nat), ((m * (3 : Nat) + (0 : Nat)) = (m1 * (3 : Nat) + (0 : Nat)) ∧ (∃ (n : Int), (∃ (n1 : Int), (∃ (xs : List (List Da)), ((a[m1]?) = some [(.int .i64 n), (.int .i64 n1), (.sl xs)] ∧ (∃ (m2 : Nat), (i = ((↑m2 : Int)) ∧ (Do (m2 < List.length (List.set a m1 ([] ++ [Da.int IntKind.i64 k] ++ [Da.int IntKind.i64 n1, Da.sl xs]))) ∧ (∃ (m3 : Nat), ((m2 * (3 : Nat) + (1 : Nat)) = (m3 * (3 : Nat) + Nat.succ (nat_lit 0)) ∧ (∃ (n2 : Int), (∃ (n3 : Int), (∃ (xs1 : List (List Da)), (((List.set a m1 ([] ++ [Da.int IntKind.i64 k] ++ [Da.int IntKind.i64 n1, Da.sl xs]))[m3]?) = some [(.int .i64 n2), (.int .i64 n3), (.sl xs1)] ∧ (∃ (m4 : Nat), (i = ((↑m4 : Int)) ∧ (Do (m4 < List.length (List.set (List.set a m1 ([] ++ [Da.int IntKind.i64 k] ++ [Da.int IntKind.i64 n1, Da.sl xs])) m3 ([Da.int IntKind.i64 n2] ++ [Da.int IntKind.i64 (IntKind.wrap IntKind.i64 (k + (1 : Int)))] ++ [Da.sl xs1]))) ∧ (∃ (m5 : Nat), ((m4 * (3 : Nat) + (2 : Nat)) = (m5 * (3 : Nat) + Nat.succ (nat_lit 1)) ∧ (∃ (n4 : Int), (∃ (n5 : Int), (∃ (xs2 : List (List Da)), (((List.set (List.set a m1 ([] ++ [Da.int IntKind.i64 k] ++ [Da.int IntKind.i64 n1, Da.sl xs])) m3 ([Da.int IntKind.i64 n2] ++ [Da.int IntKind.i64 (IntKind.wrap IntKind.i64 (k + (1 : Int)))] ++ [Da.sl xs1]))[m5]?) = some [(.int .i64 n4), (.int .i64 n5), (.sl xs2)] ∧ (∀ (a1 : Option Addr), (∀ (l : Nat), (∀ (r1 : Nat), ((a1 = a1 ∧ ((l) = (l) ∧ (r1) = (r1))) ∧ (∃ (n6 : Int), (∃ (n7 : Int), (∃ (xs3 : List (List Da)), (((List.set (List.set a m1 ([] ++ [Da.int IntKind.i64 k] ++ [Da.int IntKind.i64 n1, Da.sl xs])) m3 ([Da.int IntKind.i64 n2] ++ [Da.int IntKind.i64 (IntKind.wrap IntKind.i64 (k + (1 : Int)))] ++ [Da.sl xs1]))[m5]?) = some [(.int .i64 n6), (.int .i64 n7), (.sl xs3)] ∧ (Do (∀ (y : List Da), y ∈ xs3 → List.length y = Prod.fst ((3 : Nat), (40 : Nat), [At.d (Da.int IntKind.i64 (0 : Int)), At.d (Da.int IntKind.i64 (0 : Int)), At.e0])) ∧ (∃ (ys1 : List (List Da)), (∃ (n8 : Int), (XC Tryz.prog 76 [(.one (.ol 2000)), (Z (IntKind.wrap IntKind.i64 (IntKind.wrap IntKind.i64 (k + (1 : Int)) + (1 : Int))))] [(2000, (.mt 30 3 xs3))] (Z n8) [(2000, (.mt 30 3 ys1))] ∧ k3q r O n8 (IntKind.wrap IntKind.i64 (i + (1 : Int))) (List.set (List.set (List.set a m1 ([] ++ [Da.int IntKind.i64 k] ++ [Da.int IntKind.i64 n1, Da.sl xs])) m3 ([Da.int IntKind.i64 n2] ++ [Da.int IntKind.i64 (IntKind.wrap IntKind.i64 (k + (1 : Int)))] ++ [Da.sl xs1])) m5 ([Da.int IntKind.i64 n6, Da.int IntKind.i64 n7] ++ [Da.sl ys1] ++ []))))))))))))))))))))))))))))))))))))))))))
  (((Z k) = r ∧ [(2000, (.mt 30 3 a))] = O))) : k3q r O k i a := by
  unfold k3q
  refine c5q (E := env) (hs := p3q) envOk a4q ?_
  exact a5q (by kernel_rfl) h
theorem Z1q {k : Int} {o2000 : List (List Da)} {r : AV} {O : List (Nat × Ob)} (h : k3q r O k ((0 : Int)) o2000) : XC Tryz.prog 76 [(.one (.ol 2000)), (Z k)] [(2000, (.mt 30 3 o2000))] r O :=
  b0q (E := env) (hs := p3q) (c := (a1q Tryz.f76)) (n := 34) (res := [.tmp 4]) (rs := .c (.i .i64)) (ks := [(2000, (false))]) (dir := [2000]) envOk a4q rfl Tryz.func76 (by kernel_rfl) (by kernel_rfl) (by kernel_rfl) (by kernel_rfl) (a5q (by kernel_rfl) h)
def p7q : a9q := ⟨[(2, ⟨[0, 1, 5], [], [], [], [], [], []⟩)], []⟩
def k5q (r : AV) (O : List (Nat × Ob)) (a : List (List Da)) (k : Int) (i : Int) : Prop := CL 40 Tryz.prog (d6q (a1q Tryz.f127) [1, 0, 1, 0, 0]) (b5q Tryz.prog env p7q 40 (a1q Tryz.f127) [1, 0, 1, 0, 0] (a6q env [.tmp 4] (.c (.i .i64)) [] [] r O) (b4q (a6q env [.tmp 4] (.c (.i .i64)) [] [] r O))).1 (b5q Tryz.prog env p7q 40 (a1q Tryz.f127) [1, 0, 1, 0, 0] (a6q env [.tmp 4] (.c (.i .i64)) [] [] r O) (b4q (a6q env [.tmp 4] (.c (.i .i64)) [] [] r O))).2 ⟨[(0, (L a)), (1, (Z k)), (5, (Z i))], []⟩
theorem z9q {r : AV} {O : List (Nat × Ob)} {a : List (List Da)} {k : Int} {i : Int} (h : ifB (decide (i < (↑(List.length a) : Int)))
  ((∃ (m : Nat), (i = ((↑m : Int)) ∧ (∃ (n : Int), (∃ (n1 : Int), (∃ (xs : List (List Da)), ((a[m]?) = some [(.int .i64 n), (.int .i64 n1), (.sl xs)] ∧ ifB (decide (n ≠ k))
  (((Z ((-1 : Int))) = r ∧ [] = O))
  ((∃ (m1 : Nat), (i = ((↑m1 : Int)) ∧ (∃ (n2 : Int), (∃ (n3 : Int), (∃ (xs1 : List (List Da)), ((a[m1]?) = some [(.int .i64 n2), (.int .i64 n3), (.sl xs1)] ∧ ifB (decide (n3 ≠ IntKind.wrap IntKind.i64 (k + (1 : Int))))
  (((Z ((-1 : Int))) = r ∧ [] = O))
  ((∃ (m2 : Nat), (i = ((↑m2 : Int)) ∧ (∃ (n4 : Int), (∃ (n5 : Int), (∃ (xs2 : List (List Da)), ((a[m2]?) = some [(.int .i64 n4), (.int .i64 n5), (.sl xs2)] ∧ (∃ (n6 : Int), (XC Tryz.prog 127 [(L xs2), (Z (IntKind.wrap IntKind.i64 (IntKind.wrap IntKind.i64 (k + (1 : Int)) + (1 : Int))))] [] (Z n6) [] ∧ ifB (decide (n6 < (0 : Int)))
  (((Z ((-1 : Int))) = r ∧ [] = O))
  (k5q r O a n6 (IntKind.wrap IntKind.i64 (i + (1 : Int)))))))))))))))))))))))))))
  (((Z k) = r ∧ [] = O))) : k5q r O a k i := by
  unfold k5q
  refine c5q (E := env) (hs := p7q) envOk a4q ?_
  exact a5q (by kernel_rfl) h
theorem Y6q {a : List (List Da)} {k : Int} {r : AV} {O : List (Nat × Ob)} (h : k5q r O a k ((0 : Int))) : XC Tryz.prog 127 [(L a), (Z k)] [] r O :=
  b0q (E := env) (hs := p7q) (c := (a1q Tryz.f127)) (n := 40) (res := [.tmp 4]) (rs := .c (.i .i64)) (ks := []) (dir := []) envOk a4q rfl Tryz.func127 (by kernel_rfl) (by kernel_rfl) (by kernel_rfl) (by kernel_rfl) (a5q (by kernel_rfl) h)
def a46q : a9q := ⟨[], []⟩
theorem a2vq {a : Int} {a1 : Int} {a2 : List (List Da)} {left : Int} {r : AV} {O : List (Nat × Ob)} (h : (∃ (n : Int), (XC Tryz.prog 192 [(L a2), (Z left)] [] (Z n) [] ∧ ifB (decide (n < (0 : Int)))
  (((Z ((-1 : Int))) = r ∧ [] = O))
  (((Z n) = r ∧ [] = O))))) : XC Tryz.prog 130 [(.dat [(.int .i64 a), (.int .i64 a1), (.sl a2)]), (Z left)] [] r O :=
  b0q (E := env) (hs := a46q) (c := (a1q Tryz.f130)) (n := 12) (res := [.tmp 4]) (rs := .c (.i .i64)) (ks := []) (dir := []) envOk a4q rfl Tryz.func130 (by kernel_rfl) (by kernel_rfl) (by kernel_rfl) (by kernel_rfl) (a5q (by kernel_rfl) h)
def a4dq : a9q := ⟨[], []⟩
theorem a2Hq {a : Int} {a1 : Int} {a2 : List (List Da)} {r : AV} {O : List (Nat × Ob)} (h : (∃ (xs : List (List Da)), (XC Tryz.prog 195 [(L a2)] [] (.one (.ol 0)) [(0, (.tr 30 3 xs))] ∧ ((.agg [(.d (.int .i64 a)), (.d (.int .i64 a1)), (.ol 0)]) = r ∧ [(0, (.tr 30 3 xs))] = O)))) : XC Tryz.prog 133 [(.dat [(.int .i64 a), (.int .i64 a1), (.sl a2)])] [] r O :=
  b0q (E := env) (hs := a4dq) (c := (a1q Tryz.f133)) (n := 15) (res := [.cell 2 30]) (rs := .s [.k (.i .i64), .k (.i .i64), .o 30 3]) (ks := []) (dir := []) envOk a4q rfl Tryz.func133 (by kernel_rfl) (by kernel_rfl) (by kernel_rfl) (by kernel_rfl) (a5q (by kernel_rfl) h)
def w7q : a9q := ⟨[(8, ⟨[2, 3, 5], [], [], [], [], [], []⟩)], []⟩
def n9q (r : AV) (O : List (Nat × Ob)) (s5 : Int) (s2 : Int) (s21 : Int) (s22 : List (List Da)) (s3 : Int) (s31 : Int) (s32 : List (List Da)) : Prop := CL 70 Tryz.prog (d6q (a1q Tryz.f154) [1, 1, 1, 1, 0, 1, 0, 0]) (b5q Tryz.prog env w7q 70 (a1q Tryz.f154) [1, 1, 1, 1, 0, 1, 0, 0] (a6q env [.tmp 4] (.c .b) [] [] r O) (b4q (a6q env [.tmp 4] (.c .b) [] [] r O))).1 (b5q Tryz.prog env w7q 70 (a1q Tryz.f154) [1, 1, 1, 1, 0, 1, 0, 0] (a6q env [.tmp 4] (.c .b) [] [] r O) (b4q (a6q env [.tmp 4] (.c .b) [] [] r O))).2 ⟨[(2, (.one (.op 1900 0))), (3, (.one (.op 1901 0))), (5, (Z s5))], [(1900, (.var [(.d (.int .i64 s2)), (.d (.int .i64 s21)), (.d (.sl s22))])), (1901, (.var [(.d (.int .i64 s3)), (.d (.int .i64 s31)), (.d (.sl s32))]))]⟩
theorem F0q {r : AV} {O : List (Nat × Ob)} {s5 : Int} {s2 : Int} {s21 : Int} {s22 : List (List Da)} {s3 : Int} {s31 : Int} {s32 : List (List Da)} (h : ifB (decide (s5 < (↑(List.length s22) : Int)))
  ((∃ (m : Nat), (s5 = ((↑m : Int)) ∧ (∃ (n : Int), (∃ (n1 : Int), (∃ (xs : List (List Da)), ((s22[m]?) = some [(.int .i64 n), (.int .i64 n1), (.sl xs)] ∧ (∃ (m1 : Nat), (s5 = ((↑m1 : Int)) ∧ (∃ (n2 : Int), (∃ (n3 : Int), (∃ (xs1 : List (List Da)), ((s32[m1]?) = some [(.int .i64 n2), (.int .i64 n3), (.sl xs1)] ∧ (∃ (b : Bool), (XC Tryz.prog 78 [(.dat [(.int .i64 n), (.int .i64 n1), (.sl xs)]), (.dat [(.int .i64 n2), (.int .i64 n3), (.sl xs1)])] [] (B b) [] ∧ ifB (!b)
  ((∃ (m2 : Nat), (s5 = ((↑m2 : Int)) ∧ (∃ (n4 : Int), (∃ (n5 : Int), (∃ (xs2 : List (List Da)), ((s22[m2]?) = some [(.int .i64 n4), (.int .i64 n5), (.sl xs2)] ∧ (∃ (m3 : Nat), (s5 = ((↑m3 : Int)) ∧ (∃ (n6 : Int), (∃ (n7 : Int), (∃ (xs3 : List (List Da)), ((s32[m3]?) = some [(.int .i64 n6), (.int .i64 n7), (.sl xs3)] ∧ (∃ (b1 : Bool), (XC Tryz.prog 154 [(.dat [(.int .i64 n4), (.int .i64 n5), (.sl xs2)]), (.dat [(.int .i64 n6), (.int .i64 n7), (.sl xs3)])] [] (B b1) [] ∧ ((B b1) = r ∧ [] = O))))))))))))))))
  (n9q r O (IntKind.wrap IntKind.i64 (s5 + (1 : Int))) s2 s21 s22 s3 s31 s32))))))))))))))))
  (((B (false)) = r ∧ [] = O))) : n9q r O s5 s2 s21 s22 s3 s31 s32 := by
  unfold n9q
  refine c5q (E := env) (hs := w7q) envOk a4q ?_
  exact a5q (by kernel_rfl) h
theorem a2sq {p : Int} {p1 : Int} {p2 : List (List Da)} {p3 : Int} {p4 : Int} {p5 : List (List Da)} {r : AV} {O : List (Nat × Ob)} (h : ifB (decide (p ≠ p3))
  (((B (decide (p < p3))) = r ∧ [] = O))
  (ifB (decide (p1 ≠ p4))
  (((B (decide (p1 < p4))) = r ∧ [] = O))
  (ifB (decide ((↑(List.length p2) : Int) ≠ (↑(List.length p5) : Int)))
  (((B (decide ((↑(List.length p2) : Int) < (↑(List.length p5) : Int)))) = r ∧ [] = O))
  (n9q r O ((0 : Int)) p p1 p2 p3 p4 p5)))) : XC Tryz.prog 154 [(.dat [(.int .i64 p), (.int .i64 p1), (.sl p2)]), (.dat [(.int .i64 p3), (.int .i64 p4), (.sl p5)])] [] r O :=
  b0q (E := env) (hs := w7q) (c := (a1q Tryz.f154)) (n := 70) (res := [.tmp 4]) (rs := .c .b) (ks := []) (dir := []) envOk a4q rfl Tryz.func154 (by kernel_rfl) (by kernel_rfl) (by kernel_rfl) (by kernel_rfl) (a5q (by kernel_rfl) h)
def r9q : a9q := ⟨[(4, ⟨[2, 3, 5], [], [], [], [], [], []⟩)], []⟩
def l4q (r : AV) (O : List (Nat × Ob)) (i : Int) (a : Int) (a1 : Int) (a2 : List (List Da)) (b : Int) (b1 : Int) (b2 : List (List Da)) : Prop := CL 46 Tryz.prog (d6q (a1q Tryz.f78) [1, 1, 0, 1, 0, 0]) (b5q Tryz.prog env r9q 46 (a1q Tryz.f78) [1, 1, 0, 1, 0, 0] (a6q env [.tmp 4] (.c .b) [] [] r O) (b4q (a6q env [.tmp 4] (.c .b) [] [] r O))).1 (b5q Tryz.prog env r9q 46 (a1q Tryz.f78) [1, 1, 0, 1, 0, 0] (a6q env [.tmp 4] (.c .b) [] [] r O) (b4q (a6q env [.tmp 4] (.c .b) [] [] r O))).2 ⟨[(2, (.one (.op 1900 0))), (3, (.one (.op 1901 0))), (5, (Z i))], [(1900, (.var [(.d (.int .i64 a)), (.d (.int .i64 a1)), (.d (.sl a2))])), (1901, (.var [(.d (.int .i64 b)), (.d (.int .i64 b1)), (.d (.sl b2))]))]⟩
theorem A6q {r : AV} {O : List (Nat × Ob)} {i : Int} {a : Int} {a1 : Int} {a2 : List (List Da)} {b : Int} {b1 : Int} {b2 : List (List Da)} (h : ifB (decide (i < (↑(List.length a2) : Int)))
  ((∃ (m : Nat), (i = ((↑m : Int)) ∧ (∃ (n : Int), (∃ (n1 : Int), (∃ (xs : List (List Da)), ((a2[m]?) = some [(.int .i64 n), (.int .i64 n1), (.sl xs)] ∧ (∃ (m1 : Nat), (i = ((↑m1 : Int)) ∧ (∃ (n2 : Int), (∃ (n3 : Int), (∃ (xs1 : List (List Da)), ((b2[m1]?) = some [(.int .i64 n2), (.int .i64 n3), (.sl xs1)] ∧ (∃ (b4 : Bool), (XC Tryz.prog 78 [(.dat [(.int .i64 n), (.int .i64 n1), (.sl xs)]), (.dat [(.int .i64 n2), (.int .i64 n3), (.sl xs1)])] [] (B b4) [] ∧ ifB (!b4)
  (((B (false)) = r ∧ [] = O))
  (l4q r O (IntKind.wrap IntKind.i64 (i + (1 : Int))) a a1 a2 b b1 b2))))))))))))))))
  (((B (true)) = r ∧ [] = O))) : l4q r O i a a1 a2 b b1 b2 := by
  unfold l4q
  refine c5q (E := env) (hs := r9q) envOk a4q ?_
  exact a5q (by kernel_rfl) h
theorem a0Fq {a : Int} {a1 : Int} {a2 : List (List Da)} {b : Int} {b1 : Int} {b2 : List (List Da)} {r : AV} {O : List (Nat × Ob)} (h : ifB (decide (a ≠ b))
  (((B (false)) = r ∧ [] = O))
  (ifB (decide (a1 ≠ b1))
  (((B (false)) = r ∧ [] = O))
  (ifB (decide ((↑(List.length a2) : Int) ≠ (↑(List.length b2) : Int)))
  (((B (false)) = r ∧ [] = O))
  (l4q r O ((0 : Int)) a a1 a2 b b1 b2)))) : XC Tryz.prog 78 [(.dat [(.int .i64 a), (.int .i64 a1), (.sl a2)]), (.dat [(.int .i64 b), (.int .i64 b1), (.sl b2)])] [] r O :=
  b0q (E := env) (hs := r9q) (c := (a1q Tryz.f78)) (n := 46) (res := [.tmp 4]) (rs := .c .b) (ks := []) (dir := []) envOk a4q rfl Tryz.func78 (by kernel_rfl) (by kernel_rfl) (by kernel_rfl) (by kernel_rfl) (a5q (by kernel_rfl) h)
def w3q : a9q := ⟨[(5, ⟨[0, 3, 5, 6], [], [], [], [], [], []⟩)], []⟩
def j1q (r : AV) (O : List (Nat × Ob)) (s : List (List Da)) (n : Int) (i : Int) (t : Int) (t1 : Int) (t2 : List (List Da)) : Prop := CL 38 Tryz.prog (d6q (a1q Tryz.f164) [1, 1, 1, 0, 1, 0, 0]) (b5q Tryz.prog env w3q 38 (a1q Tryz.f164) [1, 1, 1, 0, 1, 0, 0] (a6q env [.tmp 4] (.c (.i .i64)) [] [] r O) (b4q (a6q env [.tmp 4] (.c (.i .i64)) [] [] r O))).1 (b5q Tryz.prog env w3q 38 (a1q Tryz.f164) [1, 1, 1, 0, 1, 0, 0] (a6q env [.tmp 4] (.c (.i .i64)) [] [] r O) (b4q (a6q env [.tmp 4] (.c (.i .i64)) [] [] r O))).2 ⟨[(0, (L s)), (3, (.one (.op 1900 0))), (5, (Z n)), (6, (Z i))], [(1900, (.var [(.d (.int .i64 t)), (.d (.int .i64 t1)), (.d (.sl t2))]))]⟩
theorem E9q {r : AV} {O : List (Nat × Ob)} {s : List (List Da)} {n : Int} {i : Int} {t : Int} {t1 : Int} {t2 : List (List Da)} (h : ifB (decide (i < (↑(List.length t2) : Int)))
  ((∃ (m : Nat), (i = ((↑m : Int)) ∧ (∃ (n1 : Int), (∃ (n2 : Int), (∃ (xs : List (List Da)), ((t2[m]?) = some [(.int .i64 n1), (.int .i64 n2), (.sl xs)] ∧ (∃ (n3 : Int), (XC Tryz.prog 164 [(L s), (.dat [(.int .i64 n1), (.int .i64 n2), (.sl xs)])] [] (Z n3) [] ∧ j1q r O s (IntKind.wrap IntKind.i64 (n + n3)) (IntKind.wrap IntKind.i64 (i + (1 : Int))) t t1 t2)))))))))
  (((Z n) = r ∧ [] = O))) : j1q r O s n i t t1 t2 := by
  unfold j1q
  refine c5q (E := env) (hs := w3q) envOk a4q ?_
  exact a5q (by kernel_rfl) h
theorem a2Mq {s : List (List Da)} {t : Int} {t1 : Int} {t2 : List (List Da)} {r : AV} {O : List (Nat × Ob)} (h : (∃ (b : Bool), (XC Tryz.prog 151 [(L s), (Z t)] [] (B b) [] ∧ ifB b
  (ifB (decide ((0 : Int) < (↑(List.length t2) : Int)))
  (j1q r O s (IntKind.wrap IntKind.i64 ((↑(List.length t2) : Int) - (1 : Int))) ((0 : Int)) t t1 t2)
  (j1q r O s ((1 : Int)) ((0 : Int)) t t1 t2))
  (j1q r O s ((1 : Int)) ((0 : Int)) t t1 t2)))) : XC Tryz.prog 164 [(L s), (.dat [(.int .i64 t), (.int .i64 t1), (.sl t2)])] [] r O :=
  b0q (E := env) (hs := w3q) (c := (a1q Tryz.f164)) (n := 38) (res := [.tmp 4]) (rs := .c (.i .i64)) (ks := []) (dir := []) envOk a4q rfl Tryz.func164 (by kernel_rfl) (by kernel_rfl) (by kernel_rfl) (by kernel_rfl) (a5q (by kernel_rfl) h)
def a4eq : a9q := ⟨[], []⟩
theorem a2pq {t : Int} {t1 : Int} {t2 : List (List Da)} {r : AV} {O : List (Nat × Ob)} (h : (∃ (xs : List (List Da)), (XC Tryz.prog 112 [(.dat [(.int .i64 t), (.int .i64 t1), (.sl t2)])] [] (L xs) [] ∧ ((B (decide ((↑(List.length xs) : Int) = (0 : Int)))) = r ∧ [] = O)))) : XC Tryz.prog 165 [(.dat [(.int .i64 t), (.int .i64 t1), (.sl t2)])] [] r O :=
  b0q (E := env) (hs := a4eq) (c := (a1q Tryz.f165)) (n := 7) (res := [.tmp 2]) (rs := .c .b) (ks := []) (dir := []) envOk a4q rfl Tryz.func165 (by kernel_rfl) (by kernel_rfl) (by kernel_rfl) (by kernel_rfl) (a5q (by kernel_rfl) h)
def y5q : a9q := ⟨[(2, ⟨[0, 3], [], [], [], [], [], []⟩)], []⟩
def k2q (r : AV) (O : List (Nat × Ob)) (s : List (List Da)) (i : Int) : Prop := CL 62 Tryz.prog (d6q (a1q Tryz.f166) [1, 0, 1, 0, 0]) (b5q Tryz.prog env y5q 62 (a1q Tryz.f166) [1, 0, 1, 0, 0] (a6q env [.tmp 2] (.c .b) [] [] r O) (b4q (a6q env [.tmp 2] (.c .b) [] [] r O))).1 (b5q Tryz.prog env y5q 62 (a1q Tryz.f166) [1, 0, 1, 0, 0] (a6q env [.tmp 2] (.c .b) [] [] r O) (b4q (a6q env [.tmp 2] (.c .b) [] [] r O))).2 ⟨[(0, (L s)), (3, (Z i))], []⟩
theorem I1q {r : AV} {O : List (Nat × Ob)} {s : List (List Da)} {i : Int} (h : ifB (decide (i < (↑(List.length s) : Int)))
  ((∃ (m : Nat), (i = ((↑m : Int)) ∧ (∃ (q : ByteArray), (∃ (n : Int), (∃ (b : Bool), ((s[m]?) = some [(.str q), (.int .i64 n), (.bool b)] ∧ (∃ (b1 : Bool), (XC Tryz.prog 211 [(T q)] [] (B b1) [] ∧ ifB (!b1)
  (((B (false)) = r ∧ [] = O))
  ((∃ (m1 : Nat), (i = ((↑m1 : Int)) ∧ (∃ (q1 : ByteArray), (∃ (n1 : Int), (∃ (b2 : Bool), ((s[m1]?) = some [(.str q1), (.int .i64 n1), (.bool b2)] ∧ (∃ (n2 : Int), (XC Tryz.prog 212 [(L s), (T q1)] [] (Z n2) [] ∧ ifB (decide (n2 ≠ i))
  (((B (false)) = r ∧ [] = O))
  ((∃ (m2 : Nat), (i = ((↑m2 : Int)) ∧ (∃ (q2 : ByteArray), (∃ (n3 : Int), (∃ (b3 : Bool), ((s[m2]?) = some [(.str q2), (.int .i64 n3), (.bool b3)] ∧ (∃ (b4 : Bool), (XC Tryz.prog 64 [(Z n3), (Z ((0 : Int))), (Z ((3 : Int)))] [] (B b4) [] ∧ ifB (!b4)
  (((B (false)) = r ∧ [] = O))
  ((∃ (m3 : Nat), (i = ((↑m3 : Int)) ∧ (∃ (q3 : ByteArray), (∃ (n4 : Int), (∃ (b5 : Bool), ((s[m3]?) = some [(.str q3), (.int .i64 n4), (.bool b5)] ∧ ifB b5
  ((∃ (m4 : Nat), (i = ((↑m4 : Int)) ∧ (∃ (q4 : ByteArray), (∃ (n5 : Int), (∃ (b6 : Bool), ((s[m4]?) = some [(.str q4), (.int .i64 n5), (.bool b6)] ∧ ifB (decide (n5 ≠ (2 : Int)))
  (((B (false)) = r ∧ [] = O))
  (k2q r O s (IntKind.wrap IntKind.i64 (i + (1 : Int)))))))))))
  (k2q r O s (IntKind.wrap IntKind.i64 (i + (1 : Int))))))))))))))))))))))))))))))))))))))
  ((∃ (b7 : Bool), (XC Tryz.prog 64 [(Z ((↑(List.length s) : Int))), (Z ((1 : Int))), (Z ((8 : Int)))] [] (B b7) [] ∧ ifB b7
  ((∃ (m5 : Nat), (((0 : Int)) = ((↑m5 : Int)) ∧ (∃ (q5 : ByteArray), (∃ (n6 : Int), (∃ (b8 : Bool), ((s[m5]?) = some [(.str q5), (.int .i64 n6), (.bool b8)] ∧ ((B (decide (q5 = { data := #[(116 : UInt8), (116 : UInt8)] }) && (decide (n6 = (0 : Int)) && decide (b8 = false)))) = r ∧ [] = O))))))))
  (((B (false)) = r ∧ [] = O)))))) : k2q r O s i := by
  unfold k2q
  refine c5q (E := env) (hs := y5q) envOk a4q ?_
  exact a5q (by kernel_rfl) h
theorem a4gq {s : List (List Da)} {r : AV} {O : List (Nat × Ob)} (h : k2q r O s ((0 : Int))) : XC Tryz.prog 166 [(L s)] [] r O :=
  b0q (E := env) (hs := y5q) (c := (a1q Tryz.f166)) (n := 62) (res := [.tmp 2]) (rs := .c .b) (ks := []) (dir := []) envOk a4q rfl Tryz.func166 (by kernel_rfl) (by kernel_rfl) (by kernel_rfl) (by kernel_rfl) (a5q (by kernel_rfl) h)
def A3q : a9q := ⟨[(3, ⟨[1, 3, 4], [], [], [], [], [], []⟩)], []⟩
def q3q (r : AV) (O : List (Nat × Ob)) (n : Int) (i : Int) (t : Int) (t1 : Int) (t2 : List (List Da)) : Prop := CL 21 Tryz.prog (d6q (a1q Tryz.f167) [1, 1, 0, 1, 0, 0]) (b5q Tryz.prog env A3q 21 (a1q Tryz.f167) [1, 1, 0, 1, 0, 0] (a6q env [.tmp 2] (.c (.i .i64)) [] [] r O) (b4q (a6q env [.tmp 2] (.c (.i .i64)) [] [] r O))).1 (b5q Tryz.prog env A3q 21 (a1q Tryz.f167) [1, 1, 0, 1, 0, 0] (a6q env [.tmp 2] (.c (.i .i64)) [] [] r O) (b4q (a6q env [.tmp 2] (.c (.i .i64)) [] [] r O))).2 ⟨[(1, (.one (.op 1900 0))), (3, (Z n)), (4, (Z i))], [(1900, (.var [(.d (.int .i64 t)), (.d (.int .i64 t1)), (.d (.sl t2))]))]⟩
theorem I4q {r : AV} {O : List (Nat × Ob)} {n : Int} {i : Int} {t : Int} {t1 : Int} {t2 : List (List Da)} (h : ifB (decide (i < (↑(List.length t2) : Int)))
  ((∃ (m : Nat), (i = ((↑m : Int)) ∧ (∃ (n1 : Int), (∃ (n2 : Int), (∃ (xs : List (List Da)), ((t2[m]?) = some [(.int .i64 n1), (.int .i64 n2), (.sl xs)] ∧ (∃ (n3 : Int), (XC Tryz.prog 167 [(.dat [(.int .i64 n1), (.int .i64 n2), (.sl xs)])] [] (Z n3) [] ∧ q3q r O (IntKind.wrap IntKind.i64 (n + n3)) (IntKind.wrap IntKind.i64 (i + (1 : Int))) t t1 t2)))))))))
  (((Z n) = r ∧ [] = O))) : q3q r O n i t t1 t2 := by
  unfold q3q
  refine c5q (E := env) (hs := A3q) envOk a4q ?_
  exact a5q (by kernel_rfl) h
theorem a4jq {t : Int} {t1 : Int} {t2 : List (List Da)} {r : AV} {O : List (Nat × Ob)} (h : q3q r O ((1 : Int)) ((0 : Int)) t t1 t2) : XC Tryz.prog 167 [(.dat [(.int .i64 t), (.int .i64 t1), (.sl t2)])] [] r O :=
  b0q (E := env) (hs := A3q) (c := (a1q Tryz.f167)) (n := 21) (res := [.tmp 2]) (rs := .c (.i .i64)) (ks := []) (dir := []) envOk a4q rfl Tryz.func167 (by kernel_rfl) (by kernel_rfl) (by kernel_rfl) (by kernel_rfl) (a5q (by kernel_rfl) h)
def u4q : a9q := ⟨[(6, ⟨[0, 3, 5], [], [], [], [], [], []⟩)], []⟩
def d8q (r : AV) (O : List (Nat × Ob)) (s0 : List (List Da)) (s5 : Int) (s3 : Int) (s31 : Int) (s32 : List (List Da)) : Prop := CL 117 Tryz.prog (d6q (a1q Tryz.f168) [1, 1, 1, 0, 1, 0, 0]) (b5q Tryz.prog env u4q 117 (a1q Tryz.f168) [1, 1, 1, 0, 1, 0, 0] (a6q env [.tmp 4] (.c .b) [] [] r O) (b4q (a6q env [.tmp 4] (.c .b) [] [] r O))).1 (b5q Tryz.prog env u4q 117 (a1q Tryz.f168) [1, 1, 1, 0, 1, 0, 0] (a6q env [.tmp 4] (.c .b) [] [] r O) (b4q (a6q env [.tmp 4] (.c .b) [] [] r O))).2 ⟨[(0, (L s0)), (3, (.one (.op 1900 0))), (5, (Z s5))], [(1900, (.var [(.d (.int .i64 s3)), (.d (.int .i64 s31)), (.d (.sl s32))]))]⟩
theorem C8q {r : AV} {O : List (Nat × Ob)} {s0 : List (List Da)} {s5 : Int} {s3 : Int} {s31 : Int} {s32 : List (List Da)} (h : ifB (decide (s5 < (↑(List.length s32) : Int)))
  ((∃ (m : Nat), (s3 = ((↑m : Int)) ∧ (∃ (q : ByteArray), (∃ (n : Int), (∃ (b : Bool), ((s0[m]?) = some [(.str q), (.int .i64 n), (.bool b)] ∧ ifB b
  ((∃ (m1 : Nat), (s5 = ((↑m1 : Int)) ∧ (∃ (n1 : Int), (∃ (n2 : Int), (∃ (xs : List (List Da)), ((s32[m1]?) = some [(.int .i64 n1), (.int .i64 n2), (.sl xs)] ∧ ifB (decide (n1 = s3))
  (((B (false)) = r ∧ [] = O))
  (ifB (decide ((0 : Int) < s5))
  ((∃ (m2 : Nat), (s5 = ((↑m2 : Int)) ∧ (∃ (n3 : Int), (∃ (n4 : Int), (∃ (xs1 : List (List Da)), ((s32[m2]?) = some [(.int .i64 n3), (.int .i64 n4), (.sl xs1)] ∧ (∃ (m3 : Nat), ((IntKind.wrap IntKind.i64 (s5 - (1 : Int))) = ((↑m3 : Int)) ∧ (∃ (n5 : Int), (∃ (n6 : Int), (∃ (xs2 : List (List Da)), ((s32[m3]?) = some [(.int .i64 n5), (.int .i64 n6), (.sl xs2)] ∧ (∃ (b1 : Bool), (XC Tryz.prog 154 [(.dat [(.int .i64 n3), (.int .i64 n4), (.sl xs1)]), (.dat [(.int .i64 n5), (.int .i64 n6), (.sl xs2)])] [] (B b1) [] ∧ ifB b1
  (((B (false)) = r ∧ [] = O))
  ((∃ (m4 : Nat), (s5 = ((↑m4 : Int)) ∧ (∃ (n7 : Int), (∃ (n8 : Int), (∃ (xs3 : List (List Da)), ((s32[m4]?) = some [(.int .i64 n7), (.int .i64 n8), (.sl xs3)] ∧ (∃ (b2 : Bool), (XC Tryz.prog 168 [(L s0), (.dat [(.int .i64 n7), (.int .i64 n8), (.sl xs3)])] [] (B b2) [] ∧ ifB (!b2)
  (((B (false)) = r ∧ [] = O))
  (d8q r O s0 (IntKind.wrap IntKind.i64 (s5 + (1 : Int))) s3 s31 s32)))))))))))))))))))))))))
  ((∃ (m5 : Nat), (s5 = ((↑m5 : Int)) ∧ (∃ (n9 : Int), (∃ (n10 : Int), (∃ (xs4 : List (List Da)), ((s32[m5]?) = some [(.int .i64 n9), (.int .i64 n10), (.sl xs4)] ∧ (∃ (b3 : Bool), (XC Tryz.prog 168 [(L s0), (.dat [(.int .i64 n9), (.int .i64 n10), (.sl xs4)])] [] (B b3) [] ∧ ifB (!b3)
  (((B (false)) = r ∧ [] = O))
  (d8q r O s0 (IntKind.wrap IntKind.i64 (s5 + (1 : Int))) s3 s31 s32))))))))))))))))))
  ((∃ (m6 : Nat), (s5 = ((↑m6 : Int)) ∧ (∃ (n11 : Int), (∃ (n12 : Int), (∃ (xs5 : List (List Da)), ((s32[m6]?) = some [(.int .i64 n11), (.int .i64 n12), (.sl xs5)] ∧ (∃ (b4 : Bool), (XC Tryz.prog 168 [(L s0), (.dat [(.int .i64 n11), (.int .i64 n12), (.sl xs5)])] [] (B b4) [] ∧ ifB (!b4)
  (((B (false)) = r ∧ [] = O))
  (d8q r O s0 (IntKind.wrap IntKind.i64 (s5 + (1 : Int))) s3 s31 s32)))))))))))))))))
  (((B (true)) = r ∧ [] = O))) : d8q r O s0 s5 s3 s31 s32 := by
  unfold d8q
  refine c5q (E := env) (hs := u4q) envOk a4q ?_
  exact a5q (by kernel_rfl) h
theorem a1oq {p : List (List Da)} {p1 : Int} {p2 : Int} {p3 : List (List Da)} {r : AV} {O : List (Nat × Ob)} (h : ifB (decide (p1 = (-1 : Int)))
  ((∃ (b : Bool), (XC Tryz.prog 64 [(Z p2), (Z ((0 : Int))), (Z ((99 : Int)))] [] (B b) [] ∧ ifB b
  (((B (decide ((↑(List.length p3) : Int) = (0 : Int)))) = r ∧ [] = O))
  (((B (false)) = r ∧ [] = O)))))
  ((∃ (b1 : Bool), (XC Tryz.prog 64 [(Z p1), (Z ((0 : Int))), (Z (IntKind.wrap IntKind.i64 ((↑(List.length p) : Int) - (1 : Int))))] [] (B b1) [] ∧ ifB (!b1)
  (((B (false)) = r ∧ [] = O))
  (ifB (decide (p2 ≠ (0 : Int)))
  (((B (false)) = r ∧ [] = O))
  ((∃ (m : Nat), (p1 = ((↑m : Int)) ∧ (∃ (q : ByteArray), (∃ (n : Int), (∃ (b2 : Bool), ((p[m]?) = some [(.str q), (.int .i64 n), (.bool b2)] ∧ ifB (!b2)
  ((∃ (m1 : Nat), (p1 = ((↑m1 : Int)) ∧ (∃ (q1 : ByteArray), (∃ (n1 : Int), (∃ (b3 : Bool), ((p[m1]?) = some [(.str q1), (.int .i64 n1), (.bool b3)] ∧ ifB (decide ((↑(List.length p3) : Int) ≠ n1))
  (((B (false)) = r ∧ [] = O))
  ((∃ (m2 : Nat), (p1 = ((↑m2 : Int)) ∧ (∃ (q2 : ByteArray), (∃ (n2 : Int), (∃ (b4 : Bool), ((p[m2]?) = some [(.str q2), (.int .i64 n2), (.bool b4)] ∧ ifB b4
  (ifB (decide ((↑(List.length p3) : Int) < (2 : Int)))
  (((B (false)) = r ∧ [] = O))
  (d8q r O p ((0 : Int)) p1 p2 p3))
  (d8q r O p ((0 : Int)) p1 p2 p3)))))))))))))))
  ((∃ (m3 : Nat), (p1 = ((↑m3 : Int)) ∧ (∃ (q3 : ByteArray), (∃ (n3 : Int), (∃ (b5 : Bool), ((p[m3]?) = some [(.str q3), (.int .i64 n3), (.bool b5)] ∧ ifB b5
  (ifB (decide ((↑(List.length p3) : Int) < (2 : Int)))
  (((B (false)) = r ∧ [] = O))
  (d8q r O p ((0 : Int)) p1 p2 p3))
  (d8q r O p ((0 : Int)) p1 p2 p3)))))))))))))))))))) : XC Tryz.prog 168 [(L p), (.dat [(.int .i64 p1), (.int .i64 p2), (.sl p3)])] [] r O :=
  b0q (E := env) (hs := u4q) (c := (a1q Tryz.f168)) (n := 117) (res := [.tmp 4]) (rs := .c .b) (ks := []) (dir := []) envOk a4q rfl Tryz.func168 (by kernel_rfl) (by kernel_rfl) (by kernel_rfl) (by kernel_rfl) (a5q (by kernel_rfl) h)
def v3q : a9q := ⟨[(4, ⟨[1, 2, 5], [], [], [], [], [], []⟩)], []⟩
def k8q (r : AV) (O : List (Nat × Ob)) (out : List (List Da)) (i : Int) (t : Int) (t1 : Int) (t2 : List (List Da)) : Prop := CL 28 Tryz.prog (d6q (a1q Tryz.f169) [1, 1, 0, 1, 0, 0]) (b5q Tryz.prog env v3q 28 (a1q Tryz.f169) [1, 1, 0, 1, 0, 0] (a6q env [.tmp 4] (.c .l) [] [] r O) (b4q (a6q env [.tmp 4] (.c .l) [] [] r O))).1 (b5q Tryz.prog env v3q 28 (a1q Tryz.f169) [1, 1, 0, 1, 0, 0] (a6q env [.tmp 4] (.c .l) [] [] r O) (b4q (a6q env [.tmp 4] (.c .l) [] [] r O))).2 ⟨[(1, (L out)), (2, (.one (.op 1900 0))), (5, (Z i))], [(1900, (.var [(.d (.int .i64 t)), (.d (.int .i64 t1)), (.d (.sl t2))]))]⟩
theorem E5q {r : AV} {O : List (Nat × Ob)} {out : List (List Da)} {i : Int} {t : Int} {t1 : Int} {t2 : List (List Da)} (h : ifB (decide (i < (↑(List.length t2) : Int)))
  ((∃ (m : Nat), (i = ((↑m : Int)) ∧ (∃ (n : Int), (∃ (n1 : Int), (∃ (xs : List (List Da)), ((t2[m]?) = some [(.int .i64 n), (.int .i64 n1), (.sl xs)] ∧ (∃ (xs1 : List (List Da)), (XC Tryz.prog 169 [(.dat [(.int .i64 n), (.int .i64 n1), (.sl xs)]), (L out)] [] (L xs1) [] ∧ k8q r O xs1 (IntKind.wrap IntKind.i64 (i + (1 : Int))) t t1 t2)))))))))
  (((L out) = r ∧ [] = O))) : k8q r O out i t t1 t2 := by
  unfold k8q
  refine c5q (E := env) (hs := v3q) envOk a4q ?_
  exact a5q (by kernel_rfl) h
theorem a2zq {t : Int} {t1 : Int} {t2 : List (List Da)} {out : List (List Da)} {r : AV} {O : List (Nat × Ob)} (h : ifB (decide (t = (-1 : Int)))
  ((∃ (xs : List (List Da)), (XC Tryz.prog 213 [(L out), (Z t1)] [] (L xs) [] ∧ k8q r O xs ((0 : Int)) t t1 t2)))
  (k8q r O out ((0 : Int)) t t1 t2)) : XC Tryz.prog 169 [(.dat [(.int .i64 t), (.int .i64 t1), (.sl t2)]), (L out)] [] r O :=
  b0q (E := env) (hs := v3q) (c := (a1q Tryz.f169)) (n := 28) (res := [.tmp 4]) (rs := .c .l) (ks := []) (dir := []) envOk a4q rfl Tryz.func169 (by kernel_rfl) (by kernel_rfl) (by kernel_rfl) (by kernel_rfl) (a5q (by kernel_rfl) h)
def a5gq : a9q := ⟨[], []⟩
theorem D8q {on : Bool} {r : AV} {O : List (Nat × Ob)} (h : ifB on
  (((Z ((1 : Int))) = r ∧ [] = O))
  (((Z ((0 : Int))) = r ∧ [] = O))) : XC Tryz.prog 170 [(B on)] [] r O :=
  b0q (E := env) (hs := a5gq) (c := (a1q Tryz.f170)) (n := 4) (res := [.tmp 2]) (rs := .c (.i .i64)) (ks := []) (dir := []) envOk a4q rfl Tryz.func170 (by kernel_rfl) (by kernel_rfl) (by kernel_rfl) (by kernel_rfl) (a5q (by kernel_rfl) h)
def a48q : a9q := ⟨[], []⟩
theorem a2eq {a : Int} {a1 : Int} {a2 : List (List Da)} {b : Int} {b1 : Int} {b2 : List (List Da)} {r : AV} {O : List (Nat × Ob)} (h : (∃ (n : Int), (XC Tryz.prog 143 [(.dat [(.int .i64 a), (.int .i64 a1), (.sl a2)]), (.dat [(.int .i64 b), (.int .i64 b1), (.sl b2)])] [] (Z n) [] ∧ ((B (decide (n < (0 : Int)))) = r ∧ [] = O)))) : XC Tryz.prog 171 [(.dat [(.int .i64 a), (.int .i64 a1), (.sl a2)]), (.dat [(.int .i64 b), (.int .i64 b1), (.sl b2)])] [] r O :=
  b0q (E := env) (hs := a48q) (c := (a1q Tryz.f171)) (n := 9) (res := [.tmp 4]) (rs := .c .b) (ks := []) (dir := []) envOk a4q rfl Tryz.func171 (by kernel_rfl) (by kernel_rfl) (by kernel_rfl) (by kernel_rfl) (a5q (by kernel_rfl) h)
def T3q : a9q := ⟨[], []⟩
theorem S9q {a : Bool} {a1 : Int} {a2 : Int} {a3 : List (List Da)} {a4 : Int} {a5 : Int} {a6 : List (List Da)} {b : Bool} {b1 : Int} {b2 : Int} {b3 : List (List Da)} {b4 : Int} {b5 : Int} {b6 : List (List Da)} {r : AV} {O : List (Nat × Ob)} (h : ifB (!a)
  (ifB b
  (((Z ((-1 : Int))) = r ∧ [] = O))
  (ifB a
  (ifB (!b)
  (((Z ((1 : Int))) = r ∧ [] = O))
  ((∃ (n : Int), (XC Tryz.prog 143 [(.dat [(.int .i64 a1), (.int .i64 a2), (.sl a3)]), (.dat [(.int .i64 b1), (.int .i64 b2), (.sl b3)])] [] (Z n) [] ∧ ifB (decide (n ≠ (0 : Int)))
  (((Z n) = r ∧ [] = O))
  ((∃ (n1 : Int), (XC Tryz.prog 143 [(.dat [(.int .i64 a4), (.int .i64 a5), (.sl a6)]), (.dat [(.int .i64 b4), (.int .i64 b5), (.sl b6)])] [] (Z n1) [] ∧ ((Z n1) = r ∧ [] = O))))))))
  ((∃ (n2 : Int), (XC Tryz.prog 143 [(.dat [(.int .i64 a1), (.int .i64 a2), (.sl a3)]), (.dat [(.int .i64 b1), (.int .i64 b2), (.sl b3)])] [] (Z n2) [] ∧ ifB (decide (n2 ≠ (0 : Int)))
  (((Z n2) = r ∧ [] = O))
  ((∃ (n3 : Int), (XC Tryz.prog 143 [(.dat [(.int .i64 a4), (.int .i64 a5), (.sl a6)]), (.dat [(.int .i64 b4), (.int .i64 b5), (.sl b6)])] [] (Z n3) [] ∧ ((Z n3) = r ∧ [] = O)))))))))
  (ifB a
  (ifB (!b)
  (((Z ((1 : Int))) = r ∧ [] = O))
  ((∃ (n4 : Int), (XC Tryz.prog 143 [(.dat [(.int .i64 a1), (.int .i64 a2), (.sl a3)]), (.dat [(.int .i64 b1), (.int .i64 b2), (.sl b3)])] [] (Z n4) [] ∧ ifB (decide (n4 ≠ (0 : Int)))
  (((Z n4) = r ∧ [] = O))
  ((∃ (n5 : Int), (XC Tryz.prog 143 [(.dat [(.int .i64 a4), (.int .i64 a5), (.sl a6)]), (.dat [(.int .i64 b4), (.int .i64 b5), (.sl b6)])] [] (Z n5) [] ∧ ((Z n5) = r ∧ [] = O))))))))
  ((∃ (n6 : Int), (XC Tryz.prog 143 [(.dat [(.int .i64 a1), (.int .i64 a2), (.sl a3)]), (.dat [(.int .i64 b1), (.int .i64 b2), (.sl b3)])] [] (Z n6) [] ∧ ifB (decide (n6 ≠ (0 : Int)))
  (((Z n6) = r ∧ [] = O))
  ((∃ (n7 : Int), (XC Tryz.prog 143 [(.dat [(.int .i64 a4), (.int .i64 a5), (.sl a6)]), (.dat [(.int .i64 b4), (.int .i64 b5), (.sl b6)])] [] (Z n7) [] ∧ ((Z n7) = r ∧ [] = O))))))))) : XC Tryz.prog 135 [(.dat [(.bool a), (.int .i64 a1), (.int .i64 a2), (.sl a3), (.int .i64 a4), (.int .i64 a5), (.sl a6)]), (.dat [(.bool b), (.int .i64 b1), (.int .i64 b2), (.sl b3), (.int .i64 b4), (.int .i64 b5), (.sl b6)])] [] r O :=
  b0q (E := env) (hs := T3q) (c := (a1q Tryz.f135)) (n := 35) (res := [.tmp 4]) (rs := .c (.i .i64)) (ks := []) (dir := []) envOk a4q rfl Tryz.func135 (by kernel_rfl) (by kernel_rfl) (by kernel_rfl) (by kernel_rfl) (a5q (by kernel_rfl) h)
def p5q : a9q := ⟨[(3, ⟨[3, 7, 8, 9], [], [], [], [], [], []⟩)], []⟩
def k4q (r : AV) (O : List (Nat × Ob)) (s7 : List (List Da)) (s8 : Int) (s9 : Int) (out : List (List Da)) : Prop := CL 20 Tryz.prog (d6q (a1q Tryz.f172) [1, 1, 0, 1, 0, 0]) (b5q Tryz.prog env p5q 20 (a1q Tryz.f172) [1, 1, 0, 1, 0, 0] (a6q env [.tmp 2] (.o 30 3) [] [] r O) (b4q (a6q env [.tmp 2] (.o 30 3) [] [] r O))).1 (b5q Tryz.prog env p5q 20 (a1q Tryz.f172) [1, 1, 0, 1, 0, 0] (a6q env [.tmp 2] (.o 30 3) [] [] r O) (b4q (a6q env [.tmp 2] (.o 30 3) [] [] r O))).2 ⟨[(3, (.one (.ol 1900))), (7, (L s7)), (8, (Z s8)), (9, (Z s9))], [(1900, (.tr 30 3 out))]⟩
theorem z3q {r : AV} {O : List (Nat × Ob)} {s7 : List (List Da)} {s8 : Int} {s9 : Int} {out : List (List Da)} (h : ifB (decide (s9 < s8))
  ((∃ (m : Nat), (s9 = ((↑m : Int)) ∧ (∃ (n : Int), (∃ (n1 : Int), (∃ (xs : List (List Da)), ((s7[m]?) = some [(.int .i64 n), (.int .i64 n1), (.sl xs)] ∧ (∃ (n2 : Int), (∃ (n3 : Int), (∃ (xs1 : List (List Da)), (XC Tryz.prog 117 [(.dat [(.int .i64 n), (.int .i64 n1), (.sl xs)])] [] (.agg [(.d (.int .i64 n2)), (.d (.int .i64 n3)), (.ol 0)]) [(0, (.tr 30 3 xs1))] ∧ (Do ((List.length out + List.length [[Da.int IntKind.i64 n2, Da.int IntKind.i64 n3, Da.sl xs1]]) * (40 : Nat) ≤ (140737488355328 : Nat)) ∧ k4q r O s7 s8 (IntKind.wrap IntKind.i64 (s9 + (1 : Int))) (out ++ [[Da.int IntKind.i64 n2, Da.int IntKind.i64 n3, Da.sl xs1]])))))))))))))
  (((.one (.ol 0)) = r ∧ [(0, (.tr 30 3 out))] = O))) : k4q r O s7 s8 s9 out := by
  unfold k4q
  refine c5q (E := env) (hs := p5q) envOk a4q ?_
  exact a5q (by kernel_rfl) h
theorem Z3q {list : List (List Da)} {r : AV} {O : List (Nat × Ob)} (h : k4q r O list ((↑(List.length list) : Int)) ((0 : Int)) []) : XC Tryz.prog 172 [(L list)] [] r O :=
  b0q (E := env) (hs := p5q) (c := (a1q Tryz.f172)) (n := 20) (res := [.tmp 2]) (rs := .o 30 3) (ks := []) (dir := []) envOk a4q rfl Tryz.func172 (by kernel_rfl) (by kernel_rfl) (by kernel_rfl) (by kernel_rfl) (a5q (by kernel_rfl) h)
def a5yq : a9q := ⟨[], []⟩
theorem a3Pq {t : Int} {t1 : Int} {t2 : List (List Da)} {v : Int} {r : AV} {O : List (Nat × Ob)} (h : (∃ (m : Int), (∃ (m1 : Int), (XC Tryz.prog 176 [(.dat [(.int .i64 t), (.int .i64 t1), (.sl t2)]), (.one (.clo 214 [(2000, 0), (2001, 0)]))] [(2000, (.var [(.d (.int .i64 v))])), (2001, (.var [(.d (.int .i64 ((0 : Int))))]))] (.tup []) [(2000, (.var [(.d (.int .i64 m))])), (2001, (.var [(.d (.int .i64 m1))]))] ∧ ((Z m1) = r ∧ [] = O))))) : XC Tryz.prog 173 [(.dat [(.int .i64 t), (.int .i64 t1), (.sl t2)]), (Z v)] [] r O :=
  b0q (E := env) (hs := a5yq) (c := (a1q Tryz.f173)) (n := 10) (res := [.tmp 4]) (rs := .c (.i .i64)) (ks := []) (dir := []) envOk a4q rfl Tryz.func173 (by kernel_rfl) (by kernel_rfl) (by kernel_rfl) (by kernel_rfl) (a5q (by kernel_rfl) h)
def x0q : a9q := ⟨[(5, ⟨[0, 5, 23, 24, 25], [], [], [], [], [], []⟩)], []⟩
def j4q (r : AV) (O : List (Nat × Ob)) (s : List (List Da)) (n : Int) (s23 : List (List Da)) (s24 : Int) (s25 : Int) : Prop := CL 36 Tryz.prog (d6q (a1q Tryz.f174) [1, 1, 1, 0, 1, 0, 0]) (b5q Tryz.prog env x0q 36 (a1q Tryz.f174) [1, 1, 1, 0, 1, 0, 0] (a6q env [.tmp 4] (.c (.i .i64)) [] [] r O) (b4q (a6q env [.tmp 4] (.c (.i .i64)) [] [] r O))).1 (b5q Tryz.prog env x0q 36 (a1q Tryz.f174) [1, 1, 1, 0, 1, 0, 0] (a6q env [.tmp 4] (.c (.i .i64)) [] [] r O) (b4q (a6q env [.tmp 4] (.c (.i .i64)) [] [] r O))).2 ⟨[(0, (L s)), (5, (Z n)), (23, (L s23)), (24, (Z s24)), (25, (Z s25))], []⟩
theorem E7q {r : AV} {O : List (Nat × Ob)} {s : List (List Da)} {n : Int} {s23 : List (List Da)} {s24 : Int} {s25 : Int} (h : ifB (decide (s25 < s24))
  ((∃ (m : Nat), (s25 = ((↑m : Int)) ∧ (∃ (n1 : Int), (∃ (n2 : Int), (∃ (xs : List (List Da)), ((s23[m]?) = some [(.int .i64 n1), (.int .i64 n2), (.sl xs)] ∧ (∃ (n3 : Int), (XC Tryz.prog 174 [(L s), (.dat [(.int .i64 n1), (.int .i64 n2), (.sl xs)])] [] (Z n3) [] ∧ j4q r O s (IntKind.wrap IntKind.i64 (n + n3)) s23 s24 (IntKind.wrap IntKind.i64 (s25 + (1 : Int))))))))))))
  (((Z n) = r ∧ [] = O))) : j4q r O s n s23 s24 s25 := by
  unfold j4q
  refine c5q (E := env) (hs := x0q) envOk a4q ?_
  exact a5q (by kernel_rfl) h
theorem a25q {s : List (List Da)} {t : Int} {t1 : Int} {t2 : List (List Da)} {r : AV} {O : List (Nat × Ob)} (h : (∃ (b : Bool), (XC Tryz.prog 98 [(L s), (Z t)] [] (B b) [] ∧ ifB b
  (ifB (decide ((0 : Int) < (↑(List.length t2) : Int)))
  (j4q r O s (IntKind.wrap IntKind.i64 ((↑(List.length t2) : Int) - (1 : Int))) t2 ((↑(List.length t2) : Int)) ((0 : Int)))
  (j4q r O s ((1 : Int)) t2 ((↑(List.length t2) : Int)) ((0 : Int))))
  (j4q r O s ((1 : Int)) t2 ((↑(List.length t2) : Int)) ((0 : Int)))))) : XC Tryz.prog 174 [(L s), (.dat [(.int .i64 t), (.int .i64 t1), (.sl t2)])] [] r O :=
  b0q (E := env) (hs := x0q) (c := (a1q Tryz.f174)) (n := 36) (res := [.tmp 4]) (rs := .c (.i .i64)) (ks := []) (dir := []) envOk a4q rfl Tryz.func174 (by kernel_rfl) (by kernel_rfl) (by kernel_rfl) (by kernel_rfl) (a5q (by kernel_rfl) h)
def a3Tq : a9q := ⟨[], []⟩
theorem a2kq {t : Int} {t1 : Int} {t2 : List (List Da)} {r : AV} {O : List (Nat × Ob)} (h : (∃ (xs : List (List Da)), (XC Tryz.prog 119 [(.dat [(.int .i64 t), (.int .i64 t1), (.sl t2)])] [] (.one (.ol 0)) [(0, (.tr 3 1 xs))] ∧ ((B (decide ((↑(List.length xs) : Int) = (0 : Int)))) = r ∧ [] = O)))) : XC Tryz.prog 175 [(.dat [(.int .i64 t), (.int .i64 t1), (.sl t2)])] [] r O :=
  b0q (E := env) (hs := a3Tq) (c := (a1q Tryz.f175)) (n := 7) (res := [.tmp 2]) (rs := .c .b) (ks := []) (dir := []) envOk a4q rfl Tryz.func175 (by kernel_rfl) (by kernel_rfl) (by kernel_rfl) (by kernel_rfl) (a5q (by kernel_rfl) h)
def h8q : a9q := ⟨[(3, ⟨[1, 10, 11, 12], [], [], [], [], [], []⟩)], []⟩
def f4q (r : AV) (O : List (Nat × Ob)) (s10 : List (List Da)) (s11 : Int) (s12 : Int) (o2000 : List (List Da)) : Prop := CL 20 Tryz.prog (d6q (a1q Tryz.f176) [1, 1, 1, 0, 0]) (b5q Tryz.prog env h8q 20 (a1q Tryz.f176) [1, 1, 1, 0, 0] (a6q env [] (.t []) [(2000, (true)), (2001, (false))] [2000] r O) (b4q (a6q env [] (.t []) [(2000, (true)), (2001, (false))] [2000] r O))).1 (b5q Tryz.prog env h8q 20 (a1q Tryz.f176) [1, 1, 1, 0, 0] (a6q env [] (.t []) [(2000, (true)), (2001, (false))] [2000] r O) (b4q (a6q env [] (.t []) [(2000, (true)), (2001, (false))] [2000] r O))).2 ⟨[(1, (.one (.clo 177 [(2000, 0)]))), (10, (L s10)), (11, (Z s11)), (12, (Z s12))], [(2000, (.var [(.ol 1900)])), (1900, (.tr 3 1 o2000))]⟩
theorem n3q {r : AV} {O : List (Nat × Ob)} {s10 : List (List Da)} {s11 : Int} {s12 : Int} {o2000 : List (List Da)} (h : ifB (decide (s12 < s11))
  ((∃ (m : Nat), (s12 = ((↑m : Int)) ∧ (∃ (n : Int), (∃ (n1 : Int), (∃ (xs : List (List Da)), ((s10[m]?) = some [(.int .i64 n), (.int .i64 n1), (.sl xs)] ∧ (∃ (xs1 : List (List Da)), (XC Tryz.prog 176 [(.dat [(.int .i64 n), (.int .i64 n1), (.sl xs)]), (.one (.clo 177 [(2000, 0)]))] [(2000, (.var [(.ol 2001)])), (2001, (.tr 3 1 o2000))] (.tup []) [(2000, (.var [(.ol 0)])), (0, (.tr 3 1 xs1))] ∧ f4q r O s10 s11 (IntKind.wrap IntKind.i64 (s12 + (1 : Int))) xs1)))))))))
  (((.tup []) = r ∧ [(2000, (.var [(.ol 0)])), (0, (.tr 3 1 o2000))] = O))) : f4q r O s10 s11 s12 o2000 := by
  unfold f4q
  refine c5q (E := env) (hs := h8q) envOk a4q ?_
  exact a5q (by kernel_rfl) h
theorem D4q {t : Int} {t1 : Int} {t2 : List (List Da)} {o2000 : List (List Da)} {r : AV} {O : List (Nat × Ob)} (h : (∃ (xs : List (List Da)), (XC Tryz.prog 177 [(.dat [(.int .i64 t), (.int .i64 t1), (.sl t2)]), (.one (.op 2000 0))] [(2000, (.var [(.ol 2001)])), (2001, (.tr 3 1 o2000))] (.tup []) [(2000, (.var [(.ol 0)])), (0, (.tr 3 1 xs))] ∧ f4q r O t2 ((↑(List.length t2) : Int)) ((0 : Int)) xs))) : XC Tryz.prog 176 [(.dat [(.int .i64 t), (.int .i64 t1), (.sl t2)]), (.one (.clo 177 [(2000, 0)]))] [(2000, (.var [(.ol 2001)])), (2001, (.tr 3 1 o2000))] r O :=
  b0q (E := env) (hs := h8q) (c := (a1q Tryz.f176)) (n := 20) (res := []) (rs := .t []) (ks := [(2000, (true)), (2001, (false))]) (dir := [2000]) envOk a4q rfl Tryz.func176 (by kernel_rfl) (by kernel_rfl) (by kernel_rfl) (by kernel_rfl) (a5q (by kernel_rfl) h)
def y8q : a9q := ⟨[(2, ⟨[0, 5, 6, 7], [], [], [], [], [], []⟩)], []⟩
def k1q (r : AV) (O : List (Nat × Ob)) (s : List (List Da)) (s5 : List (List Da)) (s6 : Int) (s7 : Int) : Prop := CL 57 Tryz.prog (d6q (a1q Tryz.f179) [1, 0, 1, 0, 0]) (b5q Tryz.prog env y8q 57 (a1q Tryz.f179) [1, 0, 1, 0, 0] (a6q env [.tmp 2] (.c .b) [] [] r O) (b4q (a6q env [.tmp 2] (.c .b) [] [] r O))).1 (b5q Tryz.prog env y8q 57 (a1q Tryz.f179) [1, 0, 1, 0, 0] (a6q env [.tmp 2] (.c .b) [] [] r O) (b4q (a6q env [.tmp 2] (.c .b) [] [] r O))).2 ⟨[(0, (L s)), (5, (L s5)), (6, (Z s6)), (7, (Z s7))], []⟩
theorem H4q {r : AV} {O : List (Nat × Ob)} {s : List (List Da)} {s5 : List (List Da)} {s6 : Int} {s7 : Int} (h : ifB (decide (s7 < s6))
  ((∃ (m : Nat), (s7 = ((↑m : Int)) ∧ (∃ (q : ByteArray), (∃ (n : Int), (∃ (b : Bool), ((s5[m]?) = some [(.str q), (.int .i64 n), (.bool b)] ∧ (∃ (b1 : Bool), (XC Tryz.prog 218 [(T q)] [] (B b1) [] ∧ ifB (!b1)
  (((B (false)) = r ∧ [] = O))
  ((∃ (n1 : Int), (XC Tryz.prog 219 [(L s), (T q)] [] (Z n1) [] ∧ ifB (decide (n1 ≠ s7))
  (((B (false)) = r ∧ [] = O))
  ((∃ (b2 : Bool), (XC Tryz.prog 134 [(Z n), (Z ((0 : Int))), (Z ((3 : Int)))] [] (B b2) [] ∧ ifB (!b2)
  (((B (false)) = r ∧ [] = O))
  (ifB b
  (ifB (decide (n ≠ (2 : Int)))
  (((B (false)) = r ∧ [] = O))
  (k1q r O s s5 s6 (IntKind.wrap IntKind.i64 (s7 + (1 : Int)))))
  (k1q r O s s5 s6 (IntKind.wrap IntKind.i64 (s7 + (1 : Int))))))))))))))))))))
  ((∃ (b3 : Bool), (XC Tryz.prog 134 [(Z ((↑(List.length s) : Int))), (Z ((1 : Int))), (Z ((8 : Int)))] [] (B b3) [] ∧ ifB b3
  ((∃ (m1 : Nat), (((0 : Int)) = ((↑m1 : Int)) ∧ (∃ (q1 : ByteArray), (∃ (n2 : Int), (∃ (b4 : Bool), ((s[m1]?) = some [(.str q1), (.int .i64 n2), (.bool b4)] ∧ ifB (decide (q1 = { data := #[(116 : UInt8), (116 : UInt8)] }))
  ((∃ (m2 : Nat), (((0 : Int)) = ((↑m2 : Int)) ∧ (∃ (q2 : ByteArray), (∃ (n3 : Int), (∃ (b5 : Bool), ((s[m2]?) = some [(.str q2), (.int .i64 n3), (.bool b5)] ∧ ((B (decide (n3 = (0 : Int)))) = r ∧ [] = O))))))))
  (((B (false)) = r ∧ [] = O)))))))))
  (((B (false)) = r ∧ [] = O)))))) : k1q r O s s5 s6 s7 := by
  unfold k1q
  refine c5q (E := env) (hs := y8q) envOk a4q ?_
  exact a5q (by kernel_rfl) h
theorem a4hq {s : List (List Da)} {r : AV} {O : List (Nat × Ob)} (h : k1q r O s s ((↑(List.length s) : Int)) ((0 : Int))) : XC Tryz.prog 179 [(L s)] [] r O :=
  b0q (E := env) (hs := y8q) (c := (a1q Tryz.f179)) (n := 57) (res := [.tmp 2]) (rs := .c .b) (ks := []) (dir := []) envOk a4q rfl Tryz.func179 (by kernel_rfl) (by kernel_rfl) (by kernel_rfl) (by kernel_rfl) (a5q (by kernel_rfl) h)
def a5wq : a9q := ⟨[], []⟩
theorem a3Sq {t : Int} {t1 : Int} {t2 : List (List Da)} {r : AV} {O : List (Nat × Ob)} (h : (∃ (m : Int), (XC Tryz.prog 176 [(.dat [(.int .i64 t), (.int .i64 t1), (.sl t2)]), (.one (.clo 220 [(2000, 0)]))] [(2000, (.var [(.d (.int .i64 ((0 : Int))))]))] (.tup []) [(2000, (.var [(.d (.int .i64 m))]))] ∧ ((Z m) = r ∧ [] = O)))) : XC Tryz.prog 180 [(.dat [(.int .i64 t), (.int .i64 t1), (.sl t2)])] [] r O :=
  b0q (E := env) (hs := a5wq) (c := (a1q Tryz.f180)) (n := 8) (res := [.tmp 2]) (rs := .c (.i .i64)) (ks := []) (dir := []) envOk a4q rfl Tryz.func180 (by kernel_rfl) (by kernel_rfl) (by kernel_rfl) (by kernel_rfl) (a5q (by kernel_rfl) h)
def v7q : a9q := ⟨[(6, ⟨[0, 3, 64, 65, 66], [], [], [], [], [], []⟩)], []⟩
def e3q (r : AV) (O : List (Nat × Ob)) (s0 : List (List Da)) (s64 : List (List Da)) (s65 : Int) (s66 : Int) (s3 : Int) (s31 : Int) (s32 : List (List Da)) : Prop := CL 105 Tryz.prog (d6q (a1q Tryz.f181) [1, 1, 1, 0, 1, 0, 0]) (b5q Tryz.prog env v7q 105 (a1q Tryz.f181) [1, 1, 1, 0, 1, 0, 0] (a6q env [.tmp 4] (.c .b) [] [] r O) (b4q (a6q env [.tmp 4] (.c .b) [] [] r O))).1 (b5q Tryz.prog env v7q 105 (a1q Tryz.f181) [1, 1, 1, 0, 1, 0, 0] (a6q env [.tmp 4] (.c .b) [] [] r O) (b4q (a6q env [.tmp 4] (.c .b) [] [] r O))).2 ⟨[(0, (L s0)), (3, (.one (.op 1900 0))), (64, (L s64)), (65, (Z s65)), (66, (Z s66))], [(1900, (.var [(.d (.int .i64 s3)), (.d (.int .i64 s31)), (.d (.sl s32))]))]⟩
theorem E0q {r : AV} {O : List (Nat × Ob)} {s0 : List (List Da)} {s64 : List (List Da)} {s65 : Int} {s66 : Int} {s3 : Int} {s31 : Int} {s32 : List (List Da)} (h : ifB (decide (s66 < s65))
  ((∃ (m : Nat), (s66 = ((↑m : Int)) ∧ (∃ (n : Int), (∃ (n1 : Int), (∃ (xs : List (List Da)), ((s64[m]?) = some [(.int .i64 n), (.int .i64 n1), (.sl xs)] ∧ (∃ (b : Bool), (XC Tryz.prog 181 [(L s0), (.dat [(.int .i64 n), (.int .i64 n1), (.sl xs)])] [] (B b) [] ∧ ifB (!b)
  (((B (false)) = r ∧ [] = O))
  ((∃ (m1 : Nat), (s3 = ((↑m1 : Int)) ∧ (∃ (q : ByteArray), (∃ (n2 : Int), (∃ (b1 : Bool), ((s0[m1]?) = some [(.str q), (.int .i64 n2), (.bool b1)] ∧ ifB b1
  (ifB (decide (n = s3))
  (((B (false)) = r ∧ [] = O))
  (ifB (decide ((0 : Int) < s66))
  ((∃ (m2 : Nat), ((IntKind.wrap IntKind.i64 (s66 - (1 : Int))) = ((↑m2 : Int)) ∧ (∃ (n3 : Int), (∃ (n4 : Int), (∃ (xs1 : List (List Da)), ((s32[m2]?) = some [(.int .i64 n3), (.int .i64 n4), (.sl xs1)] ∧ (∃ (b2 : Bool), (XC Tryz.prog 171 [(.dat [(.int .i64 n), (.int .i64 n1), (.sl xs)]), (.dat [(.int .i64 n3), (.int .i64 n4), (.sl xs1)])] [] (B b2) [] ∧ ifB b2
  (((B (false)) = r ∧ [] = O))
  (e3q r O s0 s64 s65 (IntKind.wrap IntKind.i64 (s66 + (1 : Int))) s3 s31 s32))))))))))
  (e3q r O s0 s64 s65 (IntKind.wrap IntKind.i64 (s66 + (1 : Int))) s3 s31 s32)))
  (e3q r O s0 s64 s65 (IntKind.wrap IntKind.i64 (s66 + (1 : Int))) s3 s31 s32)))))))))))))))))
  (((B (true)) = r ∧ [] = O))) : e3q r O s0 s64 s65 s66 s3 s31 s32 := by
  unfold e3q
  refine c5q (E := env) (hs := v7q) envOk a4q ?_
  exact a5q (by kernel_rfl) h
theorem a2Eq {p : List (List Da)} {p1 : Int} {p2 : Int} {p3 : List (List Da)} {r : AV} {O : List (Nat × Ob)} (h : (∃ (b : Bool), (XC Tryz.prog 100 [(.dat [(.int .i64 p1), (.int .i64 p2), (.sl p3)])] [] (B b) [] ∧ ifB b
  ((∃ (b1 : Bool), (XC Tryz.prog 134 [(Z p2), (Z ((0 : Int))), (Z ((99 : Int)))] [] (B b1) [] ∧ ifB b1
  (((B (decide ((↑(List.length p3) : Int) = (0 : Int)))) = r ∧ [] = O))
  (((B (false)) = r ∧ [] = O)))))
  ((∃ (b2 : Bool), (XC Tryz.prog 161 [(L p), (Z p1)] [] (B b2) [] ∧ ifB (!b2)
  (((B (false)) = r ∧ [] = O))
  (ifB (decide (p2 ≠ (0 : Int)))
  (((B (false)) = r ∧ [] = O))
  ((∃ (m : Nat), (p1 = ((↑m : Int)) ∧ (∃ (q : ByteArray), (∃ (n : Int), (∃ (b3 : Bool), ((p[m]?) = some [(.str q), (.int .i64 n), (.bool b3)] ∧ ifB (!b3)
  ((∃ (m1 : Nat), (p1 = ((↑m1 : Int)) ∧ (∃ (q1 : ByteArray), (∃ (n1 : Int), (∃ (b4 : Bool), ((p[m1]?) = some [(.str q1), (.int .i64 n1), (.bool b4)] ∧ ifB (decide ((↑(List.length p3) : Int) ≠ n1))
  (((B (false)) = r ∧ [] = O))
  ((∃ (m2 : Nat), (p1 = ((↑m2 : Int)) ∧ (∃ (q2 : ByteArray), (∃ (n2 : Int), (∃ (b5 : Bool), ((p[m2]?) = some [(.str q2), (.int .i64 n2), (.bool b5)] ∧ ifB b5
  (ifB (decide ((↑(List.length p3) : Int) < (2 : Int)))
  (((B (false)) = r ∧ [] = O))
  (e3q r O p p3 ((↑(List.length p3) : Int)) ((0 : Int)) p1 p2 p3))
  (e3q r O p p3 ((↑(List.length p3) : Int)) ((0 : Int)) p1 p2 p3)))))))))))))))
  ((∃ (m3 : Nat), (p1 = ((↑m3 : Int)) ∧ (∃ (q3 : ByteArray), (∃ (n3 : Int), (∃ (b6 : Bool), ((p[m3]?) = some [(.str q3), (.int .i64 n3), (.bool b6)] ∧ ifB b6
  (ifB (decide ((↑(List.length p3) : Int) < (2 : Int)))
  (((B (false)) = r ∧ [] = O))
  (e3q r O p p3 ((↑(List.length p3) : Int)) ((0 : Int)) p1 p2 p3))
  (e3q r O p p3 ((↑(List.length p3) : Int)) ((0 : Int)) p1 p2 p3)))))))))))))))))))))) : XC Tryz.prog 181 [(L p), (.dat [(.int .i64 p1), (.int .i64 p2), (.sl p3)])] [] r O :=
  b0q (E := env) (hs := v7q) (c := (a1q Tryz.f181)) (n := 105) (res := [.tmp 4]) (rs := .c .b) (ks := []) (dir := []) envOk a4q rfl Tryz.func181 (by kernel_rfl) (by kernel_rfl) (by kernel_rfl) (by kernel_rfl) (a5q (by kernel_rfl) h)
def e5q : a9q := ⟨[(2, ⟨[0, 1, 7, 8], [], [], [], [], [], []⟩)], []⟩
def d3q (r : AV) (O : List (Nat × Ob)) (s : List (List Da)) (s7 : Int) (s8 : Int) : Prop := CL 19 Tryz.prog (d6q (a1q Tryz.f182) [1, 0, 1, 0, 0]) (b5q Tryz.prog env e5q 19 (a1q Tryz.f182) [1, 0, 1, 0, 0] (a6q env [.tmp 4] (.c (.i .i64)) [] [] r O) (b4q (a6q env [.tmp 4] (.c (.i .i64)) [] [] r O))).1 (b5q Tryz.prog env e5q 19 (a1q Tryz.f182) [1, 0, 1, 0, 0] (a6q env [.tmp 4] (.c (.i .i64)) [] [] r O) (b4q (a6q env [.tmp 4] (.c (.i .i64)) [] [] r O))).2 ⟨[(0, (L s)), (1, (.one (.d (.fn 122)))), (7, (Z s7)), (8, (Z s8))], []⟩
theorem i2q {r : AV} {O : List (Nat × Ob)} {s : List (List Da)} {s7 : Int} {s8 : Int} (h : ifB (decide (s8 < s7))
  ((∃ (m : Nat), (s8 = ((↑m : Int)) ∧ (∃ (n : Int), ((s[m]?) = some [(.int .i64 n)] ∧ (∃ (b : Bool), (XC Tryz.prog 122 [(Z n)] [] (B b) [] ∧ ifB b
  (((Z s8) = r ∧ [] = O))
  (d3q r O s s7 (IntKind.wrap IntKind.i64 (s8 + (1 : Int)))))))))))
  (((Z ((-1 : Int))) = r ∧ [] = O))) : d3q r O s s7 s8 := by
  unfold d3q
  refine c5q (E := env) (hs := e5q) envOk a4q ?_
  exact a5q (by kernel_rfl) h
theorem s4q {s : List (List Da)} {r : AV} {O : List (Nat × Ob)} (h : d3q r O s ((↑(List.length s) : Int)) ((0 : Int))) : XC Tryz.prog 182 [(L s), (.one (.d (.fn 122)))] [] r O :=
  b0q (E := env) (hs := e5q) (c := (a1q Tryz.f182)) (n := 19) (res := [.tmp 4]) (rs := .c (.i .i64)) (ks := []) (dir := []) envOk a4q rfl Tryz.func182 (by kernel_rfl) (by kernel_rfl) (by kernel_rfl) (by kernel_rfl) (a5q (by kernel_rfl) h)
def e6q : a9q := ⟨[(2, ⟨[0, 1, 7, 8], [], [], [], [], [], []⟩)], []⟩
def d2q (r : AV) (O : List (Nat × Ob)) (s : List (List Da)) (s7 : Int) (s8 : Int) (o2000 : List (List Da)) : Prop := CL 19 Tryz.prog (d6q (a1q Tryz.f182) [1, 0, 1, 0, 0]) (b5q Tryz.prog env e6q 19 (a1q Tryz.f182) [1, 0, 1, 0, 0] (a6q env [.tmp 4] (.c (.i .i64)) [(2000, (true)), (2001, (false))] [2000] r O) (b4q (a6q env [.tmp 4] (.c (.i .i64)) [(2000, (true)), (2001, (false))] [2000] r O))).1 (b5q Tryz.prog env e6q 19 (a1q Tryz.f182) [1, 0, 1, 0, 0] (a6q env [.tmp 4] (.c (.i .i64)) [(2000, (true)), (2001, (false))] [2000] r O) (b4q (a6q env [.tmp 4] (.c (.i .i64)) [(2000, (true)), (2001, (false))] [2000] r O))).2 ⟨[(0, (L s)), (1, (.one (.clo 123 [(2000, 0)]))), (7, (Z s7)), (8, (Z s8))], [(2000, (.var [(.ol 1900)])), (1900, (.tr 3 1 o2000))]⟩
theorem i3q {r : AV} {O : List (Nat × Ob)} {s : List (List Da)} {s7 : Int} {s8 : Int} {o2000 : List (List Da)} (h : ifB (decide (s8 < s7))
  ((∃ (m : Nat), (s8 = ((↑m : Int)) ∧ (∃ (n : Int), ((s[m]?) = some [(.int .i64 n)] ∧ (∃ (b : Bool), (∃ (xs : List (List Da)), (XC Tryz.prog 123 [(Z n), (.one (.op 2000 0))] [(2000, (.var [(.ol 2001)])), (2001, (.tr 3 1 o2000))] (B b) [(2000, (.var [(.ol 0)])), (0, (.tr 3 1 xs))] ∧ ifB b
  (((Z s8) = r ∧ [(2000, (.var [(.ol 0)])), (0, (.tr 3 1 xs))] = O))
  (d2q r O s s7 (IntKind.wrap IntKind.i64 (s8 + (1 : Int))) xs)))))))))
  (((Z ((-1 : Int))) = r ∧ [(2000, (.var [(.ol 0)])), (0, (.tr 3 1 o2000))] = O))) : d2q r O s s7 s8 o2000 := by
  unfold d2q
  refine c5q (E := env) (hs := e6q) envOk a4q ?_
  exact a5q (by kernel_rfl) h
theorem s2q {s : List (List Da)} {o2000 : List (List Da)} {r : AV} {O : List (Nat × Ob)} (h : d2q r O s ((↑(List.length s) : Int)) ((0 : Int)) o2000) : XC Tryz.prog 182 [(L s), (.one (.clo 123 [(2000, 0)]))] [(2000, (.var [(.ol 2001)])), (2001, (.tr 3 1 o2000))] r O :=
  b0q (E := env) (hs := e6q) (c := (a1q Tryz.f182)) (n := 19) (res := [.tmp 4]) (rs := .c (.i .i64)) (ks := [(2000, (true)), (2001, (false))]) (dir := [2000]) envOk a4q rfl Tryz.func182 (by kernel_rfl) (by kernel_rfl) (by kernel_rfl) (by kernel_rfl) (a5q (by kernel_rfl) h)
def u0q : a9q := ⟨[(5, ⟨[0, 1, 5], [], [], [], [], [], []⟩)], []⟩
def m8q (r : AV) (O : List (Nat × Ob)) (a : List (List Da)) (left : Int) (i : Int) : Prop := CL 27 Tryz.prog (d6q (a1q Tryz.f192) [1, 1, 1, 0, 1, 0, 0]) (b5q Tryz.prog env u0q 27 (a1q Tryz.f192) [1, 1, 1, 0, 1, 0, 0] (a6q env [.tmp 4] (.c (.i .i64)) [] [] r O) (b4q (a6q env [.tmp 4] (.c (.i .i64)) [] [] r O))).1 (b5q Tryz.prog env u0q 27 (a1q Tryz.f192) [1, 1, 1, 0, 1, 0, 0] (a6q env [.tmp 4] (.c (.i .i64)) [] [] r O) (b4q (a6q env [.tmp 4] (.c (.i .i64)) [] [] r O))).2 ⟨[(0, (L a)), (1, (Z left)), (5, (Z i))], []⟩
theorem D2q {r : AV} {O : List (Nat × Ob)} {a : List (List Da)} {left : Int} {i : Int} (h : ifB (decide (i < (↑(List.length a) : Int)))
  ((∃ (m : Nat), (i = ((↑m : Int)) ∧ (∃ (n : Int), (∃ (n1 : Int), (∃ (xs : List (List Da)), ((a[m]?) = some [(.int .i64 n), (.int .i64 n1), (.sl xs)] ∧ (∃ (n2 : Int), (XC Tryz.prog 130 [(.dat [(.int .i64 n), (.int .i64 n1), (.sl xs)]), (Z left)] [] (Z n2) [] ∧ ifB (decide (n2 < (0 : Int)))
  (((Z ((-1 : Int))) = r ∧ [] = O))
  (m8q r O a n2 (IntKind.wrap IntKind.i64 (i + (1 : Int)))))))))))))
  (((Z left) = r ∧ [] = O))) : m8q r O a left i := by
  unfold m8q
  refine c5q (E := env) (hs := u0q) envOk a4q ?_
  exact a5q (by kernel_rfl) h
theorem a1Jq {a : List (List Da)} {left : Int} {r : AV} {O : List (Nat × Ob)} (h : ifB (decide (IntKind.wrap IntKind.i64 (left - (↑(List.length a) : Int)) < (0 : Int)))
  (((Z ((-1 : Int))) = r ∧ [] = O))
  (m8q r O a (IntKind.wrap IntKind.i64 (left - (↑(List.length a) : Int))) ((0 : Int)))) : XC Tryz.prog 192 [(L a), (Z left)] [] r O :=
  b0q (E := env) (hs := u0q) (c := (a1q Tryz.f192)) (n := 27) (res := [.tmp 4]) (rs := .c (.i .i64)) (ks := []) (dir := []) envOk a4q rfl Tryz.func192 (by kernel_rfl) (by kernel_rfl) (by kernel_rfl) (by kernel_rfl) (a5q (by kernel_rfl) h)
def u2q : a9q := ⟨[(3, ⟨[0, 3, 4], [], [], [], [], [], []⟩)], []⟩
def m0q (r : AV) (O : List (Nat × Ob)) (a : List (List Da)) (i : Int) (out : List (List Da)) : Prop := CL 23 Tryz.prog (d6q (a1q Tryz.f195) [1, 1, 0, 1, 0, 0]) (b5q Tryz.prog env u2q 23 (a1q Tryz.f195) [1, 1, 0, 1, 0, 0] (a6q env [.tmp 2] (.o 30 3) [] [] r O) (b4q (a6q env [.tmp 2] (.o 30 3) [] [] r O))).1 (b5q Tryz.prog env u2q 23 (a1q Tryz.f195) [1, 1, 0, 1, 0, 0] (a6q env [.tmp 2] (.o 30 3) [] [] r O) (b4q (a6q env [.tmp 2] (.o 30 3) [] [] r O))).2 ⟨[(0, (L a)), (3, (.one (.ol 1900))), (4, (Z i))], [(1900, (.tr 30 3 out))]⟩
theorem C6q {r : AV} {O : List (Nat × Ob)} {a : List (List Da)} {i : Int} {out : List (List Da)} (h : ifB (decide (i < (↑(List.length a) : Int)))
  ((∃ (m : Nat), (i = ((↑m : Int)) ∧ (∃ (n : Int), (∃ (n1 : Int), (∃ (xs : List (List Da)), ((a[m]?) = some [(.int .i64 n), (.int .i64 n1), (.sl xs)] ∧ (∃ (n2 : Int), (∃ (n3 : Int), (∃ (xs1 : List (List Da)), (XC Tryz.prog 133 [(.dat [(.int .i64 n), (.int .i64 n1), (.sl xs)])] [] (.agg [(.d (.int .i64 n2)), (.d (.int .i64 n3)), (.ol 0)]) [(0, (.tr 30 3 xs1))] ∧ (∃ (m1 : Nat), (i = ((↑m1 : Int)) ∧ (Do (m1 < List.length out) ∧ (∃ (m2 : Nat), ((m1 * (3 : Nat)) = (m2 * (3 : Nat) + (0 : Nat)) ∧ (∃ (n4 : Int), (∃ (n5 : Int), (∃ (xs2 : List (List Da)), ((out[m2]?) = some [(.int .i64 n4), (.int .i64 n5), (.sl xs2)] ∧ m0q r O a (IntKind.wrap IntKind.i64 (i + (1 : Int))) (List.set out m2 ([] ++ [Da.int IntKind.i64 n2, Da.int IntKind.i64 n3, Da.sl xs1] ++ []))))))))))))))))))))))
  (((.one (.ol 0)) = r ∧ [(0, (.tr 30 3 out))] = O))) : m0q r O a i out := by
  unfold m0q
  refine c5q (E := env) (hs := u2q) envOk a4q ?_
  exact a5q (by kernel_rfl) h
theorem a16q {a : List (List Da)} {r : AV} {O : List (Nat × Ob)} (h : (∃ (l : Nat), (∃ (c : Nat), (((↑(List.length a) : Int)) = ((↑l : Int)) ∧ (((↑(List.length a) : Int)) = ((↑c : Int)) ∧ (Do (l ≤ c ∧ (40 : Nat) * c ≤ (281474976710656 : Nat) ∧ c ≤ (281474976710656 : Nat)) ∧ m0q r O a ((0 : Int)) (List.replicate l [Da.int IntKind.i64 (0 : Int), Da.int IntKind.i64 (0 : Int), Da.sl []]))))))) : XC Tryz.prog 195 [(L a)] [] r O :=
  b0q (E := env) (hs := u2q) (c := (a1q Tryz.f195)) (n := 23) (res := [.tmp 2]) (rs := .o 30 3) (ks := []) (dir := []) envOk a4q rfl Tryz.func195 (by kernel_rfl) (by kernel_rfl) (by kernel_rfl) (by kernel_rfl) (a5q (by kernel_rfl) h)
def a58q : a9q := ⟨[], []⟩
theorem a3Gq {s : List (List Da)} {f : Int} {r : AV} {O : List (Nat × Ob)} (h : (∃ (b : Bool), (XC Tryz.prog 64 [(Z f), (Z ((0 : Int))), (Z (IntKind.wrap IntKind.i64 ((↑(List.length s) : Int) - (1 : Int))))] [] (B b) [] ∧ ifB b
  ((∃ (m : Nat), (f = ((↑m : Int)) ∧ (∃ (q : ByteArray), (∃ (n : Int), (∃ (b1 : Bool), ((s[m]?) = some [(.str q), (.int .i64 n), (.bool b1)] ∧ ((B b1) = r ∧ [] = O))))))))
  (((B (false)) = r ∧ [] = O))))) : XC Tryz.prog 151 [(L s), (Z f)] [] r O :=
  b0q (E := env) (hs := a58q) (c := (a1q Tryz.f151)) (n := 17) (res := [.tmp 4]) (rs := .c .b) (ks := []) (dir := []) envOk a4q rfl Tryz.func151 (by kernel_rfl) (by kernel_rfl) (by kernel_rfl) (by kernel_rfl) (a5q (by kernel_rfl) h)
def x1q : a9q := ⟨[(2, ⟨[0, 3], [], [], [], [], [], []⟩)], []⟩
def g3q (r : AV) (O : List (Nat × Ob)) (s : ByteArray) (i : Int) : Prop := CL 40 Tryz.prog (d6q (a1q Tryz.f211) [1, 0, 1, 0, 0]) (b5q Tryz.prog env x1q 40 (a1q Tryz.f211) [1, 0, 1, 0, 0] (a6q env [.tmp 2] (.c .b) [] [] r O) (b4q (a6q env [.tmp 2] (.c .b) [] [] r O))).1 (b5q Tryz.prog env x1q 40 (a1q Tryz.f211) [1, 0, 1, 0, 0] (a6q env [.tmp 2] (.c .b) [] [] r O) (b4q (a6q env [.tmp 2] (.c .b) [] [] r O))).2 ⟨[(0, (T s)), (3, (Z i))], []⟩
theorem E6q {r : AV} {O : List (Nat × Ob)} {s : ByteArray} {i : Int} (h : ifB (decide (i < (↑(ByteArray.size s) : Int)))
  ((∃ (n : Nat), (∃ (b : UInt8), (i = ((↑n : Int)) ∧ ((s[n]?) = some b ∧ ifB (decide ((97 : Int) ≤ (↑(UInt8.toNat b) : Int)))
  ((∃ (n1 : Nat), (∃ (b1 : UInt8), (i = ((↑n1 : Int)) ∧ ((s[n1]?) = some b1 ∧ ifB (decide ((↑(UInt8.toNat b1) : Int) ≤ (122 : Int)))
  (g3q r O s (IntKind.wrap IntKind.i64 (i + (1 : Int))))
  (ifB (decide ((0 : Int) < i))
  ((∃ (n2 : Nat), (∃ (b2 : UInt8), (i = ((↑n2 : Int)) ∧ ((s[n2]?) = some b2 ∧ ifB (decide ((48 : Int) ≤ (↑(UInt8.toNat b2) : Int)))
  ((∃ (n3 : Nat), (∃ (b3 : UInt8), (i = ((↑n3 : Int)) ∧ ((s[n3]?) = some b3 ∧ ifB (!decide ((↑(UInt8.toNat b3) : Int) ≤ (57 : Int)))
  (((B (false)) = r ∧ [] = O))
  (g3q r O s (IntKind.wrap IntKind.i64 (i + (1 : Int)))))))))
  (((B (false)) = r ∧ [] = O)))))))
  (((B (false)) = r ∧ [] = O))))))))
  (ifB (decide ((0 : Int) < i))
  ((∃ (n4 : Nat), (∃ (b4 : UInt8), (i = ((↑n4 : Int)) ∧ ((s[n4]?) = some b4 ∧ ifB (decide ((48 : Int) ≤ (↑(UInt8.toNat b4) : Int)))
  ((∃ (n5 : Nat), (∃ (b5 : UInt8), (i = ((↑n5 : Int)) ∧ ((s[n5]?) = some b5 ∧ ifB (!decide ((↑(UInt8.toNat b5) : Int) ≤ (57 : Int)))
  (((B (false)) = r ∧ [] = O))
  (g3q r O s (IntKind.wrap IntKind.i64 (i + (1 : Int)))))))))
  (((B (false)) = r ∧ [] = O)))))))
  (((B (false)) = r ∧ [] = O))))))))
  ((∃ (b6 : Bool), (XC Tryz.prog 64 [(Z ((↑(ByteArray.size s) : Int))), (Z ((1 : Int))), (Z ((8 : Int)))] [] (B b6) [] ∧ ((B b6) = r ∧ [] = O))))) : g3q r O s i := by
  unfold g3q
  refine c5q (E := env) (hs := x1q) envOk a4q ?_
  exact a5q (by kernel_rfl) h
theorem a2Rq {s : ByteArray} {r : AV} {O : List (Nat × Ob)} (h : g3q r O s ((0 : Int))) : XC Tryz.prog 211 [(T s)] [] r O :=
  b0q (E := env) (hs := x1q) (c := (a1q Tryz.f211)) (n := 40) (res := [.tmp 2]) (rs := .c .b) (ks := []) (dir := []) envOk a4q rfl Tryz.func211 (by kernel_rfl) (by kernel_rfl) (by kernel_rfl) (by kernel_rfl) (a5q (by kernel_rfl) h)
def z6q : a9q := ⟨[(2, ⟨[0, 1, 5], [], [], [], [], [], []⟩)], []⟩
def q0q (r : AV) (O : List (Nat × Ob)) (s : List (List Da)) (name : ByteArray) (i : Int) : Prop := CL 20 Tryz.prog (d6q (a1q Tryz.f212) [1, 0, 1, 0, 0]) (b5q Tryz.prog env z6q 20 (a1q Tryz.f212) [1, 0, 1, 0, 0] (a6q env [.tmp 4] (.c (.i .i64)) [] [] r O) (b4q (a6q env [.tmp 4] (.c (.i .i64)) [] [] r O))).1 (b5q Tryz.prog env z6q 20 (a1q Tryz.f212) [1, 0, 1, 0, 0] (a6q env [.tmp 4] (.c (.i .i64)) [] [] r O) (b4q (a6q env [.tmp 4] (.c (.i .i64)) [] [] r O))).2 ⟨[(0, (L s)), (1, (T name)), (5, (Z i))], []⟩
theorem I7q {r : AV} {O : List (Nat × Ob)} {s : List (List Da)} {name : ByteArray} {i : Int} (h : ifB (decide (i < (↑(List.length s) : Int)))
  ((∃ (m : Nat), (i = ((↑m : Int)) ∧ (∃ (q : ByteArray), (∃ (n : Int), (∃ (b : Bool), ((s[m]?) = some [(.str q), (.int .i64 n), (.bool b)] ∧ ifB (decide (q = name))
  (((Z i) = r ∧ [] = O))
  (q0q r O s name (IntKind.wrap IntKind.i64 (i + (1 : Int)))))))))))
  (((Z ((-1 : Int))) = r ∧ [] = O))) : q0q r O s name i := by
  unfold q0q
  refine c5q (E := env) (hs := z6q) envOk a4q ?_
  exact a5q (by kernel_rfl) h
theorem a3Yq {s : List (List Da)} {name : ByteArray} {r : AV} {O : List (Nat × Ob)} (h : q0q r O s name ((0 : Int))) : XC Tryz.prog 212 [(L s), (T name)] [] r O :=
  b0q (E := env) (hs := z6q) (c := (a1q Tryz.f212)) (n := 20) (res := [.tmp 4]) (rs := .c (.i .i64)) (ks := []) (dir := []) envOk a4q rfl Tryz.func212 (by kernel_rfl) (by kernel_rfl) (by kernel_rfl) (by kernel_rfl) (a5q (by kernel_rfl) h)
def a6aq : a9q := ⟨[], []⟩
theorem a4Kq {x : Int} {lo : Int} {hi : Int} {r : AV} {O : List (Nat × Ob)} (h : ifB (decide (lo ≤ x))
  (((B (decide (x ≤ hi))) = r ∧ [] = O))
  (((B (false)) = r ∧ [] = O))) : XC Tryz.prog 64 [(Z x), (Z lo), (Z hi)] [] r O :=
  b0q (E := env) (hs := a6aq) (c := (a1q Tryz.f64)) (n := 15) (res := [.tmp 6]) (rs := .c .b) (ks := []) (dir := []) envOk a4q rfl Tryz.func64 (by kernel_rfl) (by kernel_rfl) (by kernel_rfl) (by kernel_rfl) (a5q (by kernel_rfl) h)
def w5q : a9q := ⟨[(4, ⟨[0, 1, 5], [], [], [], [], [], []⟩)], []⟩
def p0q (r : AV) (O : List (Nat × Ob)) (list : List (List Da)) (n : Int) (at_ : Int) : Prop := CL 41 Tryz.prog (d6q (a1q Tryz.f213) [1, 1, 1, 0, 0, 0]) (b5q Tryz.prog env w5q 41 (a1q Tryz.f213) [1, 1, 1, 0, 0, 0] (a6q env [.tmp 4] (.c .l) [] [] r O) (b4q (a6q env [.tmp 4] (.c .l) [] [] r O))).1 (b5q Tryz.prog env w5q 41 (a1q Tryz.f213) [1, 1, 1, 0, 0, 0] (a6q env [.tmp 4] (.c .l) [] [] r O) (b4q (a6q env [.tmp 4] (.c .l) [] [] r O))).2 ⟨[(0, (L list)), (1, (Z n)), (5, (Z at_))], []⟩
theorem E1q {r : AV} {O : List (Nat × Ob)} {list : List (List Da)} {n : Int} {at_ : Int} (h : ifB (decide (at_ < (↑(List.length list) : Int)))
  ((∃ (m : Nat), (at_ = ((↑m : Int)) ∧ (∃ (n2 : Int), ((list[m]?) = some [(.int .i64 n2)] ∧ ifB (decide (n2 < n))
  (p0q r O list n (IntKind.wrap IntKind.i64 (at_ + (1 : Int))))
  ((∃ (n3 : Nat), (at_ = ((↑n3 : Int)) ∧ (Do ((0 : Nat) ≤ n3 ∧ n3 ≤ List.length list) ∧ (Do (∀ (c : List Da), c ∈ list → List.length c = TI.n { agg := false, n := (1 : Nat), b := (8 : Nat), el := none, fs := [], pr := (3 : Nat), ik := some IntKind.i64 }) ∧ (Do (∀ (y : List Da), y ∈ List.drop (0 : Nat) (List.take n3 list) → List.length y = Prod.fst ((1 : Nat), (8 : Nat), [At.d (Da.int IntKind.i64 (0 : Int))])) ∧ (Do (f7q (List.drop (0 : Nat) (List.take n3 list))) ∧ (Do ((List.length ([] : List (List Da)) + List.length (List.drop (0 : Nat) (List.take n3 list))) * (8 : Nat) ≤ (140737488355328 : Nat)) ∧ (Do ((List.length ([] ++ List.drop (0 : Nat) (List.take n3 list)) + List.length [[Da.int IntKind.i64 n]]) * (8 : Nat) ≤ (140737488355328 : Nat)) ∧ (∃ (n4 : Nat), (at_ = ((↑n4 : Int)) ∧ (Do (n4 ≤ List.length list ∧ List.length list ≤ List.length list) ∧ (Do (∀ (c : List Da), c ∈ list → List.length c = TI.n { agg := false, n := (1 : Nat), b := (8 : Nat), el := none, fs := [], pr := (3 : Nat), ik := some IntKind.i64 }) ∧ (Do (∀ (y : List Da), y ∈ List.drop n4 (List.take (List.length list) list) → List.length y = Prod.fst ((1 : Nat), (8 : Nat), [At.d (Da.int IntKind.i64 (0 : Int))])) ∧ (Do (f7q (List.drop n4 (List.take (List.length list) list))) ∧ (Do ((List.length ([] ++ List.drop (0 : Nat) (List.take n3 list) ++ [[Da.int IntKind.i64 n]]) + List.length (List.drop n4 (List.take (List.length list) list))) * (8 : Nat) ≤ (140737488355328 : Nat)) ∧ ((L ([] ++ List.drop (0 : Nat) (List.take n3 list) ++ [[Da.int IntKind.i64 n]] ++ List.drop n4 (List.take (List.length list) list))) = r ∧ [] = O))))))))))))))))))))))
  ((∃ (n5 : Nat), (at_ = ((↑n5 : Int)) ∧ (Do ((0 : Nat) ≤ n5 ∧ n5 ≤ List.length list) ∧ (Do (∀ (c : List Da), c ∈ list → List.length c = TI.n { agg := false, n := (1 : Nat), b := (8 : Nat), el := none, fs := [], pr := (3 : Nat), ik := some IntKind.i64 }) ∧ (Do (∀ (y : List Da), y ∈ List.drop (0 : Nat) (List.take n5 list) → List.length y = Prod.fst ((1 : Nat), (8 : Nat), [At.d (Da.int IntKind.i64 (0 : Int))])) ∧ (Do (f7q (List.drop (0 : Nat) (List.take n5 list))) ∧ (Do ((List.length ([] : List (List Da)) + List.length (List.drop (0 : Nat) (List.take n5 list))) * (8 : Nat) ≤ (140737488355328 : Nat)) ∧ (Do ((List.length ([] ++ List.drop (0 : Nat) (List.take n5 list)) + List.length [[Da.int IntKind.i64 n]]) * (8 : Nat) ≤ (140737488355328 : Nat)) ∧ (∃ (n6 : Nat), (at_ = ((↑n6 : Int)) ∧ (Do (n6 ≤ List.length list ∧ List.length list ≤ List.length list) ∧ (Do (∀ (c : List Da), c ∈ list → List.length c = TI.n { agg := false, n := (1 : Nat), b := (8 : Nat), el := none, fs := [], pr := (3 : Nat), ik := some IntKind.i64 }) ∧ (Do (∀ (y : List Da), y ∈ List.drop n6 (List.take (List.length list) list) → List.length y = Prod.fst ((1 : Nat), (8 : Nat), [At.d (Da.int IntKind.i64 (0 : Int))])) ∧ (Do (f7q (List.drop n6 (List.take (List.length list) list))) ∧ (Do ((List.length ([] ++ List.drop (0 : Nat) (List.take n5 list) ++ [[Da.int IntKind.i64 n]]) + List.length (List.drop n6 (List.take (List.length list) list))) * (8 : Nat) ≤ (140737488355328 : Nat)) ∧ ((L ([] ++ List.drop (0 : Nat) (List.take n5 list) ++ [[Da.int IntKind.i64 n]] ++ List.drop n6 (List.take (List.length list) list))) = r ∧ [] = O)))))))))))))))))) : p0q r O list n at_ := by
  unfold p0q
  refine c5q (E := env) (hs := w5q) envOk a4q ?_
  exact a5q (by kernel_rfl) h
theorem a28q {list : List (List Da)} {n : Int} {r : AV} {O : List (Nat × Ob)} (h : (∃ (b : Bool), (XC Tryz.prog 239 [(L list), (Z n)] [] (B b) [] ∧ ifB b
  ((Do (∀ (y : List Da), y ∈ list → List.length y = Prod.fst ((1 : Nat), (8 : Nat), [At.d (Da.int IntKind.i64 (0 : Int))])) ∧ (Do (f7q list) ∧ (Do ((List.length ([] : List (List Da)) + List.length list) * (8 : Nat) ≤ (140737488355328 : Nat)) ∧ ((L ([] ++ list)) = r ∧ [] = O)))))
  (p0q r O list n ((0 : Int)))))) : XC Tryz.prog 213 [(L list), (Z n)] [] r O :=
  b0q (E := env) (hs := w5q) (c := (a1q Tryz.f213)) (n := 41) (res := [.tmp 4]) (rs := .c .l) (ks := []) (dir := []) envOk a4q rfl Tryz.func213 (by kernel_rfl) (by kernel_rfl) (by kernel_rfl) (by kernel_rfl) (a5q (by kernel_rfl) h)
def i9q : a9q := ⟨[(2, ⟨[2, 3, 26, 27, 28], [], [], [], [], [], []⟩), (10, ⟨[2, 3, 47, 48], [], [], [], [], [], []⟩)], []⟩
def r0q (r : AV) (O : List (Nat × Ob)) (s27 : Int) (s28 : Int) (s2 : Int) (s21 : Int) (s22 : List (List Da)) (s3 : Int) (s31 : Int) (s32 : List (List Da)) (s26 : List (List Da)) : Prop := CL 66 Tryz.prog (d6q (a1q Tryz.f143) [1, 0, 1, 0, 0]) (b5q Tryz.prog env i9q 66 (a1q Tryz.f143) [1, 0, 1, 0, 0] (a6q env [.tmp 4] (.c (.i .i64)) [] [] r O) (b4q (a6q env [.tmp 4] (.c (.i .i64)) [] [] r O))).1 (b5q Tryz.prog env i9q 66 (a1q Tryz.f143) [1, 0, 1, 0, 0] (a6q env [.tmp 4] (.c (.i .i64)) [] [] r O) (b4q (a6q env [.tmp 4] (.c (.i .i64)) [] [] r O))).2 ⟨[(2, (.one (.op 1900 0))), (3, (.one (.op 1901 0))), (26, (.one (.ol 1902))), (27, (Z s27)), (28, (Z s28))], [(1900, (.var [(.d (.int .i64 s2)), (.d (.int .i64 s21)), (.d (.sl s22))])), (1901, (.var [(.d (.int .i64 s3)), (.d (.int .i64 s31)), (.d (.sl s32))])), (1902, (.tr 217 2 s26))]⟩
def l3q (r : AV) (O : List (Nat × Ob)) (s47 : Int) (s48 : Int) (s2 : Int) (s21 : Int) (s22 : List (List Da)) (s3 : Int) (s31 : Int) (s32 : List (List Da)) : Prop := CL 66 Tryz.prog (d6q (a1q Tryz.f143) [1, 1, 0, 1, 0, 0]) (b5q Tryz.prog env i9q 66 (a1q Tryz.f143) [1, 1, 0, 1, 0, 0] (a6q env [.tmp 4] (.c (.i .i64)) [] [] r O) (b4q (a6q env [.tmp 4] (.c (.i .i64)) [] [] r O))).1 (b5q Tryz.prog env i9q 66 (a1q Tryz.f143) [1, 1, 0, 1, 0, 0] (a6q env [.tmp 4] (.c (.i .i64)) [] [] r O) (b4q (a6q env [.tmp 4] (.c (.i .i64)) [] [] r O))).2 ⟨[(2, (.one (.op 1900 0))), (3, (.one (.op 1901 0))), (47, (Z s47)), (48, (Z s48))], [(1900, (.var [(.d (.int .i64 s2)), (.d (.int .i64 s21)), (.d (.sl s22))])), (1901, (.var [(.d (.int .i64 s3)), (.d (.int .i64 s31)), (.d (.sl s32))]))]⟩
theorem m4q {r : AV} {O : List (Nat × Ob)} {s27 : Int} {s28 : Int} {s2 : Int} {s21 : Int} {s22 : List (List Da)} {s3 : Int} {s31 : Int} {s32 : List (List Da)} {s26 : List (List Da)} (h : ifB (decide (s28 < s27))
  ((∃ (m : Nat), (s28 = ((↑m : Int)) ∧ (Do (m < List.length s26) ∧ (∃ (n : Nat), ((m * (2 : Nat)) = (n * (2 : Nat)) ∧ (∃ (n1 : Int), (∃ (n2 : Int), ((s26[n]?) = some [(.int .i64 n1), (.int .i64 n2)] ∧ ifB (decide (n1 < n2))
  (((Z ((-1 : Int))) = r ∧ [] = O))
  (ifB (decide (n2 < n1))
  (((Z ((1 : Int))) = r ∧ [] = O))
  (r0q r O s27 (IntKind.wrap IntKind.i64 (s28 + (1 : Int))) s2 s21 s22 s3 s31 s32 s26)))))))))))
  (l3q r O ((↑(List.length s22) : Int)) ((0 : Int)) s2 s21 s22 s3 s31 s32)) : r0q r O s27 s28 s2 s21 s22 s3 s31 s32 s26 := by
  unfold r0q
  refine c5q (E := env) (hs := i9q) envOk a4q ?_
  exact a5q (by kernel_rfl) h
theorem B0q {r : AV} {O : List (Nat × Ob)} {s47 : Int} {s48 : Int} {s2 : Int} {s21 : Int} {s22 : List (List Da)} {s3 : Int} {s31 : Int} {s32 : List (List Da)} (h : ifB (decide (s48 < s47))
  ((∃ (m : Nat), (s48 = ((↑m : Int)) ∧ (∃ (n : Int), (∃ (n1 : Int), (∃ (xs : List (List Da)), ((s22[m]?) = some [(.int .i64 n), (.int .i64 n1), (.sl xs)] ∧ (∃ (m1 : Nat), (s48 = ((↑m1 : Int)) ∧ (∃ (n2 : Int), (∃ (n3 : Int), (∃ (xs1 : List (List Da)), ((s32[m1]?) = some [(.int .i64 n2), (.int .i64 n3), (.sl xs1)] ∧ (∃ (n4 : Int), (XC Tryz.prog 143 [(.dat [(.int .i64 n), (.int .i64 n1), (.sl xs)]), (.dat [(.int .i64 n2), (.int .i64 n3), (.sl xs1)])] [] (Z n4) [] ∧ ifB (decide (n4 ≠ (0 : Int)))
  (((Z n4) = r ∧ [] = O))
  (l3q r O s47 (IntKind.wrap IntKind.i64 (s48 + (1 : Int))) s2 s21 s22 s3 s31 s32))))))))))))))))
  (((Z ((0 : Int))) = r ∧ [] = O))) : l3q r O s47 s48 s2 s21 s22 s3 s31 s32 := by
  unfold l3q
  refine c5q (E := env) (hs := i9q) envOk a4q ?_
  exact a5q (by kernel_rfl) h
theorem a1Lq {p : Int} {p1 : Int} {p2 : List (List Da)} {p3 : Int} {p4 : Int} {p5 : List (List Da)} {r : AV} {O : List (Nat × Ob)} (h : r0q r O ((↑(List.length [[Da.int IntKind.i64 p, Da.int IntKind.i64 p3], [Da.int IntKind.i64 p1, Da.int IntKind.i64 p4], [Da.int IntKind.i64 (↑(List.length p2) : Int), Da.int IntKind.i64 (↑(List.length p5) : Int)]]) : Int)) ((0 : Int)) p p1 p2 p3 p4 p5 [[(.int .i64 p), (.int .i64 p3)], [(.int .i64 p1), (.int .i64 p4)], [(.int .i64 ((↑(List.length p2) : Int))), (.int .i64 ((↑(List.length p5) : Int)))]]) : XC Tryz.prog 143 [(.dat [(.int .i64 p), (.int .i64 p1), (.sl p2)]), (.dat [(.int .i64 p3), (.int .i64 p4), (.sl p5)])] [] r O :=
  b0q (E := env) (hs := i9q) (c := (a1q Tryz.f143)) (n := 66) (res := [.tmp 4]) (rs := .c (.i .i64)) (ks := []) (dir := []) envOk a4q rfl Tryz.func143 (by kernel_rfl) (by kernel_rfl) (by kernel_rfl) (by kernel_rfl) (a5q (by kernel_rfl) h)
def i1q : a9q := ⟨[(3, ⟨[1, 10, 11, 12], [], [], [], [], [], []⟩)], []⟩
def g0q (r : AV) (O : List (Nat × Ob)) (s10 : List (List Da)) (s11 : Int) (s12 : Int) (o2000 : Int) (o2001 : Int) : Prop := CL 20 Tryz.prog (d6q (a1q Tryz.f176) [1, 1, 1, 0, 0]) (b5q Tryz.prog env i1q 20 (a1q Tryz.f176) [1, 1, 1, 0, 0] (a6q env [] (.t []) [(2000, (true)), (2001, (true))] [2000, 2001] r O) (b4q (a6q env [] (.t []) [(2000, (true)), (2001, (true))] [2000, 2001] r O))).1 (b5q Tryz.prog env i1q 20 (a1q Tryz.f176) [1, 1, 1, 0, 0] (a6q env [] (.t []) [(2000, (true)), (2001, (true))] [2000, 2001] r O) (b4q (a6q env [] (.t []) [(2000, (true)), (2001, (true))] [2000, 2001] r O))).2 ⟨[(1, (.one (.clo 214 [(2000, 0), (2001, 0)]))), (10, (L s10)), (11, (Z s11)), (12, (Z s12))], [(2000, (.var [(.d (.int .i64 o2000))])), (2001, (.var [(.d (.int .i64 o2001))]))]⟩
theorem n8q {r : AV} {O : List (Nat × Ob)} {s10 : List (List Da)} {s11 : Int} {s12 : Int} {o2000 : Int} {o2001 : Int} (h : ifB (decide (s12 < s11))
  ((∃ (m : Nat), (s12 = ((↑m : Int)) ∧ (∃ (n : Int), (∃ (n1 : Int), (∃ (xs : List (List Da)), ((s10[m]?) = some [(.int .i64 n), (.int .i64 n1), (.sl xs)] ∧ (∃ (m1 : Int), (∃ (m2 : Int), (XC Tryz.prog 176 [(.dat [(.int .i64 n), (.int .i64 n1), (.sl xs)]), (.one (.clo 214 [(2000, 0), (2001, 0)]))] [(2000, (.var [(.d (.int .i64 o2000))])), (2001, (.var [(.d (.int .i64 o2001))]))] (.tup []) [(2000, (.var [(.d (.int .i64 m1))])), (2001, (.var [(.d (.int .i64 m2))]))] ∧ g0q r O s10 s11 (IntKind.wrap IntKind.i64 (s12 + (1 : Int))) m1 m2))))))))))
  (((.tup []) = r ∧ [(2000, (.var [(.d (.int .i64 o2000))])), (2001, (.var [(.d (.int .i64 o2001))]))] = O))) : g0q r O s10 s11 s12 o2000 o2001 := by
  unfold g0q
  refine c5q (E := env) (hs := i1q) envOk a4q ?_
  exact a5q (by kernel_rfl) h
theorem F5q {t : Int} {t1 : Int} {t2 : List (List Da)} {o2000 : Int} {o2001 : Int} {r : AV} {O : List (Nat × Ob)} (h : (∃ (m : Int), (∃ (m1 : Int), (XC Tryz.prog 214 [(.dat [(.int .i64 t), (.int .i64 t1), (.sl t2)]), (.one (.op 2000 0)), (.one (.op 2001 0))] [(2000, (.var [(.d (.int .i64 o2000))])), (2001, (.var [(.d (.int .i64 o2001))]))] (.tup []) [(2000, (.var [(.d (.int .i64 m))])), (2001, (.var [(.d (.int .i64 m1))]))] ∧ g0q r O t2 ((↑(List.length t2) : Int)) ((0 : Int)) m m1)))) : XC Tryz.prog 176 [(.dat [(.int .i64 t), (.int .i64 t1), (.sl t2)]), (.one (.clo 214 [(2000, 0), (2001, 0)]))] [(2000, (.var [(.d (.int .i64 o2000))])), (2001, (.var [(.d (.int .i64 o2001))]))] r O :=
  b0q (E := env) (hs := i1q) (c := (a1q Tryz.f176)) (n := 20) (res := []) (rs := .t []) (ks := [(2000, (true)), (2001, (true))]) (dir := [2000, 2001]) envOk a4q rfl Tryz.func176 (by kernel_rfl) (by kernel_rfl) (by kernel_rfl) (by kernel_rfl) (a5q (by kernel_rfl) h)
def a5vq : a9q := ⟨[], []⟩
theorem a3zq {s : List (List Da)} {f : Int} {r : AV} {O : List (Nat × Ob)} (h : (∃ (b : Bool), (XC Tryz.prog 161 [(L s), (Z f)] [] (B b) [] ∧ ifB b
  ((∃ (m : Nat), (f = ((↑m : Int)) ∧ (∃ (q : ByteArray), (∃ (n : Int), (∃ (b1 : Bool), ((s[m]?) = some [(.str q), (.int .i64 n), (.bool b1)] ∧ ((B b1) = r ∧ [] = O))))))))
  (((B (false)) = r ∧ [] = O))))) : XC Tryz.prog 98 [(L s), (Z f)] [] r O :=
  b0q (E := env) (hs := a5vq) (c := (a1q Tryz.f98)) (n := 15) (res := [.tmp 4]) (rs := .c .b) (ks := []) (dir := []) envOk a4q rfl Tryz.func98 (by kernel_rfl) (by kernel_rfl) (by kernel_rfl) (by kernel_rfl) (a5q (by kernel_rfl) h)
def a1Xq : a9q := ⟨[], []⟩
theorem a0vq {x : Int} {x1 : Int} {x2 : List (List Da)} {o2000 : List (List Da)} {r : AV} {O : List (Nat × Ob)} (h : (∃ (b : Bool), (XC Tryz.prog 100 [(.dat [(.int .i64 x), (.int .i64 x1), (.sl x2)])] [] (B b) [] ∧ ifB b
  ((∃ (xs : List (List Da)), (XC Tryz.prog 178 [(L o2000), (Z x1)] [] (.one (.ol 0)) [(0, (.tr 3 1 xs))] ∧ ((.tup []) = r ∧ [(2000, (.var [(.ol 0)])), (0, (.tr 3 1 xs))] = O))))
  (((.tup []) = r ∧ [(2000, (.var [(.ol 0)])), (0, (.tr 3 1 o2000))] = O))))) : XC Tryz.prog 177 [(.dat [(.int .i64 x), (.int .i64 x1), (.sl x2)]), (.one (.op 2000 0))] [(2000, (.var [(.ol 2001)])), (2001, (.tr 3 1 o2000))] r O :=
  b0q (E := env) (hs := a1Xq) (c := (a1q Tryz.f177)) (n := 9) (res := []) (rs := .t []) (ks := [(2000, (true)), (2001, (false))]) (dir := [2000]) envOk a4q rfl Tryz.func177 (by kernel_rfl) (by kernel_rfl) (by kernel_rfl) (by kernel_rfl) (a5q (by kernel_rfl) h)
def v9q : a9q := ⟨[(2, ⟨[0, 5, 6], [], [], [], [], [], []⟩)], []⟩
def j3q (r : AV) (O : List (Nat × Ob)) (s : ByteArray) (s5 : Int) (s6 : Int) : Prop := CL 30 Tryz.prog (d6q (a1q Tryz.f218) [1, 0, 1, 0, 0]) (b5q Tryz.prog env v9q 30 (a1q Tryz.f218) [1, 0, 1, 0, 0] (a6q env [.tmp 2] (.c .b) [] [] r O) (b4q (a6q env [.tmp 2] (.c .b) [] [] r O))).1 (b5q Tryz.prog env v9q 30 (a1q Tryz.f218) [1, 0, 1, 0, 0] (a6q env [.tmp 2] (.c .b) [] [] r O) (b4q (a6q env [.tmp 2] (.c .b) [] [] r O))).2 ⟨[(0, (T s)), (5, (Z s5)), (6, (Z s6))], []⟩
theorem F3q {r : AV} {O : List (Nat × Ob)} {s : ByteArray} {s5 : Int} {s6 : Int} (h : ifB (decide (s6 < s5))
  ((∃ (n : Nat), (∃ (b : UInt8), (s6 = ((↑n : Int)) ∧ ((s[n]?) = some b ∧ (∃ (b1 : Bool), (XC Tryz.prog 242 [(I .u8 ((↑(UInt8.toNat b) : Int)))] [] (B b1) [] ∧ ifB (!b1)
  ((∃ (n1 : Nat), (∃ (b2 : UInt8), (s6 = ((↑n1 : Int)) ∧ ((s[n1]?) = some b2 ∧ (∃ (b3 : Bool), (XC Tryz.prog 243 [(I .u8 ((↑(UInt8.toNat b2) : Int)))] [] (B b3) [] ∧ ifB (!b3)
  (((B (false)) = r ∧ [] = O))
  (j3q r O s s5 (IntKind.wrap IntKind.i64 (s6 + (1 : Int)))))))))))
  (j3q r O s s5 (IntKind.wrap IntKind.i64 (s6 + (1 : Int)))))))))))
  ((∃ (b4 : Bool), (XC Tryz.prog 134 [(Z ((↑(ByteArray.size s) : Int))), (Z ((1 : Int))), (Z ((8 : Int)))] [] (B b4) [] ∧ ifB b4
  ((∃ (n2 : Nat), (∃ (b5 : UInt8), (((0 : Int)) = ((↑n2 : Int)) ∧ ((s[n2]?) = some b5 ∧ (∃ (b6 : Bool), (XC Tryz.prog 242 [(I .u8 ((↑(UInt8.toNat b5) : Int)))] [] (B b6) [] ∧ ((B b6) = r ∧ [] = O))))))))
  (((B (false)) = r ∧ [] = O)))))) : j3q r O s s5 s6 := by
  unfold j3q
  refine c5q (E := env) (hs := v9q) envOk a4q ?_
  exact a5q (by kernel_rfl) h
theorem a35q {s : ByteArray} {r : AV} {O : List (Nat × Ob)} (h : j3q r O s ((↑(ByteArray.size s) : Int)) ((0 : Int))) : XC Tryz.prog 218 [(T s)] [] r O :=
  b0q (E := env) (hs := v9q) (c := (a1q Tryz.f218)) (n := 30) (res := [.tmp 2]) (rs := .c .b) (ks := []) (dir := []) envOk a4q rfl Tryz.func218 (by kernel_rfl) (by kernel_rfl) (by kernel_rfl) (by kernel_rfl) (a5q (by kernel_rfl) h)
def a4Rq : a9q := ⟨[], []⟩
theorem a43q {s : List (List Da)} {name : ByteArray} {r : AV} {O : List (Nat × Ob)} (h : (∃ (n : Int), (∃ (q : ByteArray), (XC Tryz.prog 244 [(L s), (.one (.clo 245 [(2000, 0)]))] [(2000, (.var [(.d (.str name))]))] (Z n) [(2000, (.var [(.d (.str q))]))] ∧ ((Z n) = r ∧ [] = O))))) : XC Tryz.prog 219 [(L s), (T name)] [] r O :=
  b0q (E := env) (hs := a4Rq) (c := (a1q Tryz.f219)) (n := 8) (res := [.tmp 4]) (rs := .c (.i .i64)) (ks := []) (dir := []) envOk a4q rfl Tryz.func219 (by kernel_rfl) (by kernel_rfl) (by kernel_rfl) (by kernel_rfl) (a5q (by kernel_rfl) h)
def a5Nq : a9q := ⟨[], []⟩
theorem a50q {n : Int} {low : Int} {high : Int} {r : AV} {O : List (Nat × Ob)} (h : ifB (decide (low ≤ n))
  (((B (decide (n ≤ high))) = r ∧ [] = O))
  (((B (false)) = r ∧ [] = O))) : XC Tryz.prog 134 [(Z n), (Z low), (Z high)] [] r O :=
  b0q (E := env) (hs := a5Nq) (c := (a1q Tryz.f134)) (n := 15) (res := [.tmp 6]) (rs := .c .b) (ks := []) (dir := []) envOk a4q rfl Tryz.func134 (by kernel_rfl) (by kernel_rfl) (by kernel_rfl) (by kernel_rfl) (a5q (by kernel_rfl) h)
def i0q : a9q := ⟨[(3, ⟨[1, 10, 11, 12], [], [], [], [], [], []⟩)], []⟩
def f9q (r : AV) (O : List (Nat × Ob)) (s10 : List (List Da)) (s11 : Int) (s12 : Int) (o2000 : Int) : Prop := CL 20 Tryz.prog (d6q (a1q Tryz.f176) [1, 1, 1, 0, 0]) (b5q Tryz.prog env i0q 20 (a1q Tryz.f176) [1, 1, 1, 0, 0] (a6q env [] (.t []) [(2000, (true))] [2000] r O) (b4q (a6q env [] (.t []) [(2000, (true))] [2000] r O))).1 (b5q Tryz.prog env i0q 20 (a1q Tryz.f176) [1, 1, 1, 0, 0] (a6q env [] (.t []) [(2000, (true))] [2000] r O) (b4q (a6q env [] (.t []) [(2000, (true))] [2000] r O))).2 ⟨[(1, (.one (.clo 220 [(2000, 0)]))), (10, (L s10)), (11, (Z s11)), (12, (Z s12))], [(2000, (.var [(.d (.int .i64 o2000))]))]⟩
theorem p1q {r : AV} {O : List (Nat × Ob)} {s10 : List (List Da)} {s11 : Int} {s12 : Int} {o2000 : Int} (h : ifB (decide (s12 < s11))
  ((∃ (m : Nat), (s12 = ((↑m : Int)) ∧ (∃ (n : Int), (∃ (n1 : Int), (∃ (xs : List (List Da)), ((s10[m]?) = some [(.int .i64 n), (.int .i64 n1), (.sl xs)] ∧ (∃ (m1 : Int), (XC Tryz.prog 176 [(.dat [(.int .i64 n), (.int .i64 n1), (.sl xs)]), (.one (.clo 220 [(2000, 0)]))] [(2000, (.var [(.d (.int .i64 o2000))]))] (.tup []) [(2000, (.var [(.d (.int .i64 m1))]))] ∧ f9q r O s10 s11 (IntKind.wrap IntKind.i64 (s12 + (1 : Int))) m1)))))))))
  (((.tup []) = r ∧ [(2000, (.var [(.d (.int .i64 o2000))]))] = O))) : f9q r O s10 s11 s12 o2000 := by
  unfold f9q
  refine c5q (E := env) (hs := i0q) envOk a4q ?_
  exact a5q (by kernel_rfl) h
theorem F7q {t : Int} {t1 : Int} {t2 : List (List Da)} {o2000 : Int} {r : AV} {O : List (Nat × Ob)} (h : (∃ (m : Int), (XC Tryz.prog 220 [(.dat [(.int .i64 t), (.int .i64 t1), (.sl t2)]), (.one (.op 2000 0))] [(2000, (.var [(.d (.int .i64 o2000))]))] (.tup []) [(2000, (.var [(.d (.int .i64 m))]))] ∧ f9q r O t2 ((↑(List.length t2) : Int)) ((0 : Int)) m))) : XC Tryz.prog 176 [(.dat [(.int .i64 t), (.int .i64 t1), (.sl t2)]), (.one (.clo 220 [(2000, 0)]))] [(2000, (.var [(.d (.int .i64 o2000))]))] r O :=
  b0q (E := env) (hs := i0q) (c := (a1q Tryz.f176)) (n := 20) (res := []) (rs := .t []) (ks := [(2000, (true))]) (dir := [2000]) envOk a4q rfl Tryz.func176 (by kernel_rfl) (by kernel_rfl) (by kernel_rfl) (by kernel_rfl) (a5q (by kernel_rfl) h)
def a4Yq : a9q := ⟨[], []⟩
theorem R7q {s : List (List Da)} {f : Int} {r : AV} {O : List (Nat × Ob)} (h : (∃ (b : Bool), (XC Tryz.prog 134 [(Z f), (Z ((0 : Int))), (Z (IntKind.wrap IntKind.i64 ((↑(List.length s) : Int) - (1 : Int))))] [] (B b) [] ∧ ((B b) = r ∧ [] = O)))) : XC Tryz.prog 161 [(L s), (Z f)] [] r O :=
  b0q (E := env) (hs := a4Yq) (c := (a1q Tryz.f161)) (n := 10) (res := [.tmp 4]) (rs := .c .b) (ks := []) (dir := []) envOk a4q rfl Tryz.func161 (by kernel_rfl) (by kernel_rfl) (by kernel_rfl) (by kernel_rfl) (a5q (by kernel_rfl) h)
def a1Aq : a9q := ⟨[], []⟩
theorem a0bq {v : Int} {r : AV} {O : List (Nat × Ob)} (h : ((B (decide ((60 : Int) ≤ v))) = r ∧ [] = O)) : XC Tryz.prog 122 [(Z v)] [] r O :=
  b0q (E := env) (hs := a1Aq) (c := (a1q Tryz.f122)) (n := 5) (res := [.tmp 2]) (rs := .c .b) (ks := []) (dir := []) envOk a4q rfl Tryz.func122 (by kernel_rfl) (by kernel_rfl) (by kernel_rfl) (by kernel_rfl) (a5q (by kernel_rfl) h)
def a1cq : a9q := ⟨[], []⟩
theorem a0Aq {v : Int} {o2000 : List (List Da)} {r : AV} {O : List (Nat × Ob)} (h : (∃ (b : Bool), (XC Tryz.prog 124 [(L o2000), (Z v)] [] (B b) [] ∧ ((B (!b)) = r ∧ [(2000, (.var [(.ol 0)])), (0, (.tr 3 1 o2000))] = O)))) : XC Tryz.prog 123 [(Z v), (.one (.op 2000 0))] [(2000, (.var [(.ol 2001)])), (2001, (.tr 3 1 o2000))] r O :=
  b0q (E := env) (hs := a1cq) (c := (a1q Tryz.f123)) (n := 8) (res := [.tmp 3]) (rs := .c .b) (ks := [(2000, (true)), (2001, (false))]) (dir := [2000]) envOk a4q rfl Tryz.func123 (by kernel_rfl) (by kernel_rfl) (by kernel_rfl) (by kernel_rfl) (a5q (by kernel_rfl) h)
def A0q : a9q := ⟨[(2, ⟨[0, 1, 5], [], [], [], [], [], []⟩)], []⟩
def q5q (r : AV) (O : List (Nat × Ob)) (list : List (List Da)) (n : Int) (i : Int) : Prop := CL 18 Tryz.prog (d6q (a1q Tryz.f239) [1, 0, 1, 0, 0]) (b5q Tryz.prog env A0q 18 (a1q Tryz.f239) [1, 0, 1, 0, 0] (a6q env [.tmp 4] (.c .b) [] [] r O) (b4q (a6q env [.tmp 4] (.c .b) [] [] r O))).1 (b5q Tryz.prog env A0q 18 (a1q Tryz.f239) [1, 0, 1, 0, 0] (a6q env [.tmp 4] (.c .b) [] [] r O) (b4q (a6q env [.tmp 4] (.c .b) [] [] r O))).2 ⟨[(0, (L list)), (1, (Z n)), (5, (Z i))], []⟩
theorem H8q {r : AV} {O : List (Nat × Ob)} {list : List (List Da)} {n : Int} {i : Int} (h : ifB (decide (i < (↑(List.length list) : Int)))
  ((∃ (m : Nat), (i = ((↑m : Int)) ∧ (∃ (n2 : Int), ((list[m]?) = some [(.int .i64 n2)] ∧ ifB (decide (n2 = n))
  (((B (true)) = r ∧ [] = O))
  (q5q r O list n (IntKind.wrap IntKind.i64 (i + (1 : Int)))))))))
  (((B (false)) = r ∧ [] = O))) : q5q r O list n i := by
  unfold q5q
  refine c5q (E := env) (hs := A0q) envOk a4q ?_
  exact a5q (by kernel_rfl) h
theorem a3Zq {list : List (List Da)} {n : Int} {r : AV} {O : List (Nat × Ob)} (h : q5q r O list n ((0 : Int))) : XC Tryz.prog 239 [(L list), (Z n)] [] r O :=
  b0q (E := env) (hs := A0q) (c := (a1q Tryz.f239)) (n := 18) (res := [.tmp 4]) (rs := .c .b) (ks := []) (dir := []) envOk a4q rfl Tryz.func239 (by kernel_rfl) (by kernel_rfl) (by kernel_rfl) (by kernel_rfl) (a5q (by kernel_rfl) h)
def a2Lq : a9q := ⟨[], []⟩
theorem a0Uq {x : Int} {x1 : Int} {x2 : List (List Da)} {o2000 : Int} {o2001 : Int} {r : AV} {O : List (Nat × Ob)} (h : (∃ (b : Bool), (XC Tryz.prog 100 [(.dat [(.int .i64 x), (.int .i64 x1), (.sl x2)])] [] (B b) [] ∧ ifB b
  (ifB (decide (x1 = o2000))
  (((.tup []) = r ∧ [(2000, (.var [(.d (.int .i64 o2000))])), (2001, (.var [(.d (.int .i64 (IntKind.wrap IntKind.i64 (o2001 + (1 : Int)))))]))] = O))
  (((.tup []) = r ∧ [(2000, (.var [(.d (.int .i64 o2000))])), (2001, (.var [(.d (.int .i64 o2001))]))] = O)))
  (((.tup []) = r ∧ [(2000, (.var [(.d (.int .i64 o2000))])), (2001, (.var [(.d (.int .i64 o2001))]))] = O))))) : XC Tryz.prog 214 [(.dat [(.int .i64 x), (.int .i64 x1), (.sl x2)]), (.one (.op 2000 0)), (.one (.op 2001 0))] [(2000, (.var [(.d (.int .i64 o2000))])), (2001, (.var [(.d (.int .i64 o2001))]))] r O :=
  b0q (E := env) (hs := a2Lq) (c := (a1q Tryz.f214)) (n := 14) (res := []) (rs := .t []) (ks := [(2000, (true)), (2001, (true))]) (dir := [2000, 2001]) envOk a4q rfl Tryz.func214 (by kernel_rfl) (by kernel_rfl) (by kernel_rfl) (by kernel_rfl) (a5q (by kernel_rfl) h)
def a3Lq : a9q := ⟨[], []⟩
theorem a36q {list : List (List Da)} {n : Int} {r : AV} {O : List (Nat × Ob)} (h : (∃ (xs : List (List Da)), (XC Tryz.prog 215 [(L list)] [] (.one (.ol 0)) [(0, (.tr 3 1 xs))] ∧ (∃ (b : Bool), (XC Tryz.prog 124 [(L list), (Z n)] [] (B b) [] ∧ ifB b
  (((.one (.ol 0)) = r ∧ [(0, (.tr 3 1 xs))] = O))
  ((∃ (n1 : Int), (∃ (m : Int), (XC Tryz.prog 182 [(L list), (.one (.clo 216 [(2000, 0)]))] [(2000, (.var [(.d (.int .i64 n))]))] (Z n1) [(2000, (.var [(.d (.int .i64 m))]))] ∧ ifB (decide (n1 < (0 : Int)))
  ((∃ (xs1 : List (List Da)), (∃ (xs2 : List (List Da)), (XC Tryz.prog 217 [(.one (.ol 2000)), (Z ((↑(List.length list) : Int))), (.one (.ol 2001))] [(2000, (.tr 3 1 xs)), (2001, (.lst 3 1 [[(.int .i64 m)]]))] (.one (.ol 0)) [(2001, (.lst 3 1 xs2)), (0, (.tr 3 1 xs1))] ∧ ((.one (.ol 0)) = r ∧ [(0, (.tr 3 1 xs1))] = O)))))
  ((∃ (xs3 : List (List Da)), (∃ (xs4 : List (List Da)), (XC Tryz.prog 217 [(.one (.ol 2000)), (Z n1), (.one (.ol 2001))] [(2000, (.tr 3 1 xs)), (2001, (.lst 3 1 [[(.int .i64 m)]]))] (.one (.ol 0)) [(2001, (.lst 3 1 xs4)), (0, (.tr 3 1 xs3))] ∧ ((.one (.ol 0)) = r ∧ [(0, (.tr 3 1 xs3))] = O)))))))))))))) : XC Tryz.prog 178 [(L list), (Z n)] [] r O :=
  b0q (E := env) (hs := a3Lq) (c := (a1q Tryz.f178)) (n := 25) (res := [.tmp 4]) (rs := .o 3 1) (ks := []) (dir := []) envOk a4q rfl Tryz.func178 (by kernel_rfl) (by kernel_rfl) (by kernel_rfl) (by kernel_rfl) (a5q (by kernel_rfl) h)
def a37q : a9q := ⟨[], []⟩
theorem a1Pq {c : Int} {r : AV} {O : List (Nat × Ob)} (h : ifB (decide ((97 : Int) ≤ c))
  (((B (decide (c ≤ (122 : Int)))) = r ∧ [] = O))
  (((B (false)) = r ∧ [] = O))) : XC Tryz.prog 242 [(I .u8 c)] [] r O :=
  b0q (E := env) (hs := a37q) (c := (a1q Tryz.f242)) (n := 9) (res := [.tmp 2]) (rs := .c .b) (ks := []) (dir := []) envOk a4q rfl Tryz.func242 (by kernel_rfl) (by kernel_rfl) (by kernel_rfl) (by kernel_rfl) (a5q (by kernel_rfl) h)
def a2nq : a9q := ⟨[], []⟩
theorem a1iq {c : Int} {r : AV} {O : List (Nat × Ob)} (h : ifB (decide ((48 : Int) ≤ c))
  (((B (decide (c ≤ (57 : Int)))) = r ∧ [] = O))
  (((B (false)) = r ∧ [] = O))) : XC Tryz.prog 243 [(I .u8 c)] [] r O :=
  b0q (E := env) (hs := a2nq) (c := (a1q Tryz.f243)) (n := 9) (res := [.tmp 2]) (rs := .c .b) (ks := []) (dir := []) envOk a4q rfl Tryz.func243 (by kernel_rfl) (by kernel_rfl) (by kernel_rfl) (by kernel_rfl) (a5q (by kernel_rfl) h)
def e8q : a9q := ⟨[(2, ⟨[0, 1, 7, 8], [], [], [], [], [], []⟩)], []⟩
def d5q (r : AV) (O : List (Nat × Ob)) (s : List (List Da)) (s7 : Int) (s8 : Int) (o2000 : ByteArray) : Prop := CL 19 Tryz.prog (d6q (a1q Tryz.f244) [1, 0, 1, 0, 0]) (b5q Tryz.prog env e8q 19 (a1q Tryz.f244) [1, 0, 1, 0, 0] (a6q env [.tmp 4] (.c (.i .i64)) [(2000, (true))] [2000] r O) (b4q (a6q env [.tmp 4] (.c (.i .i64)) [(2000, (true))] [2000] r O))).1 (b5q Tryz.prog env e8q 19 (a1q Tryz.f244) [1, 0, 1, 0, 0] (a6q env [.tmp 4] (.c (.i .i64)) [(2000, (true))] [2000] r O) (b4q (a6q env [.tmp 4] (.c (.i .i64)) [(2000, (true))] [2000] r O))).2 ⟨[(0, (L s)), (1, (.one (.clo 245 [(2000, 0)]))), (7, (Z s7)), (8, (Z s8))], [(2000, (.var [(.d (.str o2000))]))]⟩
theorem i6q {r : AV} {O : List (Nat × Ob)} {s : List (List Da)} {s7 : Int} {s8 : Int} {o2000 : ByteArray} (h : ifB (decide (s8 < s7))
  ((∃ (m : Nat), (s8 = ((↑m : Int)) ∧ (∃ (q : ByteArray), (∃ (n : Int), (∃ (b : Bool), ((s[m]?) = some [(.str q), (.int .i64 n), (.bool b)] ∧ (∃ (b1 : Bool), (∃ (q1 : ByteArray), (XC Tryz.prog 245 [(.dat [(.str q), (.int .i64 n), (.bool b)]), (.one (.op 2000 0))] [(2000, (.var [(.d (.str o2000))]))] (B b1) [(2000, (.var [(.d (.str q1))]))] ∧ ifB b1
  (((Z s8) = r ∧ [(2000, (.var [(.d (.str q1))]))] = O))
  (d5q r O s s7 (IntKind.wrap IntKind.i64 (s8 + (1 : Int))) q1)))))))))))
  (((Z ((-1 : Int))) = r ∧ [(2000, (.var [(.d (.str o2000))]))] = O))) : d5q r O s s7 s8 o2000 := by
  unfold d5q
  refine c5q (E := env) (hs := e8q) envOk a4q ?_
  exact a5q (by kernel_rfl) h
theorem t7q {s : List (List Da)} {o2000 : ByteArray} {r : AV} {O : List (Nat × Ob)} (h : d5q r O s ((↑(List.length s) : Int)) ((0 : Int)) o2000) : XC Tryz.prog 244 [(L s), (.one (.clo 245 [(2000, 0)]))] [(2000, (.var [(.d (.str o2000))]))] r O :=
  b0q (E := env) (hs := e8q) (c := (a1q Tryz.f244)) (n := 19) (res := [.tmp 4]) (rs := .c (.i .i64)) (ks := [(2000, (true))]) (dir := [2000]) envOk a4q rfl Tryz.func244 (by kernel_rfl) (by kernel_rfl) (by kernel_rfl) (by kernel_rfl) (a5q (by kernel_rfl) h)
def a2rq : a9q := ⟨[], []⟩
theorem a1kq {x : Int} {x1 : Int} {x2 : List (List Da)} {o2000 : Int} {r : AV} {O : List (Nat × Ob)} (h : ((.tup []) = r ∧ [(2000, (.var [(.d (.int .i64 (IntKind.wrap IntKind.i64 (o2000 + (1 : Int)))))]))] = O)) : XC Tryz.prog 220 [(.dat [(.int .i64 x), (.int .i64 x1), (.sl x2)]), (.one (.op 2000 0))] [(2000, (.var [(.d (.int .i64 o2000))]))] r O :=
  b0q (E := env) (hs := a2rq) (c := (a1q Tryz.f220)) (n := 5) (res := []) (rs := .t []) (ks := [(2000, (true))]) (dir := [2000]) envOk a4q rfl Tryz.func220 (by kernel_rfl) (by kernel_rfl) (by kernel_rfl) (by kernel_rfl) (a5q (by kernel_rfl) h)
def a4Sq : a9q := ⟨[], []⟩
theorem a3Vq {list : List (List Da)} {n : Int} {r : AV} {O : List (Nat × Ob)} (h : (∃ (b : Bool), (XC Tryz.prog 183 [(L list), (Z n)] [] (B b) [] ∧ ((B b) = r ∧ [] = O)))) : XC Tryz.prog 124 [(L list), (Z n)] [] r O :=
  b0q (E := env) (hs := a4Sq) (c := (a1q Tryz.f124)) (n := 8) (res := [.tmp 4]) (rs := .c .b) (ks := []) (dir := []) envOk a4q rfl Tryz.func124 (by kernel_rfl) (by kernel_rfl) (by kernel_rfl) (by kernel_rfl) (a5q (by kernel_rfl) h)
def U6q : a9q := ⟨[], []⟩
theorem S6q {s : List (List Da)} {r : AV} {O : List (Nat × Ob)} (h : (((List.flatten s = []) → ((.one (.ol 0)) = r ∧ [(0, (.tr 3 1 []))] = O)) ∧ (Do (∀ (y : List Da), y ∈ s → List.length y = Prod.fst ((1 : Nat), (8 : Nat), [At.d (Da.int IntKind.i64 (0 : Int))])) ∧ (Do (f7q s) ∧ (Do ((List.length ([] : List (List Da)) + List.length s) * (8 : Nat) ≤ (140737488355328 : Nat)) ∧ ((.one (.ol 0)) = r ∧ [(0, (.tr 3 1 ([] ++ s)))] = O)))))) : XC Tryz.prog 215 [(L s)] [] r O :=
  b0q (E := env) (hs := U6q) (c := (a1q Tryz.f215)) (n := 8) (res := [.tmp 2]) (rs := .o 3 1) (ks := []) (dir := []) envOk a4q rfl Tryz.func215 (by kernel_rfl) (by kernel_rfl) (by kernel_rfl) (by kernel_rfl) (a5q (by kernel_rfl) h)
def e4q : a9q := ⟨[(2, ⟨[0, 1, 7, 8], [], [], [], [], [], []⟩)], []⟩
def d1q (r : AV) (O : List (Nat × Ob)) (s : List (List Da)) (s7 : Int) (s8 : Int) (o2000 : Int) : Prop := CL 19 Tryz.prog (d6q (a1q Tryz.f182) [1, 0, 1, 0, 0]) (b5q Tryz.prog env e4q 19 (a1q Tryz.f182) [1, 0, 1, 0, 0] (a6q env [.tmp 4] (.c (.i .i64)) [(2000, (true))] [2000] r O) (b4q (a6q env [.tmp 4] (.c (.i .i64)) [(2000, (true))] [2000] r O))).1 (b5q Tryz.prog env e4q 19 (a1q Tryz.f182) [1, 0, 1, 0, 0] (a6q env [.tmp 4] (.c (.i .i64)) [(2000, (true))] [2000] r O) (b4q (a6q env [.tmp 4] (.c (.i .i64)) [(2000, (true))] [2000] r O))).2 ⟨[(0, (L s)), (1, (.one (.clo 216 [(2000, 0)]))), (7, (Z s7)), (8, (Z s8))], [(2000, (.var [(.d (.int .i64 o2000))]))]⟩
theorem h9q {r : AV} {O : List (Nat × Ob)} {s : List (List Da)} {s7 : Int} {s8 : Int} {o2000 : Int} (h : ifB (decide (s8 < s7))
  ((∃ (m : Nat), (s8 = ((↑m : Int)) ∧ (∃ (n : Int), ((s[m]?) = some [(.int .i64 n)] ∧ (∃ (b : Bool), (∃ (m1 : Int), (XC Tryz.prog 216 [(Z n), (.one (.op 2000 0))] [(2000, (.var [(.d (.int .i64 o2000))]))] (B b) [(2000, (.var [(.d (.int .i64 m1))]))] ∧ ifB b
  (((Z s8) = r ∧ [(2000, (.var [(.d (.int .i64 m1))]))] = O))
  (d1q r O s s7 (IntKind.wrap IntKind.i64 (s8 + (1 : Int))) m1)))))))))
  (((Z ((-1 : Int))) = r ∧ [(2000, (.var [(.d (.int .i64 o2000))]))] = O))) : d1q r O s s7 s8 o2000 := by
  unfold d1q
  refine c5q (E := env) (hs := e4q) envOk a4q ?_
  exact a5q (by kernel_rfl) h
theorem s3q {s : List (List Da)} {o2000 : Int} {r : AV} {O : List (Nat × Ob)} (h : d1q r O s ((↑(List.length s) : Int)) ((0 : Int)) o2000) : XC Tryz.prog 182 [(L s), (.one (.clo 216 [(2000, 0)]))] [(2000, (.var [(.d (.int .i64 o2000))]))] r O :=
  b0q (E := env) (hs := e4q) (c := (a1q Tryz.f182)) (n := 19) (res := [.tmp 4]) (rs := .c (.i .i64)) (ks := [(2000, (true))]) (dir := [2000]) envOk a4q rfl Tryz.func182 (by kernel_rfl) (by kernel_rfl) (by kernel_rfl) (by kernel_rfl) (a5q (by kernel_rfl) h)
def T0q : a9q := ⟨[], []⟩
theorem P9q {p : Int} {o2000 : List (List Da)} {o2001 : List (List Da)} {r : AV} {O : List (Nat × Ob)} (h : (∀ (c : Nat), ((List.length o2000 ≤ c) → ((c ≤ maxLen) → (∃ (n : Nat), (p = ((↑n : Int)) ∧ (Do (n ≤ List.length o2000 ∧ (List.length o2000 ≤ List.length o2000 ∨ (0 : Nat) + List.length o2000 ≤ c)) ∧ ifB (decide ((↑(List.length o2001) : Int) = (0 : Int)))
  ((Do (List.length o2000 ≤ List.length o2000) ∧ ((.one (.ol 0)) = r ∧ [(2001, (.lst 3 1 o2001)), (0, (.lst 3 1 (List.take (List.length o2000) o2000)))] = O)))
  (ifB (decide (p = (↑(List.length o2000) : Int)))
  ((Do ((0 : Nat) + List.length o2000 ≤ List.length o2000 ∧ ((0 : Nat) + List.length o2000 + List.length o2001) * (8 : Nat) ≤ (140737488355328 : Nat)) ∧ ifB (decide ((0 : Nat) + List.length o2000 + List.length o2001 ≤ c))
  ((Do (List.length o2000 + List.length o2001 ≤ List.length (List.take ((0 : Nat) + List.length o2000) o2000 ++ o2001 ++ List.drop ((0 : Nat) + List.length o2000 + List.length o2001) o2000)) ∧ ((.one (.ol 0)) = r ∧ [(2001, (.lst 3 1 o2001)), (0, (.lst 3 1 (List.take (List.length o2000 + List.length o2001) (List.take ((0 : Nat) + List.length o2000) o2000 ++ o2001 ++ List.drop ((0 : Nat) + List.length o2000 + List.length o2001) o2000))))] = O)))
  (((.one (.ol 0)) = r ∧ [(2001, (.lst 3 1 o2001)), (0, (.lst 3 1 (List.take (List.length o2000) (List.drop (0 : Nat) o2000) ++ o2001)))] = O))))
  (ifB (decide ((↑(c - (0 : Nat)) : Int) < IntKind.wrap IntKind.i64 ((↑(List.length o2000) : Int) + (↑(List.length o2001) : Int))))
  ((∃ (n1 : Nat), (p = ((↑n1 : Int)) ∧ (Do ((0 : Nat) ≤ n1 ∧ (n1 ≤ List.length o2000 ∨ (0 : Nat) + n1 ≤ c)) ∧ (∃ (q : Nat), ((IntKind.wrap IntKind.i64 (IntKind.wrap IntKind.i64 ((↑(List.length o2000) : Int) + (↑(List.length o2001) : Int)) - p)) = ((↑q : Int)) ∧ (Do ((0 : Nat) + (0 : Nat) + (n1 - (0 : Nat)) ≤ List.length o2000 ∧ ((0 : Nat) + (0 : Nat) + (n1 - (0 : Nat)) + List.length (List.replicate q [Da.int IntKind.i64 (0 : Int)])) * (8 : Nat) ≤ (140737488355328 : Nat)) ∧ ifB (decide ((0 : Nat) + (0 : Nat) + (n1 - (0 : Nat)) + List.length (List.replicate q [Da.int IntKind.i64 (0 : Int)]) ≤ c))
  ((∃ (n2 : Nat), (p = ((↑n2 : Int)) ∧ (Do (n2 ≤ n1 - (0 : Nat) + List.length (List.replicate q [Da.int IntKind.i64 (0 : Int)]) ∧ (n1 - (0 : Nat) + List.length (List.replicate q [Da.int IntKind.i64 (0 : Int)]) ≤ n1 - (0 : Nat) + List.length (List.replicate q [Da.int IntKind.i64 (0 : Int)]) ∨ (0 : Nat) + (0 : Nat) + (n1 - (0 : Nat) + List.length (List.replicate q [Da.int IntKind.i64 (0 : Int)])) ≤ c)) ∧ (Do ((0 : Nat) + (0 : Nat) + n2 ≤ List.length (List.take ((0 : Nat) + (0 : Nat) + (n1 - (0 : Nat))) o2000 ++ List.replicate q [Da.int IntKind.i64 (0 : Int)] ++ List.drop ((0 : Nat) + (0 : Nat) + (n1 - (0 : Nat)) + List.length (List.replicate q [Da.int IntKind.i64 (0 : Int)])) o2000) ∧ (0 : Nat) + (0 : Nat) + n2 + min (List.length o2001) (n1 - (0 : Nat) + List.length (List.replicate q [Da.int IntKind.i64 (0 : Int)]) - n2) ≤ (281474976710656 : Nat)) ∧ (∃ (n3 : Nat), ((IntKind.wrap IntKind.i64 (p + (↑(List.length o2001) : Int))) = ((↑n3 : Int)) ∧ (Do (n3 ≤ n1 - (0 : Nat) + List.length (List.replicate q [Da.int IntKind.i64 (0 : Int)]) ∧ (n1 - (0 : Nat) + List.length (List.replicate q [Da.int IntKind.i64 (0 : Int)]) ≤ n1 - (0 : Nat) + List.length (List.replicate q [Da.int IntKind.i64 (0 : Int)]) ∨ (0 : Nat) + (0 : Nat) + (n1 - (0 : Nat) + List.length (List.replicate q [Da.int IntKind.i64 (0 : Int)])) ≤ c)) ∧ (∃ (n4 : Nat), (p = ((↑n4 : Int)) ∧ (Do (n4 ≤ List.length o2000 ∧ (List.length o2000 ≤ List.length o2000 ∨ (0 : Nat) + List.length o2000 ≤ c)) ∧ (Do ((0 : Nat) + n4 + min (List.length o2000 - n4) (n1 - (0 : Nat) + List.length (List.replicate q [Da.int IntKind.i64 (0 : Int)]) - n3) ≤ List.length (List.take ((0 : Nat) + (0 : Nat) + n2) (List.take ((0 : Nat) + (0 : Nat) + (n1 - (0 : Nat))) o2000 ++ List.replicate q [Da.int IntKind.i64 (0 : Int)] ++ List.drop ((0 : Nat) + (0 : Nat) + (n1 - (0 : Nat)) + List.length (List.replicate q [Da.int IntKind.i64 (0 : Int)])) o2000) ++ List.take (min (List.length o2001) (n1 - (0 : Nat) + List.length (List.replicate q [Da.int IntKind.i64 (0 : Int)]) - n2)) o2001 ++ List.drop ((0 : Nat) + (0 : Nat) + n2 + min (List.length o2001) (n1 - (0 : Nat) + List.length (List.replicate q [Da.int IntKind.i64 (0 : Int)]) - n2)) (List.take ((0 : Nat) + (0 : Nat) + (n1 - (0 : Nat))) o2000 ++ List.replicate q [Da.int IntKind.i64 (0 : Int)] ++ List.drop ((0 : Nat) + (0 : Nat) + (n1 - (0 : Nat)) + List.length (List.replicate q [Da.int IntKind.i64 (0 : Int)])) o2000))) ∧ (Do ((0 : Nat) + (0 : Nat) + n3 ≤ List.length (List.take ((0 : Nat) + (0 : Nat) + n2) (List.take ((0 : Nat) + (0 : Nat) + (n1 - (0 : Nat))) o2000 ++ List.replicate q [Da.int IntKind.i64 (0 : Int)] ++ List.drop ((0 : Nat) + (0 : Nat) + (n1 - (0 : Nat)) + List.length (List.replicate q [Da.int IntKind.i64 (0 : Int)])) o2000) ++ List.take (min (List.length o2001) (n1 - (0 : Nat) + List.length (List.replicate q [Da.int IntKind.i64 (0 : Int)]) - n2)) o2001 ++ List.drop ((0 : Nat) + (0 : Nat) + n2 + min (List.length o2001) (n1 - (0 : Nat) + List.length (List.replicate q [Da.int IntKind.i64 (0 : Int)]) - n2)) (List.take ((0 : Nat) + (0 : Nat) + (n1 - (0 : Nat))) o2000 ++ List.replicate q [Da.int IntKind.i64 (0 : Int)] ++ List.drop ((0 : Nat) + (0 : Nat) + (n1 - (0 : Nat)) + List.length (List.replicate q [Da.int IntKind.i64 (0 : Int)])) o2000)) ∧ (0 : Nat) + (0 : Nat) + n3 + min (List.length o2000 - n4) (n1 - (0 : Nat) + List.length (List.replicate q [Da.int IntKind.i64 (0 : Int)]) - n3) ≤ (281474976710656 : Nat)) ∧ (Do (n1 - (0 : Nat) + List.length (List.replicate q [Da.int IntKind.i64 (0 : Int)]) ≤ List.length (List.take ((0 : Nat) + (0 : Nat) + n3) (List.take ((0 : Nat) + (0 : Nat) + n2) (List.take ((0 : Nat) + (0 : Nat) + (n1 - (0 : Nat))) o2000 ++ List.replicate q [Da.int IntKind.i64 (0 : Int)] ++ List.drop ((0 : Nat) + (0 : Nat) + (n1 - (0 : Nat)) + List.length (List.replicate q [Da.int IntKind.i64 (0 : Int)])) o2000) ++ List.take (min (List.length o2001) (n1 - (0 : Nat) + List.length (List.replicate q [Da.int IntKind.i64 (0 : Int)]) - n2)) o2001 ++ List.drop ((0 : Nat) + (0 : Nat) + n2 + min (List.length o2001) (n1 - (0 : Nat) + List.length (List.replicate q [Da.int IntKind.i64 (0 : Int)]) - n2)) (List.take ((0 : Nat) + (0 : Nat) + (n1 - (0 : Nat))) o2000 ++ List.replicate q [Da.int IntKind.i64 (0 : Int)] ++ List.drop ((0 : Nat) + (0 : Nat) + (n1 - (0 : Nat)) + List.length (List.replicate q [Da.int IntKind.i64 (0 : Int)])) o2000)) ++ List.take (min (List.length o2000 - n4) (n1 - (0 : Nat) + List.length (List.replicate q [Da.int IntKind.i64 (0 : Int)]) - n3)) (List.drop ((0 : Nat) + n4) (List.take ((0 : Nat) + (0 : Nat) + n2) (List.take ((0 : Nat) + (0 : Nat) + (n1 - (0 : Nat))) o2000 ++ List.replicate q [Da.int IntKind.i64 (0 : Int)] ++ List.drop ((0 : Nat) + (0 : Nat) + (n1 - (0 : Nat)) + List.length (List.replicate q [Da.int IntKind.i64 (0 : Int)])) o2000) ++ List.take (min (List.length o2001) (n1 - (0 : Nat) + List.length (List.replicate q [Da.int IntKind.i64 (0 : Int)]) - n2)) o2001 ++ List.drop ((0 : Nat) + (0 : Nat) + n2 + min (List.length o2001) (n1 - (0 : Nat) + List.length (List.replicate q [Da.int IntKind.i64 (0 : Int)]) - n2)) (List.take ((0 : Nat) + (0 : Nat) + (n1 - (0 : Nat))) o2000 ++ List.replicate q [Da.int IntKind.i64 (0 : Int)] ++ List.drop ((0 : Nat) + (0 : Nat) + (n1 - (0 : Nat)) + List.length (List.replicate q [Da.int IntKind.i64 (0 : Int)])) o2000))) ++ List.drop ((0 : Nat) + (0 : Nat) + n3 + min (List.length o2000 - n4) (n1 - (0 : Nat) + List.length (List.replicate q [Da.int IntKind.i64 (0 : Int)]) - n3)) (List.take ((0 : Nat) + (0 : Nat) + n2) (List.take ((0 : Nat) + (0 : Nat) + (n1 - (0 : Nat))) o2000 ++ List.replicate q [Da.int IntKind.i64 (0 : Int)] ++ List.drop ((0 : Nat) + (0 : Nat) + (n1 - (0 : Nat)) + List.length (List.replicate q [Da.int IntKind.i64 (0 : Int)])) o2000) ++ List.take (min (List.length o2001) (n1 - (0 : Nat) + List.length (List.replicate q [Da.int IntKind.i64 (0 : Int)]) - n2)) o2001 ++ List.drop ((0 : Nat) + (0 : Nat) + n2 + min (List.length o2001) (n1 - (0 : Nat) + List.length (List.replicate q [Da.int IntKind.i64 (0 : Int)]) - n2)) (List.take ((0 : Nat) + (0 : Nat) + (n1 - (0 : Nat))) o2000 ++ List.replicate q [Da.int IntKind.i64 (0 : Int)] ++ List.drop ((0 : Nat) + (0 : Nat) + (n1 - (0 : Nat)) + List.length (List.replicate q [Da.int IntKind.i64 (0 : Int)])) o2000)))) ∧ ((.one (.ol 0)) = r ∧ [(2001, (.lst 3 1 o2001)), (0, (.lst 3 1 (List.take (n1 - (0 : Nat) + List.length (List.replicate q [Da.int IntKind.i64 (0 : Int)])) (List.take ((0 : Nat) + (0 : Nat) + n3) (List.take ((0 : Nat) + (0 : Nat) + n2) (List.take ((0 : Nat) + (0 : Nat) + (n1 - (0 : Nat))) o2000 ++ List.replicate q [Da.int IntKind.i64 (0 : Int)] ++ List.drop ((0 : Nat) + (0 : Nat) + (n1 - (0 : Nat)) + List.length (List.replicate q [Da.int IntKind.i64 (0 : Int)])) o2000) ++ List.take (min (List.length o2001) (n1 - (0 : Nat) + List.length (List.replicate q [Da.int IntKind.i64 (0 : Int)]) - n2)) o2001 ++ List.drop ((0 : Nat) + (0 : Nat) + n2 + min (List.length o2001) (n1 - (0 : Nat) + List.length (List.replicate q [Da.int IntKind.i64 (0 : Int)]) - n2)) (List.take ((0 : Nat) + (0 : Nat) + (n1 - (0 : Nat))) o2000 ++ List.replicate q [Da.int IntKind.i64 (0 : Int)] ++ List.drop ((0 : Nat) + (0 : Nat) + (n1 - (0 : Nat)) + List.length (List.replicate q [Da.int IntKind.i64 (0 : Int)])) o2000)) ++ List.take (min (List.length o2000 - n4) (n1 - (0 : Nat) + List.length (List.replicate q [Da.int IntKind.i64 (0 : Int)]) - n3)) (List.drop ((0 : Nat) + n4) (List.take ((0 : Nat) + (0 : Nat) + n2) (List.take ((0 : Nat) + (0 : Nat) + (n1 - (0 : Nat))) o2000 ++ List.replicate q [Da.int IntKind.i64 (0 : Int)] ++ List.drop ((0 : Nat) + (0 : Nat) + (n1 - (0 : Nat)) + List.length (List.replicate q [Da.int IntKind.i64 (0 : Int)])) o2000) ++ List.take (min (List.length o2001) (n1 - (0 : Nat) + List.length (List.replicate q [Da.int IntKind.i64 (0 : Int)]) - n2)) o2001 ++ List.drop ((0 : Nat) + (0 : Nat) + n2 + min (List.length o2001) (n1 - (0 : Nat) + List.length (List.replicate q [Da.int IntKind.i64 (0 : Int)]) - n2)) (List.take ((0 : Nat) + (0 : Nat) + (n1 - (0 : Nat))) o2000 ++ List.replicate q [Da.int IntKind.i64 (0 : Int)] ++ List.drop ((0 : Nat) + (0 : Nat) + (n1 - (0 : Nat)) + List.length (List.replicate q [Da.int IntKind.i64 (0 : Int)])) o2000))) ++ List.drop ((0 : Nat) + (0 : Nat) + n3 + min (List.length o2000 - n4) (n1 - (0 : Nat) + List.length (List.replicate q [Da.int IntKind.i64 (0 : Int)]) - n3)) (List.take ((0 : Nat) + (0 : Nat) + n2) (List.take ((0 : Nat) + (0 : Nat) + (n1 - (0 : Nat))) o2000 ++ List.replicate q [Da.int IntKind.i64 (0 : Int)] ++ List.drop ((0 : Nat) + (0 : Nat) + (n1 - (0 : Nat)) + List.length (List.replicate q [Da.int IntKind.i64 (0 : Int)])) o2000) ++ List.take (min (List.length o2001) (n1 - (0 : Nat) + List.length (List.replicate q [Da.int IntKind.i64 (0 : Int)]) - n2)) o2001 ++ List.drop ((0 : Nat) + (0 : Nat) + n2 + min (List.length o2001) (n1 - (0 : Nat) + List.length (List.replicate q [Da.int IntKind.i64 (0 : Int)]) - n2)) (List.take ((0 : Nat) + (0 : Nat) + (n1 - (0 : Nat))) o2000 ++ List.replicate q [Da.int IntKind.i64 (0 : Int)] ++ List.drop ((0 : Nat) + (0 : Nat) + (n1 - (0 : Nat)) + List.length (List.replicate q [Da.int IntKind.i64 (0 : Int)])) o2000))))))] = O)))))))))))))))
  ((∃ (n5 : Nat), (p = ((↑n5 : Int)) ∧ (Do (n5 ≤ List.length (List.take (n1 - (0 : Nat)) (List.drop ((0 : Nat) + (0 : Nat)) o2000) ++ List.replicate q [Da.int IntKind.i64 (0 : Int)]) ∧ List.length (List.take (n1 - (0 : Nat)) (List.drop ((0 : Nat) + (0 : Nat)) o2000) ++ List.replicate q [Da.int IntKind.i64 (0 : Int)]) ≤ List.length (List.take (n1 - (0 : Nat)) (List.drop ((0 : Nat) + (0 : Nat)) o2000) ++ List.replicate q [Da.int IntKind.i64 (0 : Int)])) ∧ (Do ((0 : Nat) + n5 + min (List.length o2001) (List.length (List.take (n1 - (0 : Nat)) (List.drop ((0 : Nat) + (0 : Nat)) o2000) ++ List.replicate q [Da.int IntKind.i64 (0 : Int)]) - n5) ≤ List.length (List.take (n1 - (0 : Nat)) (List.drop ((0 : Nat) + (0 : Nat)) o2000) ++ List.replicate q [Da.int IntKind.i64 (0 : Int)])) ∧ (∃ (n6 : Nat), ((IntKind.wrap IntKind.i64 (p + (↑(List.length o2001) : Int))) = ((↑n6 : Int)) ∧ (Do (n6 ≤ List.length (List.take ((0 : Nat) + n5) (List.take (n1 - (0 : Nat)) (List.drop ((0 : Nat) + (0 : Nat)) o2000) ++ List.replicate q [Da.int IntKind.i64 (0 : Int)]) ++ List.take (min (List.length o2001) (List.length (List.take (n1 - (0 : Nat)) (List.drop ((0 : Nat) + (0 : Nat)) o2000) ++ List.replicate q [Da.int IntKind.i64 (0 : Int)]) - n5)) o2001 ++ List.drop ((0 : Nat) + n5 + min (List.length o2001) (List.length (List.take (n1 - (0 : Nat)) (List.drop ((0 : Nat) + (0 : Nat)) o2000) ++ List.replicate q [Da.int IntKind.i64 (0 : Int)]) - n5)) (List.take (n1 - (0 : Nat)) (List.drop ((0 : Nat) + (0 : Nat)) o2000) ++ List.replicate q [Da.int IntKind.i64 (0 : Int)])) ∧ List.length (List.take ((0 : Nat) + n5) (List.take (n1 - (0 : Nat)) (List.drop ((0 : Nat) + (0 : Nat)) o2000) ++ List.replicate q [Da.int IntKind.i64 (0 : Int)]) ++ List.take (min (List.length o2001) (List.length (List.take (n1 - (0 : Nat)) (List.drop ((0 : Nat) + (0 : Nat)) o2000) ++ List.replicate q [Da.int IntKind.i64 (0 : Int)]) - n5)) o2001 ++ List.drop ((0 : Nat) + n5 + min (List.length o2001) (List.length (List.take (n1 - (0 : Nat)) (List.drop ((0 : Nat) + (0 : Nat)) o2000) ++ List.replicate q [Da.int IntKind.i64 (0 : Int)]) - n5)) (List.take (n1 - (0 : Nat)) (List.drop ((0 : Nat) + (0 : Nat)) o2000) ++ List.replicate q [Da.int IntKind.i64 (0 : Int)])) ≤ List.length (List.take ((0 : Nat) + n5) (List.take (n1 - (0 : Nat)) (List.drop ((0 : Nat) + (0 : Nat)) o2000) ++ List.replicate q [Da.int IntKind.i64 (0 : Int)]) ++ List.take (min (List.length o2001) (List.length (List.take (n1 - (0 : Nat)) (List.drop ((0 : Nat) + (0 : Nat)) o2000) ++ List.replicate q [Da.int IntKind.i64 (0 : Int)]) - n5)) o2001 ++ List.drop ((0 : Nat) + n5 + min (List.length o2001) (List.length (List.take (n1 - (0 : Nat)) (List.drop ((0 : Nat) + (0 : Nat)) o2000) ++ List.replicate q [Da.int IntKind.i64 (0 : Int)]) - n5)) (List.take (n1 - (0 : Nat)) (List.drop ((0 : Nat) + (0 : Nat)) o2000) ++ List.replicate q [Da.int IntKind.i64 (0 : Int)]))) ∧ (∃ (n7 : Nat), (p = ((↑n7 : Int)) ∧ (Do (n7 ≤ List.length o2000 ∧ (List.length o2000 ≤ List.length o2000 ∨ (0 : Nat) + List.length o2000 ≤ c)) ∧ (Do ((0 : Nat) + n7 + min (List.length o2000 - n7) (List.length (List.take ((0 : Nat) + n5) (List.take (n1 - (0 : Nat)) (List.drop ((0 : Nat) + (0 : Nat)) o2000) ++ List.replicate q [Da.int IntKind.i64 (0 : Int)]) ++ List.take (min (List.length o2001) (List.length (List.take (n1 - (0 : Nat)) (List.drop ((0 : Nat) + (0 : Nat)) o2000) ++ List.replicate q [Da.int IntKind.i64 (0 : Int)]) - n5)) o2001 ++ List.drop ((0 : Nat) + n5 + min (List.length o2001) (List.length (List.take (n1 - (0 : Nat)) (List.drop ((0 : Nat) + (0 : Nat)) o2000) ++ List.replicate q [Da.int IntKind.i64 (0 : Int)]) - n5)) (List.take (n1 - (0 : Nat)) (List.drop ((0 : Nat) + (0 : Nat)) o2000) ++ List.replicate q [Da.int IntKind.i64 (0 : Int)])) - n6) ≤ List.length o2000) ∧ (Do ((0 : Nat) + n6 + min (List.length o2000 - n7) (List.length (List.take ((0 : Nat) + n5) (List.take (n1 - (0 : Nat)) (List.drop ((0 : Nat) + (0 : Nat)) o2000) ++ List.replicate q [Da.int IntKind.i64 (0 : Int)]) ++ List.take (min (List.length o2001) (List.length (List.take (n1 - (0 : Nat)) (List.drop ((0 : Nat) + (0 : Nat)) o2000) ++ List.replicate q [Da.int IntKind.i64 (0 : Int)]) - n5)) o2001 ++ List.drop ((0 : Nat) + n5 + min (List.length o2001) (List.length (List.take (n1 - (0 : Nat)) (List.drop ((0 : Nat) + (0 : Nat)) o2000) ++ List.replicate q [Da.int IntKind.i64 (0 : Int)]) - n5)) (List.take (n1 - (0 : Nat)) (List.drop ((0 : Nat) + (0 : Nat)) o2000) ++ List.replicate q [Da.int IntKind.i64 (0 : Int)])) - n6) ≤ List.length (List.take ((0 : Nat) + n5) (List.take (n1 - (0 : Nat)) (List.drop ((0 : Nat) + (0 : Nat)) o2000) ++ List.replicate q [Da.int IntKind.i64 (0 : Int)]) ++ List.take (min (List.length o2001) (List.length (List.take (n1 - (0 : Nat)) (List.drop ((0 : Nat) + (0 : Nat)) o2000) ++ List.replicate q [Da.int IntKind.i64 (0 : Int)]) - n5)) o2001 ++ List.drop ((0 : Nat) + n5 + min (List.length o2001) (List.length (List.take (n1 - (0 : Nat)) (List.drop ((0 : Nat) + (0 : Nat)) o2000) ++ List.replicate q [Da.int IntKind.i64 (0 : Int)]) - n5)) (List.take (n1 - (0 : Nat)) (List.drop ((0 : Nat) + (0 : Nat)) o2000) ++ List.replicate q [Da.int IntKind.i64 (0 : Int)]))) ∧ ((.one (.ol 0)) = r ∧ [(2001, (.lst 3 1 o2001)), (0, (.lst 3 1 (List.take ((0 : Nat) + n6) (List.take ((0 : Nat) + n5) (List.take (n1 - (0 : Nat)) (List.drop ((0 : Nat) + (0 : Nat)) o2000) ++ List.replicate q [Da.int IntKind.i64 (0 : Int)]) ++ List.take (min (List.length o2001) (List.length (List.take (n1 - (0 : Nat)) (List.drop ((0 : Nat) + (0 : Nat)) o2000) ++ List.replicate q [Da.int IntKind.i64 (0 : Int)]) - n5)) o2001 ++ List.drop ((0 : Nat) + n5 + min (List.length o2001) (List.length (List.take (n1 - (0 : Nat)) (List.drop ((0 : Nat) + (0 : Nat)) o2000) ++ List.replicate q [Da.int IntKind.i64 (0 : Int)]) - n5)) (List.take (n1 - (0 : Nat)) (List.drop ((0 : Nat) + (0 : Nat)) o2000) ++ List.replicate q [Da.int IntKind.i64 (0 : Int)])) ++ List.take (min (List.length o2000 - n7) (List.length (List.take ((0 : Nat) + n5) (List.take (n1 - (0 : Nat)) (List.drop ((0 : Nat) + (0 : Nat)) o2000) ++ List.replicate q [Da.int IntKind.i64 (0 : Int)]) ++ List.take (min (List.length o2001) (List.length (List.take (n1 - (0 : Nat)) (List.drop ((0 : Nat) + (0 : Nat)) o2000) ++ List.replicate q [Da.int IntKind.i64 (0 : Int)]) - n5)) o2001 ++ List.drop ((0 : Nat) + n5 + min (List.length o2001) (List.length (List.take (n1 - (0 : Nat)) (List.drop ((0 : Nat) + (0 : Nat)) o2000) ++ List.replicate q [Da.int IntKind.i64 (0 : Int)]) - n5)) (List.take (n1 - (0 : Nat)) (List.drop ((0 : Nat) + (0 : Nat)) o2000) ++ List.replicate q [Da.int IntKind.i64 (0 : Int)])) - n6)) (List.drop ((0 : Nat) + n7) o2000) ++ List.drop ((0 : Nat) + n6 + min (List.length o2000 - n7) (List.length (List.take ((0 : Nat) + n5) (List.take (n1 - (0 : Nat)) (List.drop ((0 : Nat) + (0 : Nat)) o2000) ++ List.replicate q [Da.int IntKind.i64 (0 : Int)]) ++ List.take (min (List.length o2001) (List.length (List.take (n1 - (0 : Nat)) (List.drop ((0 : Nat) + (0 : Nat)) o2000) ++ List.replicate q [Da.int IntKind.i64 (0 : Int)]) - n5)) o2001 ++ List.drop ((0 : Nat) + n5 + min (List.length o2001) (List.length (List.take (n1 - (0 : Nat)) (List.drop ((0 : Nat) + (0 : Nat)) o2000) ++ List.replicate q [Da.int IntKind.i64 (0 : Int)]) - n5)) (List.take (n1 - (0 : Nat)) (List.drop ((0 : Nat) + (0 : Nat)) o2000) ++ List.replicate q [Da.int IntKind.i64 (0 : Int)])) - n6)) (List.take ((0 : Nat) + n5) (List.take (n1 - (0 : Nat)) (List.drop ((0 : Nat) + (0 : Nat)) o2000) ++ List.replicate q [Da.int IntKind.i64 (0 : Int)]) ++ List.take (min (List.length o2001) (List.length (List.take (n1 - (0 : Nat)) (List.drop ((0 : Nat) + (0 : Nat)) o2000) ++ List.replicate q [Da.int IntKind.i64 (0 : Int)]) - n5)) o2001 ++ List.drop ((0 : Nat) + n5 + min (List.length o2001) (List.length (List.take (n1 - (0 : Nat)) (List.drop ((0 : Nat) + (0 : Nat)) o2000) ++ List.replicate q [Da.int IntKind.i64 (0 : Int)]) - n5)) (List.take (n1 - (0 : Nat)) (List.drop ((0 : Nat) + (0 : Nat)) o2000) ++ List.replicate q [Da.int IntKind.i64 (0 : Int)])))))] = O)))))))))))))))))))))
  ((∃ (n8 : Nat), ((IntKind.wrap IntKind.i64 ((↑(List.length o2000) : Int) + (↑(List.length o2001) : Int))) = ((↑n8 : Int)) ∧ (Do ((0 : Nat) ≤ n8 ∧ (n8 ≤ List.length o2000 ∨ (0 : Nat) + n8 ≤ c)) ∧ (∃ (n9 : Nat), ((IntKind.wrap IntKind.i64 (p + (↑(List.length o2001) : Int))) = ((↑n9 : Int)) ∧ (Do (n9 ≤ n8 - (0 : Nat) ∧ (n8 - (0 : Nat) ≤ n8 - (0 : Nat) ∨ (0 : Nat) + (0 : Nat) + (n8 - (0 : Nat)) ≤ c)) ∧ (∃ (n10 : Nat), ((IntKind.wrap IntKind.i64 (p + (↑(List.length o2001) : Int))) = ((↑n10 : Int)) ∧ (Do (n10 ≤ n8 - (0 : Nat) ∧ (n8 - (0 : Nat) ≤ n8 - (0 : Nat) ∨ (0 : Nat) + (0 : Nat) + (n8 - (0 : Nat)) ≤ c)) ∧ (∃ (n11 : Nat), (p = ((↑n11 : Int)) ∧ (Do (n11 ≤ n8 - (0 : Nat) ∧ (n8 - (0 : Nat) ≤ n8 - (0 : Nat) ∨ (0 : Nat) + (0 : Nat) + (n8 - (0 : Nat)) ≤ c)) ∧ (Do ((0 : Nat) + (0 : Nat) + n11 + min (n8 - (0 : Nat) - n11) (n8 - (0 : Nat) - n10) ≤ List.length o2000) ∧ (Do ((0 : Nat) + (0 : Nat) + n10 ≤ List.length o2000 ∧ (0 : Nat) + (0 : Nat) + n10 + min (n8 - (0 : Nat) - n11) (n8 - (0 : Nat) - n10) ≤ (281474976710656 : Nat)) ∧ (∃ (n12 : Nat), (p = ((↑n12 : Int)) ∧ (Do (n12 ≤ n8 - (0 : Nat) ∧ (n8 - (0 : Nat) ≤ n8 - (0 : Nat) ∨ (0 : Nat) + (0 : Nat) + (n8 - (0 : Nat)) ≤ c)) ∧ (Do ((0 : Nat) + (0 : Nat) + n12 ≤ List.length (List.take ((0 : Nat) + (0 : Nat) + n10) o2000 ++ List.take (min (n8 - (0 : Nat) - n11) (n8 - (0 : Nat) - n10)) (List.drop ((0 : Nat) + (0 : Nat) + n11) o2000) ++ List.drop ((0 : Nat) + (0 : Nat) + n10 + min (n8 - (0 : Nat) - n11) (n8 - (0 : Nat) - n10)) o2000) ∧ (0 : Nat) + (0 : Nat) + n12 + min (List.length o2001) (n8 - (0 : Nat) - n12) ≤ (281474976710656 : Nat)) ∧ (Do (n8 - (0 : Nat) ≤ List.length (List.take ((0 : Nat) + (0 : Nat) + n12) (List.take ((0 : Nat) + (0 : Nat) + n10) o2000 ++ List.take (min (n8 - (0 : Nat) - n11) (n8 - (0 : Nat) - n10)) (List.drop ((0 : Nat) + (0 : Nat) + n11) o2000) ++ List.drop ((0 : Nat) + (0 : Nat) + n10 + min (n8 - (0 : Nat) - n11) (n8 - (0 : Nat) - n10)) o2000) ++ List.take (min (List.length o2001) (n8 - (0 : Nat) - n12)) o2001 ++ List.drop ((0 : Nat) + (0 : Nat) + n12 + min (List.length o2001) (n8 - (0 : Nat) - n12)) (List.take ((0 : Nat) + (0 : Nat) + n10) o2000 ++ List.take (min (n8 - (0 : Nat) - n11) (n8 - (0 : Nat) - n10)) (List.drop ((0 : Nat) + (0 : Nat) + n11) o2000) ++ List.drop ((0 : Nat) + (0 : Nat) + n10 + min (n8 - (0 : Nat) - n11) (n8 - (0 : Nat) - n10)) o2000))) ∧ ((.one (.ol 0)) = r ∧ [(2001, (.lst 3 1 o2001)), (0, (.lst 3 1 (List.take (n8 - (0 : Nat)) (List.take ((0 : Nat) + (0 : Nat) + n12) (List.take ((0 : Nat) + (0 : Nat) + n10) o2000 ++ List.take (min (n8 - (0 : Nat) - n11) (n8 - (0 : Nat) - n10)) (List.drop ((0 : Nat) + (0 : Nat) + n11) o2000) ++ List.drop ((0 : Nat) + (0 : Nat) + n10 + min (n8 - (0 : Nat) - n11) (n8 - (0 : Nat) - n10)) o2000) ++ List.take (min (List.length o2001) (n8 - (0 : Nat) - n12)) o2001 ++ List.drop ((0 : Nat) + (0 : Nat) + n12 + min (List.length o2001) (n8 - (0 : Nat) - n12)) (List.take ((0 : Nat) + (0 : Nat) + n10) o2000 ++ List.take (min (n8 - (0 : Nat) - n11) (n8 - (0 : Nat) - n10)) (List.drop ((0 : Nat) + (0 : Nat) + n11) o2000) ++ List.drop ((0 : Nat) + (0 : Nat) + n10 + min (n8 - (0 : Nat) - n11) (n8 - (0 : Nat) - n10)) o2000)))))] = O)))))))))))))))))))))))))))))) : XC Tryz.prog 217 [(.one (.ol 2000)), (Z p), (.one (.ol 2001))] [(2000, (.lst 3 1 o2000)), (2001, (.lst 3 1 o2001))] r O :=
  abFq (E := envA) (hs := T0q) (c := (a1q Tryz.f217)) (n := 95) (res := [.tmp 6]) (rs := .b 3 1) (ks := [(2000, (false)), (2001, (false))]) (dir := [2001]) abfq a4q [(2000, 1000), (2001, 2001)] [1000] (by kernel_rfl) rfl Tryz.func217 (by kernel_rfl) (by kernel_rfl) (by kernel_rfl) (by kernel_rfl) (a5q (by kernel_rfl) h)
def a3cq : a9q := ⟨[], []⟩
theorem a1Zq {x : ByteArray} {x1 : Int} {x2 : Bool} {o2000 : ByteArray} {r : AV} {O : List (Nat × Ob)} (h : ((B (decide (x = o2000))) = r ∧ [(2000, (.var [(.d (.str o2000))]))] = O)) : XC Tryz.prog 245 [(.dat [(.str x), (.int .i64 x1), (.bool x2)]), (.one (.op 2000 0))] [(2000, (.var [(.d (.str o2000))]))] r O :=
  b0q (E := env) (hs := a3cq) (c := (a1q Tryz.f245)) (n := 8) (res := [.tmp 3]) (rs := .c .b) (ks := [(2000, (true))]) (dir := [2000]) envOk a4q rfl Tryz.func245 (by kernel_rfl) (by kernel_rfl) (by kernel_rfl) (by kernel_rfl) (a5q (by kernel_rfl) h)
def N1q : a9q := ⟨[], []⟩
theorem M0q {s : List (List Da)} {v : Int} {r : AV} {O : List (Nat × Ob)} (h : (∃ (n : Int), (XC Tryz.prog 198 [(L s), (Z v)] [] (Z n) [] ∧ ((B (decide ((0 : Int) ≤ n))) = r ∧ [] = O)))) : XC Tryz.prog 183 [(L s), (Z v)] [] r O :=
  b0q (E := env) (hs := N1q) (c := (a1q Tryz.f183)) (n := 9) (res := [.tmp 4]) (rs := .c .b) (ks := []) (dir := []) envOk a4q rfl Tryz.func183 (by kernel_rfl) (by kernel_rfl) (by kernel_rfl) (by kernel_rfl) (a5q (by kernel_rfl) h)
def a1Yq : a9q := ⟨[], []⟩
theorem a0nq {x : Int} {o2000 : Int} {r : AV} {O : List (Nat × Ob)} (h : ((B (decide (o2000 < x))) = r ∧ [(2000, (.var [(.d (.int .i64 o2000))]))] = O)) : XC Tryz.prog 216 [(Z x), (.one (.op 2000 0))] [(2000, (.var [(.d (.int .i64 o2000))]))] r O :=
  b0q (E := env) (hs := a1Yq) (c := (a1q Tryz.f216)) (n := 7) (res := [.tmp 3]) (rs := .c .b) (ks := [(2000, (true))]) (dir := [2000]) envOk a4q rfl Tryz.func216 (by kernel_rfl) (by kernel_rfl) (by kernel_rfl) (by kernel_rfl) (a5q (by kernel_rfl) h)
def m2q : a9q := ⟨[(2, ⟨[0, 1, 7, 8], [], [], [], [], [], []⟩)], []⟩
def i8q (r : AV) (O : List (Nat × Ob)) (s : List (List Da)) (v : Int) (s7 : Int) (s8 : Int) : Prop := CL 19 Tryz.prog (d6q (a1q Tryz.f198) [1, 0, 1, 0, 0]) (b5q Tryz.prog env m2q 19 (a1q Tryz.f198) [1, 0, 1, 0, 0] (a6q env [.tmp 4] (.c (.i .i64)) [] [] r O) (b4q (a6q env [.tmp 4] (.c (.i .i64)) [] [] r O))).1 (b5q Tryz.prog env m2q 19 (a1q Tryz.f198) [1, 0, 1, 0, 0] (a6q env [.tmp 4] (.c (.i .i64)) [] [] r O) (b4q (a6q env [.tmp 4] (.c (.i .i64)) [] [] r O))).2 ⟨[(0, (L s)), (1, (Z v)), (7, (Z s7)), (8, (Z s8))], []⟩
theorem v0q {r : AV} {O : List (Nat × Ob)} {s : List (List Da)} {v : Int} {s7 : Int} {s8 : Int} (h : ifB (decide (s8 < s7))
  ((∃ (m : Nat), (s8 = ((↑m : Int)) ∧ (∃ (n : Int), ((s[m]?) = some [(.int .i64 n)] ∧ ifB (decide (v = n))
  (((Z s8) = r ∧ [] = O))
  (i8q r O s v s7 (IntKind.wrap IntKind.i64 (s8 + (1 : Int)))))))))
  (((Z ((-1 : Int))) = r ∧ [] = O))) : i8q r O s v s7 s8 := by
  unfold i8q
  refine c5q (E := env) (hs := m2q) envOk a4q ?_
  exact a5q (by kernel_rfl) h
theorem S8q {s : List (List Da)} {v : Int} {r : AV} {O : List (Nat × Ob)} (h : i8q r O s v ((↑(List.length s) : Int)) ((0 : Int))) : XC Tryz.prog 198 [(L s), (Z v)] [] r O :=
  b0q (E := env) (hs := m2q) (c := (a1q Tryz.f198)) (n := 19) (res := [.tmp 4]) (rs := .c (.i .i64)) (ks := []) (dir := []) envOk a4q rfl Tryz.func198 (by kernel_rfl) (by kernel_rfl) (by kernel_rfl) (by kernel_rfl) (a5q (by kernel_rfl) h)
end AM
end Go.Proofs.YtajcoogpmockiaaGreat
set_option linter.unusedSimpArgs false
set_option linter.unusedVariables false
namespace Go.Proofs.YtajcoogpmockiaaGreat
namespace AM
open Go
inductive Tm where
  | mk (f v : Int) (ks : List Tm)
mutual
def Tm.da : Tm → List Da
  | .mk f v ks => [.int .i64 f, .int .i64 v, .sl (Tm.das ks)]
def Tm.das : List Tm → List (List Da)
  | [] => []
  | t :: r => t.da :: Tm.das r
end
def Tm.f : Tm → Int | .mk f _ _ => f
def Tm.v : Tm → Int | .mk _ v _ => v
def Tm.ks : Tm → List Tm | .mk _ _ ks => ks
theorem Tm.das_map (l : List Tm) : Tm.das l = l.map Tm.da := by induction l <;> simp_all [Tm.das]
theorem Tm.da_len (t : Tm) : t.da.length = 3 := by cases t; rfl
theorem Tm.ind {p : Tm → Prop} (h : ∀ f v ks, (∀ t ∈ ks, p t) → p (.mk f v ks)) (t : Tm) : p t := by
  refine Tm.rec (motive_1 := p) (motive_2 := fun l => ∀ t ∈ l, p t) (fun f v ks ih => h f v ks ih) (by simp) (fun t l h1 h2 => ?_) t
  intro u hu
  rcases List.mem_cons.1 hu with rfl | hu
  · exact h1
  · exact h2 u hu
mutual
def Tm.cn : Tm → Nat
  | .mk _ _ ks => Tm.cns ks
def Tm.cns : List Tm → Nat
  | [] => 0
  | t :: r => 1 + t.cn + Tm.cns r
end
structure Li where
  p : Bool
  l : Tm
  r : Tm
def Li.da (x : Li) : List Da := .bool x.p :: (x.l.da ++ x.r.da)
structure Cl where
  ls : List Li
def Cl.da (x : Cl) : List Da := [.sl (x.ls.map Li.da)]
structure Sy where
  nm : ByteArray
  ar : Int
  ac : Bool
def Sy.da (x : Sy) : List Da := [.str x.nm, .int .i64 x.ar, .bool x.ac]
structure Bd where
  v : Int
  t : Tm
def Bd.da (x : Bd) : List Da := .int .i64 x.v :: x.t.da
structure Ru where
  l : Tm
  r : Tm
def Ru.da (x : Ru) : List Da := x.l.da ++ x.r.da
def In.da (n : Int) : List Da := [.int .i64 n]
structure Sp where
  kind : Int
  a : Int
  b : Int
  i : Int
  k : Int
  left : Bool
  side : Bool
  way : List Int
  ext : Bool
  sub : List Bd
  cl : Cl
def Sp.da (x : Sp) : List Da := [.int .i64 x.kind, .int .i64 x.a, .int .i64 x.b, .int .i64 x.i, .int .i64 x.k, .bool x.left, .bool x.side, .sl (x.way.map In.da), .bool x.ext, .sl (x.sub.map Bd.da), .sl (x.cl.ls.map Li.da)]
structure Wk where
  sig : List Sy
  input : List Cl
  log : List Sp
  active : List Int
  passive : List Int
  lost : Bool
def Wk.da (x : Wk) : List Da := [.sl (x.sig.map Sy.da), .sl (x.input.map Cl.da), .sl (x.log.map Sp.da), .sl (x.active.map In.da), .sl (x.passive.map In.da), .bool x.lost]
theorem Li.da_len (x : Li) : x.da.length = 7 := by obtain ⟨p, ⟨f, v, ks⟩, ⟨g, u, ls⟩⟩ := x; rfl
theorem Cl.da_len (x : Cl) : x.da.length = 1 := rfl
theorem Sy.da_len (x : Sy) : x.da.length = 3 := rfl
theorem Bd.da_len (x : Bd) : x.da.length = 4 := by obtain ⟨v, ⟨f, u, ks⟩⟩ := x; rfl
theorem Sp.da_len (x : Sp) : x.da.length = 11 := rfl
def cnL {α : Type} (cn : α → Nat) (l : List α) : Nat := l.length + (l.map cn).sum
def Li.cn (x : Li) : Nat := x.l.cn + x.r.cn
def Cl.cn (x : Cl) : Nat := cnL Li.cn x.ls
def Sy.cn (x : Sy) : Nat := x.nm.size
def Bd.cn (x : Bd) : Nat := x.t.cn
def Ru.cn (x : Ru) : Nat := x.l.cn + x.r.cn
def In.cn (n : Int) : Nat := 0
def Sp.cn (x : Sp) : Nat := x.way.length + cnL Bd.cn x.sub + x.cl.cn
def Wk.cn (x : Wk) : Nat := cnL Sy.cn x.sig + cnL Cl.cn x.input + cnL Sp.cn x.log + x.active.length + x.passive.length
theorem Tm.cns_cnL (l : List Tm) : Tm.cns l = cnL Tm.cn l := by
  induction l with
  | nil => rfl
  | cons t r ih => simp [Tm.cns, cnL, ih]; omega
theorem o3q {α : Type} {cn : α → Nat} {l : List α} {x : α} (h : x ∈ l) : cn x + l.length ≤ cnL cn l := by
  induction l with
  | nil => simp at h
  | cons y r ih =>
    rcases List.mem_cons.1 h with rfl | h
    · simp [cnL]; omega
    · have := ih h; simp [cnL] at this ⊢; omega
theorem j0q {α : Type} (cn : α → Nat) (l : List α) : l.length ≤ cnL cn l := by simp [cnL]
theorem d4q {α : Type} {l : List α} {i : Nat} (h : i < l.length) : ∃ x, l[i]? = some x := ⟨l[i], List.getElem?_eq_getElem h⟩
theorem f1q {α β : Type} {g : α → β} {l : List α} {i : Nat} {x : α} (h : l[i]? = some x) : (l.map g)[i]? = some (g x) := by simp [h]
theorem h6q {l : List Tm} {i : Nat} {x : Tm} (h : l[i]? = some x) : (Tm.das l)[i]? = some x.da := by rw [Tm.das_map]; simp [h]
theorem b6q (l : List Tm) : (Tm.das l).length = l.length := by rw [Tm.das_map]; simp
theorem wrI {x : Int} (h1 : -9223372036854775808 ≤ x) (h2 : x ≤ 9223372036854775807) : IntKind.wrap .i64 x = x := by
  rw [IntKind.wrap_i64]; omega
theorem wr1 {k n : Nat} (h : k < n) (hn : n ≤ 281474976710656) : IntKind.wrap .i64 ((k : Int) + 1) = ((k + 1 : Nat) : Int) := by
  rw [wrI (by omega) (by omega)]; omega
theorem f8q {p : Nat → Prop} (n : Nat) (h1 : p n) (h2 : ∀ i, i < n → p (i + 1) → p i) : ∀ i, i ≤ n → p i := by
  intro i hi
  induction hd : n - i generalizing i with
  | zero => have : i = n := by omega
            subst this; exact h1
  | succ d ih => exact h2 i (by omega) (ih (i + 1) (by omega) (by omega))
theorem c7q {i n : Nat} (h : i < n) : decide ((i : Int) < (n : Int)) = true := by simp; exact h
theorem c1q {i n : Nat} (h : n ≤ i) : decide ((i : Int) < (n : Int)) = false := by simp; exact h
theorem G9q {i : Int} : decide (i ≠ i) = false := by simp
theorem a6hq {i : Bool} : decide (i ≠ i) = false := by simp
theorem aa2q {i : ByteArray} : decide (i ≠ i) = false := by simp
section
variable {P : Program} {f : FuncId} {xs : List AV} {I : List (Nat × Ob)} {r : AV} {O : List (Nat × Ob)}
theorem i4q (h : Fits xs → XC P f xs I r O) : XC P f xs I r O := ⟨fun w S β vs hlt hr hin => (h ⟨w, S, β, vs, hr⟩).h w S β vs hlt hr hin⟩
theorem XC.acall (h : XC P f xs [] r []) : ACall P f xs r [] := XCall.plain h.h
end
def lft (n : Nat) (l : Int) : Int := if l < n then -1 else l - n
theorem a1rq {n : Nat} {l : Int} (h : -1 ≤ l) : -1 ≤ lft n l ∧ lft n l ≤ l := by unfold lft; split <;> omega
theorem a2Tq {n : Nat} {l : Int} (h : lft n l < 0) (hl : 0 ≤ l) : lft n l = -1 := by unfold lft at h ⊢; split at h <;> split <;> omega
theorem M8q {m n : Nat} {l : Int} (h : 0 ≤ lft m l) : lft n (lft m l) = lft (m + n) l := by
  unfold lft at h ⊢
  split at h
  · omega
  · rename_i h1
    rw [if_neg h1]
    split <;> split <;> omega
theorem a8iq {n : Nat} {l : Int} (h : 0 ≤ lft n l) : (n : Int) ≤ l ∧ lft n l = l - n := by unfold lft at h ⊢; split at h <;> split <;> omega
end AM
end Go.Proofs.YtajcoogpmockiaaGreat
set_option linter.unusedSimpArgs false
set_option linter.unusedVariables false
namespace Go.Proofs.YtajcoogpmockiaaGreat
namespace AM
open Go Go.ChangeShapes Go.WideShapes Go.RowKit
def B7q (T : TypeId → List Da → Prop) : List TypeId → List Da → Prop
  | [], ds => ds = []
  | t :: ts, ds => ∃ d r, ds = d ++ r ∧ T t d ∧ B7q T ts r
def c6q (P : Program) : Nat → TypeId → List Da → Prop
  | 0, _, _ => False
  | n + 1, t, ds => match P.underlying t with
    | some .bool => ∃ b, ds = [.bool b]
    | some (.int k) => ∃ m, ds = [.int k m] ∧ (Lit.int k m).wf = true
    | some .string => ∃ s, ds = [.str s]
    | some (.slice e) => ∃ xs, ds = [.sl xs] ∧ ∀ x ∈ xs, c6q P n e x
    | some (.struct fs) => B7q (c6q P n) (fs.toList.map (·.type)) ds
    | _ => False
def U8q (P : Program) : List Field → Nat → Nat → Bool
  | [], off, n => off == n
  | f :: r, off, n => f.offset == off && U8q P r (off + P.cellsOf f.type) n
def O0q (P : Program) (ts : List TypeId) : Bool := ts.all fun t => match P.underlying t with
  | some .bool => true
  | some (.int _) => true
  | some .string => true
  | some (.slice e) => ts.contains e && decide (0 < P.cellsOf e) && decide (0 < P.bytesOf e)
  | some (.struct fs) => U8q P fs.toList 0 (P.cellsOf t) && fs.toList.all fun f => ts.contains f.type
  | _ => false
theorem Z7q {H : Type} {P : Program} {e : TypeId} : ∀ {l : List (DataW H)} {d : DataW H}, d ∈ l → ∀ n ∈ d.weights P e, n ∈ DataW.weightsAll P e l
  | a :: l, d, hd, n, hn => by
    simp only [DataW.weightsAll, List.mem_append]
    rcases List.mem_cons.1 hd with rfl | hd
    · exact .inl hn
    · exact .inr (Z7q hd n hn)
section
variable {H : Type} {enc : TypeId × Value → H} {P : Program} {w : World} {held : Bool} {ts : List TypeId}
theorem a93q (b off i : Nat) : (⟨b, off, none⟩ : Addr).add i = ⟨b, off + i, none⟩ := by unfold Addr.add; split <;> simp_all
theorem Z5q {n : Nat} (ih : ∀ t cs x, t ∈ ts → DataW.trod enc P w 0 (fun _ => true) held n t cs = some x → (∀ m ∈ x.1.weights P t, m ≤ reachBytes) → ∃ ds, c6q P n t ds ∧ RepDs w (· < w.heap.size) ds cs) :
    ∀ (fs : List Field) (off total : Nat) (cs : List Value) (xs : List (DataW H × List MemPlace)), U8q P fs off total = true → (fs.all fun f => ts.contains f.type) = true → cs.length = total → off ≤ total → xs.length = fs.length →
      (∀ (i : Nat) (f : Field), fs[i]? = some f → DataW.trod enc P w 0 (fun _ => true) held n f.type ((cs.drop f.offset).take (P.cellsOf f.type)) = xs[i]?) →
      (∀ m ∈ DataW.weightsEach P (fs.map (·.type)) (xs.map (·.1)), m ≤ reachBytes) →
      ∃ ds, B7q (c6q P n) (fs.map (·.type)) ds ∧ RepDs w (· < w.heap.size) ds (cs.drop off)
  | [], off, total, cs, xs, hl, _, hc, _, _, _, _ => by
    simp only [U8q, beq_iff_eq] at hl
    refine ⟨[], rfl, ?_⟩
    rw [List.drop_eq_nil_of_le (by omega)]
    exact .nil
  | f :: r, off, total, cs, [], hl, _, hc, _, hx, _, _ => by simp at hx
  | f :: r, off, total, cs, x :: xs, hl, ht, hc, ho, hx, hr, hw => by
    simp only [U8q, Bool.and_eq_true, beq_iff_eq] at hl
    obtain ⟨hl1, hl2⟩ := hl
    simp only [List.all_cons, Bool.and_eq_true] at ht
    have h0 := hr 0 f rfl
    simp only [List.getElem?_cons_zero] at h0
    simp only [List.map_cons, DataW.weightsEach, List.mem_append] at hw
    obtain ⟨d, hd1, hd2⟩ := ih f.type _ x (by simpa using ht.1) h0 fun m hm => hw m (.inl hm)
    have hle : off + P.cellsOf f.type ≤ total := by
      have key : ∀ (l : List Field) (o : Nat), U8q P l o total = true → o ≤ total := by
        intro l
        induction l with
        | nil => intro o h; simp only [U8q, beq_iff_eq] at h; omega
        | cons g l ih2 => intro o h; simp only [U8q, Bool.and_eq_true, beq_iff_eq] at h; have := ih2 _ h.2; omega
      exact key _ _ hl2
    obtain ⟨ds, hs1, hs2⟩ := Z5q ih r (off + P.cellsOf f.type) total cs xs hl2 ht.2 hc hle (by simpa using hx) (fun i g hg => by simpa using hr (i + 1) g (by simpa using hg)) fun m hm => hw m (.inr hm)
    refine ⟨d ++ ds, ⟨d, ds, rfl, hd1, hs1⟩, ?_⟩
    have e : cs.drop off = (cs.drop off).take (P.cellsOf f.type) ++ cs.drop (off + P.cellsOf f.type) := by
      rw [← List.drop_drop, List.take_append_drop]
    rw [e]
    rw [hl1] at hd2
    exact hd2.app hs2
theorem a6Qq {n C : Nat} {e : TypeId} {a : Addr} (hC : C = P.cellsOf e) (hpos : 0 < C) (ih : ∀ cs x, DataW.trod enc P w 0 (fun _ => true) held n e cs = some x → (∀ m ∈ x.1.weights P e, m ≤ reachBytes) → ∃ ds, c6q P n e ds ∧ RepDs w (· < w.heap.size) ds cs) (elems : List (DataW H × List MemPlace)) :
    ∀ (k : Nat), k ≤ elems.length → (∀ i, i < k → (w.cells? 0 (a.add (i * C)) C).bind (DataW.trod enc P w 0 (fun _ => true) held n e) = elems[i]?) → (∀ i x, i < k → elems[i]? = some x → ∀ m ∈ x.1.weights P e, m ≤ reachBytes) →
      ∃ (xs : List (List Da)) (us : List Value), xs.length = k ∧ us.length = k * C ∧ RepDs w (· < w.heap.size) xs.flatten us ∧ (∀ x ∈ xs, c6q P n e x ∧ x.length = C) ∧ ∀ i u, us[i]? = some u → w.cell? (a.add i) = some u := by
  intro k
  induction k with
  | zero => intro _ _ _; exact ⟨[], [], rfl, by simp, .nil, by simp, by simp⟩
  | succ k ihk =>
    intro hk hel hw
    obtain ⟨xs, us, h1, h2, h3, h4, h5⟩ := ihk (by omega) (fun i hi => hel i (by omega)) fun i x hi => hw i x (by omega)
    have hx := hel k (by omega)
    rw [List.getElem?_eq_getElem (by omega)] at hx
    simp only [Option.bind_eq_some_iff] at hx
    obtain ⟨cs, hc, hr⟩ := hx
    obtain ⟨d, hd1, hd2⟩ := ih cs _ hr (hw k _ (by omega) (List.getElem?_eq_getElem (by omega)))
    obtain ⟨_, hcl, hcell⟩ := World.cells?_some hc
    have hdl := hd2.len
    refine ⟨xs ++ [d], us ++ cs, by simp [h1], by simp [h2, hcl, Nat.add_mul], by simpa using h3.app hd2, fun x hx => ?_, fun i u hu => ?_⟩
    · rcases List.mem_append.1 hx with hx | hx
      · exact h4 x hx
      · simp only [List.mem_singleton] at hx; subst hx; exact ⟨hd1, by omega⟩
    · by_cases hi : i < us.length
      · rw [List.getElem?_append_left hi] at hu; exact h5 i u hu
      · rw [List.getElem?_append_right (by omega)] at hu
        have hj : i - us.length < C := by rw [← hcl]; exact (List.getElem?_eq_some_iff.1 hu).1
        have := hcell (i - us.length) hj
        rw [Go.Deep.add_add, show k * C + (i - us.length) = i by omega, hu] at this
        exact this
theorem aa3q (hcl : O0q P ts = true) : ∀ (fuel : Nat) t cs x, t ∈ ts → DataW.trod enc P w 0 (fun _ => true) held fuel t cs = some x → (∀ m ∈ x.1.weights P t, m ≤ reachBytes) → ∃ ds, c6q P fuel t ds ∧ RepDs w (· < w.heap.size) ds cs := by
  intro fuel
  induction fuel with
  | zero => intro t cs x _ h; simp [DataW.trod] at h
  | succ n ih =>
    intro t cs x ht h hw
    have hc := List.all_eq_true.1 hcl t ht
    simp only [c6q]
    split at hc
    · rename_i hu
      obtain ⟨b, rfl, rfl⟩ := DataW.trod_bool hu h
      exact ⟨_, ⟨b, rfl⟩, .bool_ b⟩
    · rename_i hu
      obtain ⟨m, rfl, rfl, hwf⟩ := DataW.trod_int hu h
      exact ⟨_, ⟨m, rfl, hwf⟩, .int_ _ m⟩
    · rename_i hu
      obtain ⟨s, rfl, rfl, hs⟩ := DataW.trod_string hu h
      have := hw s.data.toList.length (by simp [DataW.weights])
      refine ⟨_, ⟨s, rfl⟩, .str_ s ?_⟩
      have h2 : s.data.toList.length = s.size := by rw [Array.length_toList]; rfl
      have := reachBytes_lt
      omega
    · rename_i e hu
      simp only [Bool.and_eq_true, decide_eq_true_eq, List.contains_iff_mem] at hc
      obtain ⟨⟨he, hpos⟩, hb⟩ := hc
      rcases DataW.trod_slice hu h with ⟨rfl, rfl⟩ | ⟨a, len, cap, elems, rest, n', hn, rfl, rfl, _, hle, hcap, hlen, hel, hsp, _⟩
      · exact ⟨[.sl []], ⟨[], rfl, by simp⟩, [], .sl0 rfl rfl (Nat.zero_le _) (Nat.zero_le _) .nil, by simp⟩
      · obtain rfl : n' = n := by omega
        obtain ⟨hr, _⟩ := hsp rfl
        simp only [DataW.weights, hu, List.mem_cons, List.mem_append] at hw
        obtain ⟨xs, us, h1, h2, h3, h4, h5⟩ := a6Qq (a := a) rfl hpos (fun cs x => ih e cs x he) elems len (by omega) hel fun i x hi hx m hm => hw m (.inr (.inl (Z7q (List.mem_map.2 ⟨x, List.mem_of_getElem? hx, rfl⟩) m hm)))
        have hsm : len ≤ 281474976710656 := by
          have := hw _ (.inl rfl)
          have h47 := reachBytes_lt
          simp only [List.length_map] at this
          have : len * 1 ≤ (elems.length + rest.length) * P.bytesOf e := Nat.mul_le_mul (by omega) hb
          omega
        refine ⟨[.sl xs], ⟨xs, rfl, fun x hx => (h4 x hx).1⟩, ?_⟩
        by_cases h0 : len = 0
        · subst h0
          have : xs = [] := List.length_eq_zero_iff.1 h1
          subst this
          exact ⟨[], .sl0 rfl rfl hle hsm .nil, by simp⟩
        · have hus : 0 < us.length := by rw [h2]; exact Nat.mul_pos (by omega) hpos
          have hc0 := h5 0 _ (List.getElem?_eq_getElem hus)
          obtain ⟨b, off, spot⟩ := a
          have hb2 : spot = none ∧ b < w.heap.size := by
            simp only [Addr.add, if_true, World.cell?] at hc0
            split at hc0
            · rename_i hh
              split at hc0
              · simp at hc0
              · rename_i hs
                refine ⟨by cases spot <;> simp_all, ?_⟩
                exact (Array.getElem?_eq_some_iff.1 hh).1
            · simp at hc0
          obtain ⟨rfl, hb3⟩ := hb2
          obtain ⟨fi, hfi, hS⟩ := h3
          refine ⟨b :: (fi ++ []), .sl1 hfi h1.symm hle hsm (fun y hy => (h4 y hy).2) (fun i u hu => ?_) hb3 .nil, fun b' hb' => ?_⟩
          · have := h5 i u hu; rwa [a93q] at this
          · simp only [List.append_nil, List.mem_cons] at hb'
            rcases hb' with rfl | hb'
            · exact hb3
            · exact hS b' hb'
    · rename_i fs hu
      simp only [Bool.and_eq_true] at hc
      obtain ⟨xs, n', hn, rfl, hcs, hxl, hf⟩ := DataW.trod_struct hu h
      obtain rfl : n' = n := by omega
      obtain ⟨ds, h1, h2⟩ := Z5q ih fs.toList 0 (P.cellsOf t) cs xs hc.1 hc.2 hcs (Nat.zero_le _) (by simpa using hxl) (fun i f hi => hf i f (by simpa using hi)) (by simpa [DataW.weights, hu] using hw)
      exact ⟨ds, h1, by simpa using h2⟩
    · simp at hc
end
end AM
end Go.Proofs.YtajcoogpmockiaaGreat
set_option linter.unusedSimpArgs false
set_option linter.unusedVariables false
namespace Go.Proofs.YtajcoogpmockiaaGreat
namespace AM
open Go Go.ChangeShapes Go.WideShapes Go.RowKit
def X1q (P : Program) (t : TypeId) (x : AV) : Prop := match P.underlying t with
  | some (.struct _) => ∃ n ds, x = .dat ds ∧ c6q P n t ds
  | _ => ∃ n d, x = .one (.d d) ∧ c6q P n t [d]
def a1mq (P : Program) : List TypeId → List AV → Prop
  | [], [] => True
  | t :: ts, x :: xs => X1q P t x ∧ a1mq P ts xs
  | _, _ => False
theorem a6Vq {P : Program} {w : World} {base : Nat} {t : TypeId} {v : Value} (hc : O0q P [t] = true ∨ True) (hs : (∀ fs, P.underlying t ≠ some (.struct fs)) ∧ (P.underlying t = some .bool ∨ (∃ k, P.underlying t = some (.int k)) ∨ P.underlying t = some .string ∨ ∃ e, P.underlying t = some (.slice e))) (h : Value.okWide P w .any base t v) : v.cells = #[v] := by
  obtain ⟨_, hu | ⟨k, hu⟩ | hu | ⟨e, hu⟩⟩ := hs <;> simp only [Value.okWide, hu, Cell.okWide, Cell.ok] at h <;> cases v <;> simp_all [Value.cells]
section
variable {H : Type} {enc : TypeId × Value → H} {P : Program} {w : World} {ts : List TypeId} {β : Nat → OLoc}
theorem a8Zq (hcl : O0q P ts = true) {t : TypeId} {v : Value} {d : DataW H} {p : List MemPlace} (ht : t ∈ ts) {base : Nat} (hv : Value.okWide P w .any base t v) (h : DataW.Trod enc P w 0 (fun _ => true) true t v d p) (hw : ∀ m ∈ d.weights P t, m ≤ reachBytes) :
    ∃ x, X1q P t x ∧ RepV w (· < w.heap.size) β x v := by
  obtain ⟨fuel, hf⟩ := h
  obtain ⟨ds, h1, h2⟩ := aa3q hcl fuel t _ _ ht hf hw
  have hc := List.all_eq_true.1 hcl t ht
  split at hc
  all_goals try (simp at hc; done)
  case h_5 fs hu =>
    obtain ⟨cs, rfl, _⟩ := okWide_struct hu hv
    refine ⟨.dat ds, by unfold X1q; rw [hu]; exact ⟨_, _, rfl, h1⟩, ?_⟩
    have : RepV w (· < w.heap.size) β (.dat ds) (.agg cs.toList.toArray) := .dat (by simpa [Value.cells] using h2) .nil
    simpa using this
  all_goals
    rename_i hu
    have hcell := a6Vq (.inr trivial) ⟨by intro fs; rw [hu]; simp, by rw [hu]; simp⟩ hv
    rw [hcell] at h2
    have hl := h2.len
    match ds, hl with
    | [d0], _ => exact ⟨.one (.d d0), by unfold X1q; rw [hu]; exact ⟨_, _, rfl, h1⟩, .one (.d h2)⟩
theorem a3lq (hcl : O0q P ts = true) {base : Nat} : ∀ (us : List TypeId) (vs : List Value) (ds : List (DataW H)) (p : List MemPlace), (∀ t ∈ us, t ∈ ts) → (∀ (j : Nat) t v, us[j]? = some t → vs[j]? = some v → Value.okWide P w .any base t v) →
    DataW.TrodAll enc P w 0 (fun _ => true) true us vs ds p → (∀ m ∈ DataW.weightsEach P us ds, m ≤ reachBytes) → ∃ xs, a1mq P us xs ∧ RepVs w (· < w.heap.size) β xs vs
  | [], [], [], p, _, _, _, _ => ⟨[], trivial, .nil⟩
  | [], [], _ :: _, _, _, _, h, _ => by simp [DataW.TrodAll] at h
  | [], _ :: _, _, _, _, _, h, _ => by simp [DataW.TrodAll] at h
  | _ :: _, [], _, _, _, _, h, _ => by simp [DataW.TrodAll] at h
  | _ :: _, _ :: _, [], _, _, _, h, _ => by simp [DataW.TrodAll] at h
  | t :: us, v :: vs, d :: ds, p, hts, hv, h, hw => by
    obtain ⟨p1, q1, h1, h2, rfl⟩ := h
    simp only [DataW.weightsEach, List.mem_append] at hw
    obtain ⟨x, hx, hr⟩ := a8Zq (β := β) hcl (hts t (by simp)) (hv 0 t v rfl rfl) h1 fun m hm => hw m (.inl hm)
    obtain ⟨xs, hxs, hrs⟩ := a3lq hcl us vs ds q1 (fun t ht => hts t (by simp [ht])) (fun j t v h1 h2 => hv (j + 1) t v (by simpa using h1) (by simpa using h2)) h2 fun m hm => hw m (.inr hm)
    exact ⟨x :: xs, ⟨hx, hxs⟩, hr.cons hrs⟩
theorem R6q (hl : laidOutB P = true) {W W' : World} {sp : Nat → Bool} : ∀ (us : List TypeId) (vs : List Value) (ds : List (DataW H)) (p : List MemPlace), (∀ t ∈ us, P.readableRec t = true ∧ t < P.types.size) → (∀ x ∈ p, W.sameAt W' x ∧ sp x.block = true) →
    DataW.TrodAll enc P W 0 (fun _ => true) true us vs ds p → DataW.TrodAll enc P W' 0 sp true us vs ds p
  | [], [], [], p, _, _, h => h
  | [], [], _ :: _, _, _, _, h => by simp [DataW.TrodAll] at h
  | [], _ :: _, _, _, _, _, h => by simp [DataW.TrodAll] at h
  | _ :: _, [], _, _, _, _, h => by simp [DataW.TrodAll] at h
  | _ :: _, _ :: _, [], _, _, _, h => by simp [DataW.TrodAll] at h
  | t :: us, v :: vs, d :: ds, p, hts, hp, h => by
    obtain ⟨p1, q1, h1, h2, rfl⟩ := h
    have ht := hts t (by simp)
    exact ⟨p1, q1, WideElems.Trod_stays hl ht.1 ht.2 h1 (fun x hx => (hp x (by simp [hx])).1) (fun x hx => (hp x (by simp [hx])).2), R6q hl us vs ds q1 (fun t ht => hts t (by simp [ht])) (fun x hx => hp x (by simp [hx])) h2, rfl⟩
end
section
variable {H : Type} {enc : TypeId × Value → H} {P : Program}
theorem a3Bq {f : Func} {s : ChangeSpec} {apart fresh handsOn again : Bool} {W W' : World} {args : Array Value} {v : Value} {ds gs : List (DataW H)} {before pa pv : List MemPlace}
    (hW : DataW.Whole enc P f.params.toList s.vars apart W args.toList ds gs before)
    (hres : ∀ (b : Nat) (sp : Nat → Bool) (hd : Bool), DataW.TrodAll enc P W' b sp hd f.resultTypes.toList (v.resultList f.resultTypes.size) (s.fn H (ds ++ gs)).results [])
    (hargs : ∀ sp : Nat → Bool, (∀ p ∈ before, sp p.block = true) → DataW.TrodAll enc P W' 0 sp true f.params.toList args.toList (s.fn H (ds ++ gs)).args pa)
    (hvars : ∀ sp : Nat → Bool, (∀ p ∈ before, sp p.block = true) → DataW.TrodVars enc P W' sp s.vars (s.fn H (ds ++ gs)).vars pv)
    (hps : before = pa ++ pv) (hb : Below W.heap.size W W')
    (hok : ∀ (j : Nat) (t : TypeId) (r : Value), f.resultTypes[j]? = some t → (v.resultList f.resultTypes.size)[j]? = some r → Value.okWide P W' .any 0 t r) :
    s.post enc P f apart fresh handsOn again W args v W' := by
  have hlt : ∀ p ∈ before, p.block < W.heap.size := fun p hp => hW.lt p hp
  have hold : ∀ p ∈ before, (fun b => decide (b < W.heap.size)) p.block = true := fun p hp => by simpa using hlt p hp
  refine ⟨ds, gs, before, [], pa, pv, hW, hres _ _ _, hargs _ hold, hvars _ hold, World.keptBut_mono (fun p hp => ⟨hp, ?_⟩) (hb.frame (· ∈ before)), fun _ => ?_⟩
  · rw [hps, List.mem_append] at hp
    exact Or.inr hp
  · obtain ⟨_, _, _, _, _, hz, hn⟩ := hW
    refine ⟨hok, _, _, ([] ++ pa) ++ pv, ⟨[] ++ pa, pv, trodAll_append (hargs _ (fun _ _ => rfl)) (hres _ _ _), hvars _ (fun _ _ => rfl), rfl, ?_, ?_⟩, ?_⟩
    · intro b off hp
      have hin : MemPlace.cell b off ∈ before := by rw [hps]; simpa using hp
      rw [hb.frozen (hlt _ hin)]
      exact hz b off hin
    · intro ha
      have := hn ha
      rw [hps] at this
      simpa using this
    · intro p hp _
      rw [hps]
      simpa using hp
end
theorem a6Aq {H : Type} {enc : TypeId × Value → H} {a : Assume} {C : Checked} {os : Os} {f : FuncId} {fn : Func} {s : ChangeSpec} {apart fresh handsOn again : Bool} {tb : TypeId} (ts : List TypeId)
    (own : ownKnob C.prog.godebug = none) (started : os.Started) (noInit : C.prog.inits.idxOf? f = none) (hfn : C.prog.funcs[f]? = some fn)
    (witness : ∃ (w : World) (tape : Tape) (i : Input), w.os = os ∧ (w.forCall tape i).Shaped C.prog ∧ i.vars = [] ∧ Input.okWide C.prog (w.forCall tape i) .any w.heap.size f i ∧
      s.pre6 enc C.prog fn [] apart (w.forCall tape i).memory i.args ∧ a.holds C.prog (lone (Frame.enter C.prog f i.args .normal) [] (w.forCall tape i)))
    (hl : laidOutB C.prog = true) (hcl : O0q C.prog ts = true) (hpar : (fn.params.toList.all fun t => C.prog.readableRec t && decide (t < C.prog.types.size) && ts.contains t) = true)
    (hvars : s.vars = []) (hres : fn.resultTypes = #[tb]) (hb : C.prog.underlying tb = some .bool)
    (hs : ∀ ds : List (DataW H), ds.length = fn.params.toList.length → (s.fn H ds).results = [.lit (.bool true)] ∧ (s.fn H ds).args = ds ∧ (s.fn H ds).vars = [])
    (hcall : ∀ xs, a1mq C.prog fn.params.toList xs → ACall C.prog f xs (B true) []) :
    ReturnsInHanded a C os f .any (s.pre6 enc C.prog fn [] apart) (s.post enc C.prog fn apart fresh handsOn again) := by
  refine returnsInHanded_of_change_sized own started noInit hfn witness ?_
  intro W base args ds gs before hval hW _ hsz _
  have hW' := hW
  obtain ⟨p, q, hA, hV, rfl, hfz, hnd⟩ := hW
  rw [hvars] at hV
  obtain ⟨rfl, rfl⟩ := trodVars_none hV
  have hpar' := fun t ht => List.all_eq_true.1 hpar t ht
  simp only [Bool.and_eq_true, decide_eq_true_eq, List.contains_iff_mem] at hpar'
  have hplain : s.plain.varTypes C.prog = [] := by
    have : s.plain.vars = [] := by unfold ChangeSpec.plain; simpa using hvars
    simp [DataSpec.varTypes, this]
  rw [hplain, List.append_nil, List.append_nil] at hsz
  have hlen : ds.length = fn.params.toList.length := by
    have : ∀ (us : List TypeId) (vs : List Value) (ds : List (DataW H)) (p : List MemPlace), DataW.TrodAll enc C.prog W 0 (fun _ => true) true us vs ds p → ds.length = us.length := by
      intro us
      induction us with
      | nil => intro vs ds p h; cases vs <;> cases ds <;> simp [DataW.TrodAll] at h ⊢
      | cons t us ih => intro vs ds p h; cases vs <;> cases ds <;> simp [DataW.TrodAll] at h ⊢; obtain ⟨_, _, q, h2, _⟩ := h; exact ih _ _ _ h2
    exact this _ _ _ _ hA
  obtain ⟨xs, hxs, hrep⟩ := a3lq (β := fun _ => ⟨0, none, 0, 0, false, [], []⟩) hcl fn.params.toList args.toList ds p (fun t ht => (hpar' t ht).2) (fun j t v h1 h2 => hval j t v (by simpa using h1) (by simpa using h2)) hA (by simpa using hsz)
  have hc := hcall xs hxs W (· < W.heap.size) (fun _ => ⟨0, none, 0, 0, false, [], []⟩) args.toList (fun b hb => hb) hrep
  obtain ⟨s1, s2, s3⟩ := hs (ds ++ []) (by simpa using hlen)
  have hc' : Calls C.prog f args W fun e w' => ∃ v S' β', e = .returned v ∧ Grow W (· < W.heap.size) (fun _ => ⟨0, none, 0, 0, false, [], []⟩) [] w' S' β' ∧ RepV w' S' β' (B true) v := by simpa using hc
  refine hc'.mono fun e W' ⟨v, S', β', he, hg, hv⟩ => ?_
  obtain rfl := hv.bool_inv
  have hbel : Below W.heap.size W W' := ⟨hg.os, hg.tape, hg.output, hg.size, hg.block⟩
  have hlt : ∀ x ∈ p, x.block < W.heap.size := fun x hx => hW'.lt x (by simpa using hx)
  refine ⟨_, he, a3Bq (pa := p) (pv := []) hW' (fun b sp hd => ?_) (fun sp hsp => ?_) (fun sp _ => ?_) rfl hbel ?_⟩
  · rw [s1, hres]
    exact trodAll_mk1 (shut_bool hb true)
  · rw [s2, List.append_nil]
    exact R6q hl _ _ _ _ (fun t ht => (hpar' t ht).1) (fun x hx => ⟨hbel.same (hlt x hx), hsp x (by simpa using hx)⟩) hA
  · rw [s3, hvars]; rfl
  · exact ok_one hres rfl (okWide_bool_mk hb true)
end AM
end Go.Proofs.YtajcoogpmockiaaGreat
set_option linter.unusedVariables false
set_option linter.unusedSimpArgs false
set_option maxRecDepth 100000
namespace Go.Proofs.YtajcoogpmockiaaGreat
namespace AM
open Go Go.ChangeShapes Go.WideShapes Go.RowKit
theorem own : ownKnob Tryz.prog.godebug = none := by kernel_rfl
theorem a9Rq : laidOutB Tryz.prog = true := by kernel_rfl
def i64 (n : Int) : Prop := -9223372036854775808 ≤ n ∧ n ≤ 9223372036854775807
mutual
def Tm.ok : Tm → Prop
  | .mk f v ks => i64 f ∧ i64 v ∧ Tm.oks ks
def Tm.oks : List Tm → Prop
  | [] => True
  | t :: r => t.ok ∧ Tm.oks r
end
theorem Tm.oks_iff : ∀ {l : List Tm}, Tm.oks l ↔ ∀ t ∈ l, t.ok
  | [] => by simp [Tm.oks]
  | t :: r => by simp [Tm.oks, Tm.oks_iff (l := r)]
def Li.ok (x : Li) : Prop := x.l.ok ∧ x.r.ok
def Cl.ok (x : Cl) : Prop := ∀ y ∈ x.ls, y.ok
def Sy.ok (x : Sy) : Prop := i64 x.ar
def Bd.ok (x : Bd) : Prop := i64 x.v ∧ x.t.ok
def Ru.ok (x : Ru) : Prop := x.l.ok ∧ x.r.ok
def Sp.ok (x : Sp) : Prop := (i64 x.kind ∧ i64 x.a ∧ i64 x.b ∧ i64 x.i ∧ i64 x.k) ∧ (∀ n ∈ x.way, i64 n) ∧ (∀ y ∈ x.sub, y.ok) ∧ x.cl.ok
def Wk.ok (x : Wk) : Prop := (∀ y ∈ x.sig, y.ok) ∧ (∀ y ∈ x.input, y.ok) ∧ (∀ y ∈ x.log, y.ok) ∧ (∀ n ∈ x.active, i64 n) ∧ (∀ n ∈ x.passive, i64 n)
theorem T1q (n : Nat) {ds : List Da} (h : c6q Tryz.prog n 3 ds) : ∃ m, ds = [.int .i64 m] ∧ i64 m := by
  cases n with
  | zero => simp only [c6q] at h
  | succ n =>
    simp only [c6q, Tryz.underlying3] at h
    obtain ⟨m, e, hw⟩ := h
    refine ⟨m, e, ?_⟩
    simp [Lit.wf, IntKind.min, IntKind.max, IntKind.signed, IntKind.bits] at hw
    exact ⟨by omega, by omega⟩
theorem a20q (n : Nat) {ds : List Da} (h : c6q Tryz.prog n 4 ds) : ∃ b, ds = [.bool b] := by
  cases n with
  | zero => simp only [c6q] at h
  | succ n => simp only [c6q, Tryz.underlying4] at h; exact h
theorem a4yq {α : Type} {da : α → List Da} {ok : α → Prop} {xs : List (List Da)} (h : ∀ x ∈ xs, ∃ t : α, x = da t ∧ ok t) : ∃ ks : List α, xs = ks.map da ∧ ∀ k ∈ ks, ok k := by
  induction xs with
  | nil => exact ⟨[], rfl, by simp⟩
  | cons x xs ih =>
    obtain ⟨t, rfl, ht⟩ := h x (by simp)
    obtain ⟨ks, rfl, hk⟩ := ih fun y hy => h y (by simp [hy])
    exact ⟨t :: ks, rfl, by simpa using ⟨ht, hk⟩⟩
theorem a84q (n : Nat) {ds : List Da} (h : c6q Tryz.prog n 9 ds) : ∃ s, ds = [.str s] := by
  cases n with
  | zero => simp only [c6q] at h
  | succ n => simp only [c6q, Tryz.underlying9] at h; exact h
theorem a1hq (n : Nat) {ds : List Da} (h : c6q Tryz.prog n 107 ds) : ∃ t : Tm, ds = t.da ∧ t.ok := by
  induction n using Nat.strongRecOn generalizing ds with
  | ind n ih =>
  cases n with
  | zero => simp only [c6q] at h
  | succ n =>
    simp only [c6q, Tryz.underlying107, B7q] at h
    obtain ⟨d1, r1, rfl, h1, d2, r2, rfl, h2, d3, r3, rfl, h3, rfl⟩ := h
    obtain ⟨f, rfl, hf⟩ := T1q _ h1
    obtain ⟨v, rfl, hv⟩ := T1q _ h2
    have h4 : ∃ ks, d3 = [.sl (Tm.das ks)] ∧ ∀ k ∈ ks, Tm.ok k := by
      cases n with
      | zero => simp only [c6q] at h3
      | succ n =>
        simp only [c6q, Tryz.underlying105] at h3
        obtain ⟨xs, rfl, hx⟩ := h3
        obtain ⟨ks, rfl, hk⟩ := a4yq (da := Tm.da) (ok := Tm.ok) fun x hx' => ih n (by omega) (hx x hx')
        exact ⟨ks, by rw [Tm.das_map], hk⟩
    obtain ⟨ks, rfl, hk⟩ := h4
    exact ⟨.mk f v ks, rfl, hf, hv, Tm.oks_iff.2 hk⟩
theorem a8jq (n : Nat) {ds : List Da} (h : c6q Tryz.prog n 142 ds) : ∃ l : Li, ds = l.da ∧ l.ok := by
  cases n with
  | zero => simp only [c6q] at h
  | succ n =>
    simp only [c6q, Tryz.underlying142, B7q] at h
    obtain ⟨d1, r1, rfl, h1, d2, r2, rfl, h2, d3, r3, rfl, h3, rfl⟩ := h
    obtain ⟨p, rfl⟩ := a20q _ h1
    obtain ⟨a, rfl, ha⟩ := a1hq _ h2
    obtain ⟨b, rfl, hb⟩ := a1hq _ h3
    exact ⟨⟨p, a, b⟩, by simp [Li.da], ha, hb⟩
theorem a7iq (n : Nat) {ds : List Da} (h : c6q Tryz.prog n 23 ds) : ∃ ls : List Li, ds = [.sl (ls.map Li.da)] ∧ ∀ k ∈ ls, k.ok := by
  cases n with
  | zero => simp only [c6q] at h
  | succ n =>
    simp only [c6q, Tryz.underlying23] at h
    obtain ⟨xs, rfl, hx⟩ := h
    obtain ⟨ks, rfl, hk⟩ := a4yq (da := Li.da) (ok := Li.ok) fun x hx' => a8jq _ (hx x hx')
    exact ⟨ks, rfl, hk⟩
theorem a59q (n : Nat) {ds : List Da} (h : c6q Tryz.prog n 25 ds) : ∃ c : Cl, ds = c.da ∧ c.ok := by
  cases n with
  | zero => simp only [c6q] at h
  | succ n =>
    simp only [c6q, Tryz.underlying25, B7q] at h
    obtain ⟨d1, r1, rfl, h1, rfl⟩ := h
    obtain ⟨ls, rfl, hl⟩ := a7iq _ h1
    exact ⟨⟨ls⟩, rfl, hl⟩
theorem a8sq (n : Nat) {ds : List Da} (h : c6q Tryz.prog n 81 ds) : ∃ c : Sy, ds = c.da ∧ c.ok := by
  cases n with
  | zero => simp only [c6q] at h
  | succ n =>
    simp only [c6q, Tryz.underlying81, B7q] at h
    obtain ⟨d1, r1, rfl, h1, d2, r2, rfl, h2, d3, r3, rfl, h3, rfl⟩ := h
    obtain ⟨s, rfl⟩ := a84q _ h1
    obtain ⟨m, rfl, hm⟩ := T1q _ h2
    obtain ⟨b, rfl⟩ := a20q _ h3
    exact ⟨⟨s, m, b⟩, rfl, hm⟩
theorem a5Zq (n : Nat) {ds : List Da} (h : c6q Tryz.prog n 22 ds) : ∃ ls : List Sy, ds = [.sl (ls.map Sy.da)] ∧ ∀ k ∈ ls, k.ok := by
  cases n with
  | zero => simp only [c6q] at h
  | succ n =>
    simp only [c6q, Tryz.underlying22] at h
    obtain ⟨xs, rfl, hx⟩ := h
    obtain ⟨ks, rfl, hk⟩ := a4yq (da := Sy.da) (ok := Sy.ok) fun x hx' => a8sq _ (hx x hx')
    exact ⟨ks, rfl, hk⟩
end AM
end Go.Proofs.YtajcoogpmockiaaGreat
set_option linter.unusedSimpArgs false
set_option linter.unusedVariables false
namespace Go.Proofs.YtajcoogpmockiaaGreat
namespace AM
open Go
def Da.u1 : Da → Da
  | .tg _ ys => .sl ys
  | x => x
section
variable {P : Program} {f : FuncId} {zs : List AV} {E es : Nat} {xs ys : List (List Da)}
end
def ObImp (X Y : Ob) : Prop := ∀ (w : World) (S : Nat → Prop) (β : Nat → OLoc) (l : OLoc), ObRep w S β l X → ObRep w S β l Y
inductive ObsImp : List (Nat × Ob) → List (Nat × Ob) → Prop
  | nil : ObsImp [] []
  | cons {k X Y r s} : ObImp X Y → ObsImp r s → ObsImp ((k, X) :: r) ((k, Y) :: s)
theorem ObImp.refl (X : Ob) : ObImp X X := fun _ _ _ _ h => h
theorem a9jq (E es : Nat) (xs : List (List Da)) : ObImp (.tr E es xs) (.lst E es xs) := fun _ _ _ _ h => h.lst_of_tr
theorem a6yq {E es : Nat} {xs : List (List Da)} (hf : f7q xs) : ObImp (.lst E es xs) (.tr E es xs) := fun w S β l h => by
  rcases h with ⟨h1, h2, h3, vs, h4, fp, h5, h6⟩ | h
  · exact .inl ⟨h1, h2, h3, vs, [], h4, h5.flatT (I6q hf), by simp, by simp⟩
  · exact .inr h
theorem ObsImp.keys {I J : List (Nat × Ob)} (h : ObsImp I J) : I.map (·.1) = J.map (·.1) := by induction h <;> simp_all
theorem ObsImp.mem {I J : List (Nat × Ob)} (h : ObsImp I J) {p : Nat × Ob} (hp : p ∈ J) : ∃ X, (p.1, X) ∈ I ∧ ObImp X p.2 := by
  induction h with
  | nil => cases hp
  | @cons k X Y r s h1 _ ih =>
    rcases List.mem_cons.1 hp with rfl | hp
    · exact ⟨X, by simp, h1⟩
    · obtain ⟨X', h2, h3⟩ := ih hp
      exact ⟨X', by simp [h2], h3⟩
theorem ObsImp.mem' {I J : List (Nat × Ob)} (h : ObsImp I J) {p : Nat × Ob} (hp : p ∈ I) : ∃ Y, (p.1, Y) ∈ J := by
  induction h with
  | nil => cases hp
  | @cons k X Y r s _ _ ih =>
    rcases List.mem_cons.1 hp with rfl | hp
    · exact ⟨Y, by simp⟩
    · obtain ⟨Y', h2⟩ := ih hp
      exact ⟨Y', by simp [h2]⟩
theorem XC.imp {P : Program} {f : FuncId} {zs : List AV} {r : AV} {I I' O O' : List (Nat × Ob)} (h : XC P f zs I' r O') (hI : ObsImp I I') (hO : ObsImp O' O) : XC P f zs I r O := ⟨by
  intro w S β vs hlt hr hin
  have hpass : ∀ b, f2q I' β b ↔ f2q I β b := by
    intro b
    constructor
    · rintro ⟨p, hp, h1⟩
      obtain ⟨X, h2, _⟩ := hI.mem hp
      exact ⟨_, h2, h1⟩
    · rintro ⟨p, hp, h1⟩
      obtain ⟨Y, h2⟩ := hI.mem' hp
      exact ⟨_, h2, h1⟩
  have hpc : ∀ b, x5q I' β b ↔ x5q I β b := by
    intro b
    constructor
    · rintro ⟨p, hp, h1⟩
      obtain ⟨X, h2, _⟩ := hI.mem hp
      exact ⟨_, h2, h1⟩
    · rintro ⟨p, hp, h1⟩
      obtain ⟨Y, h2⟩ := hI.mem' hp
      exact ⟨_, h2, h1⟩
  have hin' : L3q w S β I' := by
    refine ⟨fun p hp => ?_, fun p hp b hb => ?_, fun p hp q hq b hb hb' => ?_, fun p hp b hb => ?_, fun p hp q hq b hb hb' => ?_⟩
    · obtain ⟨X, h2, h3⟩ := hI.mem hp
      exact h3 _ _ _ _ (hin.ob _ h2)
    · obtain ⟨X, h2, _⟩ := hI.mem hp
      exact hin.own _ h2 b hb
    · obtain ⟨X, h2, _⟩ := hI.mem hp
      obtain ⟨X', h3, _⟩ := hI.mem hq
      exact hin.sep _ h2 (q.1, X') h3 b hb hb'
    · obtain ⟨X, h2, _⟩ := hI.mem hp
      exact hin.clm _ h2 b hb
    · obtain ⟨X, h2, _⟩ := hI.mem hp
      obtain ⟨X', h3, _⟩ := hI.mem hq
      exact hin.sepc _ h2 (q.1, X') h3 b hb hb'
  have hmv : x3q O' = x3q O := by unfold x3q; rw [hO.keys]
  refine (h.h w S β vs hlt hr hin').mono ?_
  rintro e w' ⟨v, S', β', rfl, hG, hrep⟩
  refine ⟨v, S', β', rfl, ⟨hG.os, hG.tape, hG.output, hG.size, fun b hb hp => hG.block b hb fun h => hp ((hpass b).1 h), hG.sub, fun b hb => ⟨(hG.sup b hb).1, (hG.sup b hb).2.imp id (Or.imp id (hpass b).1)⟩, fun o ho => hG.loc o (by rw [hmv]; exact ho), fun p hp => ?_, fun p hp b hb => ?_, fun p hp q hq b hb hb' => ?_, fun p hp b hb => ?_, fun p hp q hq b hb hb' => ?_⟩, hrep⟩
  · obtain ⟨X, h2, h3⟩ := hO.mem hp
    exact h3 _ _ _ _ (hG.ob _ h2)
  · obtain ⟨X, h2, _⟩ := hO.mem hp
    obtain ⟨g1, g2, g3⟩ := hG.own _ h2 b hb
    exact ⟨g1, g2, g3.imp id (hpass b).1⟩
  · obtain ⟨X, h2, _⟩ := hO.mem hp
    obtain ⟨X', h3, _⟩ := hO.mem hq
    exact hG.sep _ h2 (q.1, X') h3 b hb hb'
  · obtain ⟨X, h2, _⟩ := hO.mem hp
    obtain ⟨g1, g3⟩ := hG.clm _ h2 b hb
    exact ⟨g1, g3.imp id (Or.imp (hpass b).1 (hpc b).1)⟩
  · obtain ⟨X, h2, _⟩ := hO.mem hp
    obtain ⟨X', h3, _⟩ := hO.mem hq
    exact hG.sepc _ h2 (q.1, X') h3 b hb hb'⟩
end AM
end Go.Proofs.YtajcoogpmockiaaGreat
