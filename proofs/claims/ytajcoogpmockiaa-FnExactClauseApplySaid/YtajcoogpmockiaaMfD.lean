/- A part of the proof of the law that the last of these texts states, for every input; no conditions. -/
import Derived.Test.YtajcoogpmockiaaMfC
set_option linter.unusedVariables false
set_option linter.unusedSimpArgs false
set_option linter.unusedVariables false
set_option maxRecDepth 100000
namespace Go.Proofs.Ytajcoogpmockiaa
namespace AM
open Go
attribute [local irreducible] vC
def L4q : c4q := ⟨[], []⟩
theorem l6q {p : List (List Da)} {p_1 : List (List Da)} {p_2 : List (List Da)} {r : AV} {O : List (Nat × Ob)} (h : (∃ (n : Int), (XC Try.prog 9 [(L p), (Z ((1048576 : Int)))] [] (Z n) [] ∧ ifB (decide (n < (0 : Int)))
  (((B (true)) = r ∧ [] = O))
  ((∃ (n1 : Int), (XC Try.prog 30 [(L p_1), (Z n)] [] (Z n1) [] ∧ ifB (decide (n1 < (0 : Int)))
  (((B (true)) = r ∧ [] = O))
  ((∃ (n2 : Int), (XC Try.prog 50 [(.dat [(.sl p_2)]), (Z n1)] [] (Z n2) [] ∧ ifB (decide (n2 < (0 : Int)))
  (((B (true)) = r ∧ [] = O))
  ((∃ (xs : List (List Da)), (XC Try.prog 12 [(L p)] [] (.one (.ol 0)) [(0, (.tr 99 3 xs))] ∧ (∃ (xs1 : List (List Da)), (XC Try.prog 33 [(L p_1)] [] (.one (.ol 0)) [(0, (.tr 117 4 xs1))] ∧ (∃ (xs2 : List (List Da)), (XC Try.prog 52 [(.dat [(.sl p_2)])] [] (.agg [(.ol 0)]) [(0, (.tr 61 7 xs2))] ∧ (∃ (xs3 : List (List Da)), (XC Try.prog 51 [(L xs), (L xs1), (.dat [(.sl xs2)])] [] (.dat [(.sl xs3)]) [] ∧ (∃ (xs4 : List (List Da)), (XC Try.prog 12 [(L p)] [] (.one (.ol 0)) [(0, (.tr 99 3 xs4))] ∧ (∃ (xs5 : List (List Da)), (XC Try.prog 33 [(L p_1)] [] (.one (.ol 0)) [(0, (.tr 117 4 xs5))] ∧ (∃ (xs6 : List (List Da)), (XC Try.prog 52 [(.dat [(.sl p_2)])] [] (.agg [(.ol 0)]) [(0, (.tr 61 7 xs6))] ∧ (∃ (xs7 : List (List Da)), (XC Try.prog 53 [(L xs4), (L xs5), (.dat [(.sl xs6)])] [] (.agg [(.ol 0)]) [(0, (.tr 61 7 xs7))] ∧ (∃ (b : Bool), (XC Try.prog 45 [(.dat [(.sl xs7)]), (.dat [(.sl xs3)])] [] (B b) [] ∧ ifB (!b)
  (((B (false)) = r ∧ [] = O))
  ((∃ (xs8 : List (List Da)), (XC Try.prog 12 [(L p)] [] (.one (.ol 0)) [(0, (.tr 99 3 xs8))] ∧ (∃ (b1 : Bool), (XC Try.prog 17 [(L xs4), (L xs8)] [] (B b1) [] ∧ ifB (!b1)
  (((B (false)) = r ∧ [] = O))
  ((∃ (xs9 : List (List Da)), (XC Try.prog 33 [(L p_1)] [] (.one (.ol 0)) [(0, (.tr 117 4 xs9))] ∧ (∃ (b2 : Bool), (XC Try.prog 37 [(L xs5), (L xs9)] [] (B b2) [] ∧ ifB (!b2)
  (((B (false)) = r ∧ [] = O))
  ((∃ (xs10 : List (List Da)), (XC Try.prog 52 [(.dat [(.sl p_2)])] [] (.agg [(.ol 0)]) [(0, (.tr 61 7 xs10))] ∧ (∃ (b3 : Bool), (XC Try.prog 45 [(.dat [(.sl xs6)]), (.dat [(.sl xs10)])] [] (B b3) [] ∧ ifB (!b3)
  (((B (false)) = r ∧ [] = O))
  ((∃ (n3 : Int), (∃ (xs11 : List (List Da)), (XC Try.prog 19 [(.one (.ol 2000)), (Z ((1 : Int)))] [(2000, (.mt 99 3 xs4))] (Z n3) [(2000, (.mt 99 3 xs11))] ∧ (∃ (n4 : Int), (∃ (xs12 : List (List Da)), (XC Try.prog 38 [(.one (.ol 2000)), (Z n3)] [(2000, (.mt 117 4 xs5))] (Z n4) [(2000, (.mt 117 4 xs12))] ∧ (∃ (n5 : Int), (∃ (xs13 : List (List Da)), (XC Try.prog 48 [(.agg [(.ol 2000)]), (Z n4)] [(2000, (.mt 61 7 xs6))] (Z n5) [(2000, (.mt 61 7 xs13))] ∧ ifB (decide (n5 < (0 : Int)))
  (((B (false)) = r ∧ [] = O))
  ((∃ (b4 : Bool), (XC Try.prog 45 [(.dat [(.sl xs7)]), (.dat [(.sl xs3)])] [] (B b4) [] ∧ ifB (!b4)
  (((B (false)) = r ∧ [] = O))
  ((∃ (n6 : Int), (∃ (xs14 : List (List Da)), (XC Try.prog 48 [(.agg [(.ol 2000)]), (Z ((1 : Int)))] [(2000, (.mt 61 7 xs7))] (Z n6) [(2000, (.mt 61 7 xs14))] ∧ (∃ (n7 : Int), (XC Try.prog 49 [(.dat [(.sl xs14)]), (Z ((1 : Int)))] [] (Z n7) [] ∧ ifB (decide (n7 < (0 : Int)))
  (((B (false)) = r ∧ [] = O))
  (ifB (decide (n7 ≠ n6))
  (((B (false)) = r ∧ [] = O))
  ((∃ (xs15 : List (List Da)), (XC Try.prog 12 [(L p)] [] (.one (.ol 0)) [(0, (.tr 99 3 xs15))] ∧ (∃ (xs16 : List (List Da)), (XC Try.prog 33 [(L p_1)] [] (.one (.ol 0)) [(0, (.tr 117 4 xs16))] ∧ (∃ (xs17 : List (List Da)), (XC Try.prog 52 [(.dat [(.sl p_2)])] [] (.agg [(.ol 0)]) [(0, (.tr 61 7 xs17))] ∧ (∃ (xs18 : List (List Da)), (XC Try.prog 53 [(L xs15), (L xs16), (.dat [(.sl xs17)])] [] (.agg [(.ol 0)]) [(0, (.tr 61 7 xs18))] ∧ (∃ (b5 : Bool), (XC Try.prog 45 [(.dat [(.sl xs18)]), (.dat [(.sl xs3)])] [] (B b5) [] ∧ ifB (!b5)
  (((B (false)) = r ∧ [] = O))
  ((∃ (n8 : Int), (XC Try.prog 49 [(.dat [(.sl xs14)]), (Z ((1 : Int)))] [] (Z n8) [] ∧ ifB (decide (n8 < (0 : Int)))
  (((B (false)) = r ∧ [] = O))
  (ifB (decide (n8 ≠ n6))
  (((B (false)) = r ∧ [] = O))
  (((B (true)) = r ∧ [] = O)))))))))))))))))))))))))))))))))))))))))))))))))))))))))))))))))))))))))))))))) : XC Try.prog 7 [.one (.d (.sl p)), .one (.d (.sl p_1)), .dat [.sl p_2]] [] r O :=
  c7q (E := envL) (hs := L4q) (c := (a0q Try.f7)) (n := 115) (res := [.tmp 6]) (rs := .c .b) (ks := []) (dir := []) abTq a9q rfl Try.func7 (by kernel_rfl) (by kernel_rfl) (by kernel_rfl) (by kernel_rfl) (a8q (by kernel_rfl) h)
def a0nq : c4q := ⟨[], []⟩
theorem Z2q {a : Bool} {a1 : Int} {a2 : Int} {a3 : List (List Da)} {a4 : Int} {a5 : Int} {a6 : List (List Da)} {b : Bool} {b1 : Int} {b2 : Int} {b3 : List (List Da)} {b4 : Int} {b5 : Int} {b6 : List (List Da)} {r : AV} {O : List (Nat × Ob)} (h : ifB (!a)
  (ifB b
  (((Z ((-1 : Int))) = r ∧ [] = O))
  (ifB a
  (ifB (!b)
  (((Z ((1 : Int))) = r ∧ [] = O))
  ((∃ (n : Int), (XC Try.prog 105 [(.dat [(.int .i64 a1), (.int .i64 a2), (.sl a3)]), (.dat [(.int .i64 b1), (.int .i64 b2), (.sl b3)])] [] (Z n) [] ∧ ifB (decide (n ≠ (0 : Int)))
  (((Z n) = r ∧ [] = O))
  ((∃ (n1 : Int), (XC Try.prog 105 [(.dat [(.int .i64 a4), (.int .i64 a5), (.sl a6)]), (.dat [(.int .i64 b4), (.int .i64 b5), (.sl b6)])] [] (Z n1) [] ∧ ((Z n1) = r ∧ [] = O))))))))
  ((∃ (n2 : Int), (XC Try.prog 105 [(.dat [(.int .i64 a1), (.int .i64 a2), (.sl a3)]), (.dat [(.int .i64 b1), (.int .i64 b2), (.sl b3)])] [] (Z n2) [] ∧ ifB (decide (n2 ≠ (0 : Int)))
  (((Z n2) = r ∧ [] = O))
  ((∃ (n3 : Int), (XC Try.prog 105 [(.dat [(.int .i64 a4), (.int .i64 a5), (.sl a6)]), (.dat [(.int .i64 b4), (.int .i64 b5), (.sl b6)])] [] (Z n3) [] ∧ ((Z n3) = r ∧ [] = O)))))))))
  (ifB a
  (ifB (!b)
  (((Z ((1 : Int))) = r ∧ [] = O))
  ((∃ (n4 : Int), (XC Try.prog 105 [(.dat [(.int .i64 a1), (.int .i64 a2), (.sl a3)]), (.dat [(.int .i64 b1), (.int .i64 b2), (.sl b3)])] [] (Z n4) [] ∧ ifB (decide (n4 ≠ (0 : Int)))
  (((Z n4) = r ∧ [] = O))
  ((∃ (n5 : Int), (XC Try.prog 105 [(.dat [(.int .i64 a4), (.int .i64 a5), (.sl a6)]), (.dat [(.int .i64 b4), (.int .i64 b5), (.sl b6)])] [] (Z n5) [] ∧ ((Z n5) = r ∧ [] = O))))))))
  ((∃ (n6 : Int), (XC Try.prog 105 [(.dat [(.int .i64 a1), (.int .i64 a2), (.sl a3)]), (.dat [(.int .i64 b1), (.int .i64 b2), (.sl b3)])] [] (Z n6) [] ∧ ifB (decide (n6 ≠ (0 : Int)))
  (((Z n6) = r ∧ [] = O))
  ((∃ (n7 : Int), (XC Try.prog 105 [(.dat [(.int .i64 a4), (.int .i64 a5), (.sl a6)]), (.dat [(.int .i64 b4), (.int .i64 b5), (.sl b6)])] [] (Z n7) [] ∧ ((Z n7) = r ∧ [] = O))))))))) : XC Try.prog 89 [.dat [.bool a, .int .i64 a1, .int .i64 a2, .sl a3, .int .i64 a4, .int .i64 a5, .sl a6], .dat [.bool b, .int .i64 b1, .int .i64 b2, .sl b3, .int .i64 b4, .int .i64 b5, .sl b6]] [] r O :=
  c7q (E := env) (hs := a0nq) (c := (a0q Try.f89)) (n := 35) (res := [.tmp 4]) (rs := .c (.i .i64)) (ks := []) (dir := []) envOk a9q rfl Try.func89 (by kernel_rfl) (by kernel_rfl) (by kernel_rfl) (by kernel_rfl) (a8q (by kernel_rfl) h)
def a37q : c4q := ⟨[], []⟩
theorem a2qq {a : Bool} {a1 : Int} {a2 : Int} {a3 : List (List Da)} {a4 : Int} {a5 : Int} {a6 : List (List Da)} {b : Bool} {b1 : Int} {b2 : Int} {b3 : List (List Da)} {b4 : Int} {b5 : Int} {b6 : List (List Da)} {r : AV} {O : List (Nat × Ob)} (h : (∃ (n : Int), (XC Try.prog 89 [(.dat [(.bool a), (.int .i64 a1), (.int .i64 a2), (.sl a3), (.int .i64 a4), (.int .i64 a5), (.sl a6)]), (.dat [(.bool b), (.int .i64 b1), (.int .i64 b2), (.sl b3), (.int .i64 b4), (.int .i64 b5), (.sl b6)])] [] (Z n) [] ∧ ((B (decide (n = (0 : Int)))) = r ∧ [] = O)))) : XC Try.prog 91 [.dat [.bool a, .int .i64 a1, .int .i64 a2, .sl a3, .int .i64 a4, .int .i64 a5, .sl a6], .dat [.bool b, .int .i64 b1, .int .i64 b2, .sl b3, .int .i64 b4, .int .i64 b5, .sl b6]] [] r O :=
  c7q (E := env) (hs := a37q) (c := (a0q Try.f91)) (n := 9) (res := [.tmp 4]) (rs := .c .b) (ks := []) (dir := []) envOk a9q rfl Try.func91 (by kernel_rfl) (by kernel_rfl) (by kernel_rfl) (by kernel_rfl) (a8q (by kernel_rfl) h)
def B3q : c4q := ⟨[(5, ⟨[0, 1, 5], [], [], [], [], [], []⟩)], []⟩
def u2q (r : AV) (O : List (Nat × Ob)) (a : List (List Da)) (left : Int) (i : Int) : Prop := CL 27 Try.prog (e8q (a0q Try.f9) [1, 1, 1, 0, 1, 0, 0]) (b6q Try.prog env B3q 27 (a0q Try.f9) [1, 1, 1, 0, 1, 0, 0] (a3q env [.tmp 4] (.c (.i .i64)) [] [] r O) (b4q (a3q env [.tmp 4] (.c (.i .i64)) [] [] r O))).1 (b6q Try.prog env B3q 27 (a0q Try.f9) [1, 1, 1, 0, 1, 0, 0] (a3q env [.tmp 4] (.c (.i .i64)) [] [] r O) (b4q (a3q env [.tmp 4] (.c (.i .i64)) [] [] r O))).2 ⟨[(0, (L a)), (1, (Z left)), (5, (Z i))], []⟩
theorem K6q {r : AV} {O : List (Nat × Ob)} {a : List (List Da)} {left : Int} {i : Int} (h : ifB (decide (i < (↑(List.length a) : Int)))
  ((∃ (m : Nat), (i = ((↑m : Int)) ∧ (∃ (q : ByteArray), (∃ (n : Int), (∃ (b : Bool), ((a[m]?) = some [(.str q), (.int .i64 n), (.bool b)] ∧ (∃ (n1 : Int), (XC Try.prog 56 [(.dat [(.str q), (.int .i64 n), (.bool b)]), (Z left)] [] (Z n1) [] ∧ ifB (decide (n1 < (0 : Int)))
  (((Z ((-1 : Int))) = r ∧ [] = O))
  (u2q r O a n1 (IntKind.wrap IntKind.i64 (i + (1 : Int)))))))))))))
  (((Z left) = r ∧ [] = O))) : u2q r O a left i := by
  unfold u2q
  refine d6q (E := env) (hs := B3q) envOk a9q ?_
  exact a8q (by kernel_rfl) h
theorem a3qq {a : List (List Da)} {left : Int} {r : AV} {O : List (Nat × Ob)} (h : ifB (decide (IntKind.wrap IntKind.i64 (left - (↑(List.length a) : Int)) < (0 : Int)))
  (((Z ((-1 : Int))) = r ∧ [] = O))
  (u2q r O a (IntKind.wrap IntKind.i64 (left - (↑(List.length a) : Int))) ((0 : Int)))) : XC Try.prog 9 [(L a), (Z left)] [] r O :=
  c7q (E := env) (hs := B3q) (c := (a0q Try.f9)) (n := 27) (res := [.tmp 4]) (rs := .c (.i .i64)) (ks := []) (dir := []) envOk a9q rfl Try.func9 (by kernel_rfl) (by kernel_rfl) (by kernel_rfl) (by kernel_rfl) (a8q (by kernel_rfl) h)
def z4q : c4q := ⟨[(5, ⟨[0, 1, 5], [], [], [], [], [], []⟩)], []⟩
def r9q (r : AV) (O : List (Nat × Ob)) (a : List (List Da)) (left : Int) (i : Int) : Prop := CL 27 Try.prog (e8q (a0q Try.f30) [1, 1, 1, 0, 1, 0, 0]) (b6q Try.prog env z4q 27 (a0q Try.f30) [1, 1, 1, 0, 1, 0, 0] (a3q env [.tmp 4] (.c (.i .i64)) [] [] r O) (b4q (a3q env [.tmp 4] (.c (.i .i64)) [] [] r O))).1 (b6q Try.prog env z4q 27 (a0q Try.f30) [1, 1, 1, 0, 1, 0, 0] (a3q env [.tmp 4] (.c (.i .i64)) [] [] r O) (b4q (a3q env [.tmp 4] (.c (.i .i64)) [] [] r O))).2 ⟨[(0, (L a)), (1, (Z left)), (5, (Z i))], []⟩
theorem I4q {r : AV} {O : List (Nat × Ob)} {a : List (List Da)} {left : Int} {i : Int} (h : ifB (decide (i < (↑(List.length a) : Int)))
  ((∃ (m : Nat), (i = ((↑m : Int)) ∧ (∃ (n : Int), (∃ (n1 : Int), (∃ (n2 : Int), (∃ (xs : List (List Da)), ((a[m]?) = some [(.int .i64 n), (.int .i64 n1), (.int .i64 n2), (.sl xs)] ∧ (∃ (n3 : Int), (XC Try.prog 79 [(.dat [(.int .i64 n), (.int .i64 n1), (.int .i64 n2), (.sl xs)]), (Z left)] [] (Z n3) [] ∧ ifB (decide (n3 < (0 : Int)))
  (((Z ((-1 : Int))) = r ∧ [] = O))
  (r9q r O a n3 (IntKind.wrap IntKind.i64 (i + (1 : Int))))))))))))))
  (((Z left) = r ∧ [] = O))) : r9q r O a left i := by
  unfold r9q
  refine d6q (E := env) (hs := z4q) envOk a9q ?_
  exact a8q (by kernel_rfl) h
theorem a1Zq {a : List (List Da)} {left : Int} {r : AV} {O : List (Nat × Ob)} (h : ifB (decide (IntKind.wrap IntKind.i64 (left - (↑(List.length a) : Int)) < (0 : Int)))
  (((Z ((-1 : Int))) = r ∧ [] = O))
  (r9q r O a (IntKind.wrap IntKind.i64 (left - (↑(List.length a) : Int))) ((0 : Int)))) : XC Try.prog 30 [(L a), (Z left)] [] r O :=
  c7q (E := env) (hs := z4q) (c := (a0q Try.f30)) (n := 27) (res := [.tmp 4]) (rs := .c (.i .i64)) (ks := []) (dir := []) envOk a9q rfl Try.func30 (by kernel_rfl) (by kernel_rfl) (by kernel_rfl) (by kernel_rfl) (a8q (by kernel_rfl) h)
def a24q : c4q := ⟨[], []⟩
theorem a1Gq {a : List (List Da)} {left : Int} {r : AV} {O : List (Nat × Ob)} (h : (∃ (n : Int), (XC Try.prog 41 [(L a), (Z left)] [] (Z n) [] ∧ ifB (decide (n < (0 : Int)))
  (((Z ((-1 : Int))) = r ∧ [] = O))
  (((Z n) = r ∧ [] = O))))) : XC Try.prog 50 [(.dat [(.sl a)]), (Z left)] [] r O :=
  c7q (E := env) (hs := a24q) (c := (a0q Try.f50)) (n := 12) (res := [.tmp 4]) (rs := .c (.i .i64)) (ks := []) (dir := []) envOk a9q rfl Try.func50 (by kernel_rfl) (by kernel_rfl) (by kernel_rfl) (by kernel_rfl) (a8q (by kernel_rfl) h)
def B0q : c4q := ⟨[(3, ⟨[0, 3, 4], [], [], [], [], [], []⟩)], []⟩
def t5q (r : AV) (O : List (Nat × Ob)) (a : List (List Da)) (i : Int) (out : List (List Da)) : Prop := CL 23 Try.prog (e8q (a0q Try.f12) [1, 1, 0, 1, 0, 0]) (b6q Try.prog env B0q 23 (a0q Try.f12) [1, 1, 0, 1, 0, 0] (a3q env [.tmp 2] (.o 99 3) [] [] r O) (b4q (a3q env [.tmp 2] (.o 99 3) [] [] r O))).1 (b6q Try.prog env B0q 23 (a0q Try.f12) [1, 1, 0, 1, 0, 0] (a3q env [.tmp 2] (.o 99 3) [] [] r O) (b4q (a3q env [.tmp 2] (.o 99 3) [] [] r O))).2 ⟨[(0, (L a)), (3, (.one (.ol 1900))), (4, (Z i))], [(1900, (.tr 99 3 out))]⟩
theorem K7q {r : AV} {O : List (Nat × Ob)} {a : List (List Da)} {i : Int} {out : List (List Da)} (h : ifB (decide (i < (↑(List.length a) : Int)))
  ((∃ (m : Nat), (i = ((↑m : Int)) ∧ (∃ (q : ByteArray), (∃ (n : Int), (∃ (b : Bool), ((a[m]?) = some [(.str q), (.int .i64 n), (.bool b)] ∧ (∃ (q1 : ByteArray), (∃ (n1 : Int), (∃ (b1 : Bool), (XC Try.prog 61 [(.dat [(.str q), (.int .i64 n), (.bool b)])] [] (.dat [(.str q1), (.int .i64 n1), (.bool b1)]) [] ∧ (∃ (m1 : Nat), (i = ((↑m1 : Int)) ∧ (Do (m1 < List.length out) ∧ (∃ (m2 : Nat), ((m1 * (3 : Nat)) = (m2 * (3 : Nat) + (0 : Nat)) ∧ (∃ (q2 : ByteArray), (∃ (n2 : Int), (∃ (b2 : Bool), ((out[m2]?) = some [(.str q2), (.int .i64 n2), (.bool b2)] ∧ t5q r O a (IntKind.wrap IntKind.i64 (i + (1 : Int))) (List.set out m2 ([] ++ [Da.str q1, Da.int IntKind.i64 n1, Da.bool b1] ++ []))))))))))))))))))))))
  (((.one (.ol 0)) = r ∧ [(0, (.tr 99 3 out))] = O))) : t5q r O a i out := by
  unfold t5q
  refine d6q (E := env) (hs := B0q) envOk a9q ?_
  exact a8q (by kernel_rfl) h
theorem a3hq {a : List (List Da)} {r : AV} {O : List (Nat × Ob)} (h : (∃ (l : Nat), (∃ (c : Nat), (((↑(List.length a) : Int)) = ((↑l : Int)) ∧ (((↑(List.length a) : Int)) = ((↑c : Int)) ∧ (Do (l ≤ c ∧ (32 : Nat) * c ≤ (281474976710656 : Nat) ∧ c ≤ (281474976710656 : Nat)) ∧ t5q r O a ((0 : Int)) (List.replicate l [Da.str { data := #[] }, Da.int IntKind.i64 (0 : Int), Da.bool false]))))))) : XC Try.prog 12 [(L a)] [] r O :=
  c7q (E := env) (hs := B0q) (c := (a0q Try.f12)) (n := 23) (res := [.tmp 2]) (rs := .o 99 3) (ks := []) (dir := []) envOk a9q rfl Try.func12 (by kernel_rfl) (by kernel_rfl) (by kernel_rfl) (by kernel_rfl) (a8q (by kernel_rfl) h)
def z5q : c4q := ⟨[(3, ⟨[0, 3, 4], [], [], [], [], [], []⟩)], []⟩
def r2q (r : AV) (O : List (Nat × Ob)) (a : List (List Da)) (i : Int) (out : List (List Da)) : Prop := CL 23 Try.prog (e8q (a0q Try.f33) [1, 1, 0, 1, 0, 0]) (b6q Try.prog env z5q 23 (a0q Try.f33) [1, 1, 0, 1, 0, 0] (a3q env [.tmp 2] (.o 117 4) [] [] r O) (b4q (a3q env [.tmp 2] (.o 117 4) [] [] r O))).1 (b6q Try.prog env z5q 23 (a0q Try.f33) [1, 1, 0, 1, 0, 0] (a3q env [.tmp 2] (.o 117 4) [] [] r O) (b4q (a3q env [.tmp 2] (.o 117 4) [] [] r O))).2 ⟨[(0, (L a)), (3, (.one (.ol 1900))), (4, (Z i))], [(1900, (.tr 117 4 out))]⟩
theorem J3q {r : AV} {O : List (Nat × Ob)} {a : List (List Da)} {i : Int} {out : List (List Da)} (h : ifB (decide (i < (↑(List.length a) : Int)))
  ((∃ (m : Nat), (i = ((↑m : Int)) ∧ (∃ (n : Int), (∃ (n1 : Int), (∃ (n2 : Int), (∃ (xs : List (List Da)), ((a[m]?) = some [(.int .i64 n), (.int .i64 n1), (.int .i64 n2), (.sl xs)] ∧ (∃ (n3 : Int), (∃ (n4 : Int), (∃ (n5 : Int), (∃ (xs1 : List (List Da)), (XC Try.prog 82 [(.dat [(.int .i64 n), (.int .i64 n1), (.int .i64 n2), (.sl xs)])] [] (.agg [(.d (.int .i64 n3)), (.d (.int .i64 n4)), (.d (.int .i64 n5)), (.ol 0)]) [(0, (.tr 31 3 xs1))] ∧ (∃ (m1 : Nat), (i = ((↑m1 : Int)) ∧ (Do (m1 < List.length out) ∧ (∃ (m2 : Nat), ((m1 * (4 : Nat)) = (m2 * (4 : Nat) + (0 : Nat)) ∧ (∃ (n6 : Int), (∃ (n7 : Int), (∃ (n8 : Int), (∃ (xs2 : List (List Da)), ((out[m2]?) = some [(.int .i64 n6), (.int .i64 n7), (.int .i64 n8), (.sl xs2)] ∧ r2q r O a (IntKind.wrap IntKind.i64 (i + (1 : Int))) (List.set out m2 ([] ++ [Da.int IntKind.i64 n3, Da.int IntKind.i64 n4, Da.int IntKind.i64 n5, Da.sl xs1] ++ [])))))))))))))))))))))))))
  (((.one (.ol 0)) = r ∧ [(0, (.tr 117 4 out))] = O))) : r2q r O a i out := by
  unfold r2q
  refine d6q (E := env) (hs := z5q) envOk a9q ?_
  exact a8q (by kernel_rfl) h
theorem a2tq {a : List (List Da)} {r : AV} {O : List (Nat × Ob)} (h : (∃ (l : Nat), (∃ (c : Nat), (((↑(List.length a) : Int)) = ((↑l : Int)) ∧ (((↑(List.length a) : Int)) = ((↑c : Int)) ∧ (Do (l ≤ c ∧ (48 : Nat) * c ≤ (281474976710656 : Nat) ∧ c ≤ (281474976710656 : Nat)) ∧ r2q r O a ((0 : Int)) (List.replicate l [Da.int IntKind.i64 (0 : Int), Da.int IntKind.i64 (0 : Int), Da.int IntKind.i64 (0 : Int), Da.sl []]))))))) : XC Try.prog 33 [(L a)] [] r O :=
  c7q (E := env) (hs := z5q) (c := (a0q Try.f33)) (n := 23) (res := [.tmp 2]) (rs := .o 117 4) (ks := []) (dir := []) envOk a9q rfl Try.func33 (by kernel_rfl) (by kernel_rfl) (by kernel_rfl) (by kernel_rfl) (a8q (by kernel_rfl) h)
def a2nq : c4q := ⟨[], []⟩
theorem a1Bq {a : List (List Da)} {r : AV} {O : List (Nat × Ob)} (h : (∃ (xs : List (List Da)), (XC Try.prog 43 [(L a)] [] (.one (.ol 0)) [(0, (.tr 61 7 xs))] ∧ ((.agg [(.ol 0)]) = r ∧ [(0, (.tr 61 7 xs))] = O)))) : XC Try.prog 52 [(.dat [(.sl a)])] [] r O :=
  c7q (E := env) (hs := a2nq) (c := (a0q Try.f52)) (n := 9) (res := [.cell 2 75]) (rs := .s [.o 61 7]) (ks := []) (dir := []) envOk a9q rfl Try.func52 (by kernel_rfl) (by kernel_rfl) (by kernel_rfl) (by kernel_rfl) (a8q (by kernel_rfl) h)
def r1q : c4q := ⟨[(3, ⟨[0, 1, 5, 6, 7, 8], [], [], [], [], [7], []⟩)], []⟩
def m9q (r : AV) (O : List (Nat × Ob)) (s : List (List Da)) (u : List (List Da)) (i : Int) (c : List (List Da)) (list : List (List Da)) : Prop := CL 31 Try.prog (e8q (a0q Try.f51) [1, 1, 0, 1, 0, 0]) (b6q Try.prog env r1q 31 (a0q Try.f51) [1, 1, 0, 1, 0, 0] (a3q env [.cell 6 75] (.d [.l]) [] [] r O) (b4q (a3q env [.cell 6 75] (.d [.l]) [] [] r O))).1 (b6q Try.prog env r1q 31 (a0q Try.f51) [1, 1, 0, 1, 0, 0] (a3q env [.cell 6 75] (.d [.l]) [] [] r O) (b4q (a3q env [.cell 6 75] (.d [.l]) [] [] r O))).2 ⟨[(0, (L s)), (1, (L u)), (5, (.one (.op 1900 0))), (6, (.one (.op 1901 0))), (7, (.one (.ol 1902))), (8, (Z i))], [(1900, (.var [(.d (.sl c))])), (1901, (.var [.e0])), (1902, (.lst 61 7 list))]⟩
theorem A1q {r : AV} {O : List (Nat × Ob)} {s : List (List Da)} {u : List (List Da)} {i : Int} {c : List (List Da)} {list : List (List Da)} (h : ifB (decide (i < (↑(List.length c) : Int)))
  ((∃ (m : Nat), (i = ((↑m : Int)) ∧ (∃ (b : Bool), (∃ (n : Int), (∃ (n1 : Int), (∃ (xs : List (List Da)), (∃ (n2 : Int), (∃ (n3 : Int), (∃ (xs1 : List (List Da)), ((c[m]?) = some [(.bool b), (.int .i64 n), (.int .i64 n1), (.sl xs), (.int .i64 n2), (.int .i64 n3), (.sl xs1)] ∧ (∃ (b1 : Bool), (∃ (n4 : Int), (∃ (n5 : Int), (∃ (xs2 : List (List Da)), (∃ (n6 : Int), (∃ (n7 : Int), (∃ (xs3 : List (List Da)), (XC Try.prog 32 [(L s), (L u), (.dat [(.bool b), (.int .i64 n), (.int .i64 n1), (.sl xs), (.int .i64 n2), (.int .i64 n3), (.sl xs1)])] [] (.dat [(.bool b1), (.int .i64 n4), (.int .i64 n5), (.sl xs2), (.int .i64 n6), (.int .i64 n7), (.sl xs3)]) [] ∧ (Do ((List.length list + List.length [[Da.bool b1, Da.int IntKind.i64 n4, Da.int IntKind.i64 n5, Da.sl xs2, Da.int IntKind.i64 n6, Da.int IntKind.i64 n7, Da.sl xs3]]) * (88 : Nat) ≤ (140737488355328 : Nat)) ∧ m9q r O s u (IntKind.wrap IntKind.i64 (i + (1 : Int))) c (list ++ [[Da.bool b1, Da.int IntKind.i64 n4, Da.int IntKind.i64 n5, Da.sl xs2, Da.int IntKind.i64 n6, Da.int IntKind.i64 n7, Da.sl xs3]])))))))))))))))))))))
  ((∃ (xs4 : List (List Da)), (XC Try.prog 42 [(L s), (L list)] [] (.dat [(.sl xs4)]) [] ∧ ((.dat [(.sl xs4)]) = r ∧ [] = O))))) : m9q r O s u i c list := by
  unfold m9q
  refine d6q (E := env) (hs := r1q) envOk a9q ?_
  exact a8q (by kernel_rfl) h
theorem Z1q {s : List (List Da)} {u : List (List Da)} {c : List (List Da)} {r : AV} {O : List (Nat × Ob)} (h : m9q r O s u ((0 : Int)) c []) : XC Try.prog 51 [(L s), (L u), (.dat [(.sl c)])] [] r O :=
  c7q (E := env) (hs := r1q) (c := (a0q Try.f51)) (n := 31) (res := [.cell 6 75]) (rs := .d [.l]) (ks := []) (dir := []) envOk a9q rfl Try.func51 (by kernel_rfl) (by kernel_rfl) (by kernel_rfl) (by kernel_rfl) (a8q (by kernel_rfl) h)
def r6q : c4q := ⟨[(3, ⟨[0, 1, 6, 7, 12, 13, 14], [], [], [], [], [], []⟩)], []⟩
def m8q (r : AV) (O : List (Nat × Ob)) (s : List (List Da)) (u : List (List Da)) (s12 : List (List Da)) (s13 : Int) (s14 : Int) (list : List (List Da)) : Prop := CL 29 Try.prog (e8q (a0q Try.f53) [1, 1, 0, 1, 0, 0]) (b6q Try.prog env r6q 29 (a0q Try.f53) [1, 1, 0, 1, 0, 0] (a3q env [.cell 6 75] (.s [.o 61 7]) [] [] r O) (b4q (a3q env [.cell 6 75] (.s [.o 61 7]) [] [] r O))).1 (b6q Try.prog env r6q 29 (a0q Try.f53) [1, 1, 0, 1, 0, 0] (a3q env [.cell 6 75] (.s [.o 61 7]) [] [] r O) (b4q (a3q env [.cell 6 75] (.s [.o 61 7]) [] [] r O))).2 ⟨[(0, (L s)), (1, (L u)), (6, (.one (.op 1900 0))), (7, (.one (.ol 1901))), (12, (L s12)), (13, (Z s13)), (14, (Z s14))], [(1900, (.var [.e0])), (1901, (.tr 61 7 list))]⟩
theorem A2q {r : AV} {O : List (Nat × Ob)} {s : List (List Da)} {u : List (List Da)} {s12 : List (List Da)} {s13 : Int} {s14 : Int} {list : List (List Da)} (h : ifB (decide (s14 < s13))
  ((∃ (m : Nat), (s14 = ((↑m : Int)) ∧ (∃ (b : Bool), (∃ (n : Int), (∃ (n1 : Int), (∃ (xs : List (List Da)), (∃ (n2 : Int), (∃ (n3 : Int), (∃ (xs1 : List (List Da)), ((s12[m]?) = some [(.bool b), (.int .i64 n), (.int .i64 n1), (.sl xs), (.int .i64 n2), (.int .i64 n3), (.sl xs1)] ∧ (∃ (b1 : Bool), (∃ (n4 : Int), (∃ (n5 : Int), (∃ (xs2 : List (List Da)), (∃ (n6 : Int), (∃ (n7 : Int), (∃ (xs3 : List (List Da)), (XC Try.prog 35 [(L s), (L u), (.dat [(.bool b), (.int .i64 n), (.int .i64 n1), (.sl xs), (.int .i64 n2), (.int .i64 n3), (.sl xs1)])] [] (.agg [(.d (.bool b1)), (.d (.int .i64 n4)), (.d (.int .i64 n5)), (.ol 0), (.d (.int .i64 n6)), (.d (.int .i64 n7)), (.ol 1)]) [(0, (.tr 31 3 xs2)), (1, (.tr 31 3 xs3))] ∧ (Do ((List.length list + List.length [[Da.bool b1, Da.int IntKind.i64 n4, Da.int IntKind.i64 n5, Da.sl xs2, Da.int IntKind.i64 n6, Da.int IntKind.i64 n7, Da.sl xs3]]) * (88 : Nat) ≤ (140737488355328 : Nat)) ∧ m8q r O s u s12 s13 (IntKind.wrap IntKind.i64 (s14 + (1 : Int))) (list ++ [[Da.bool b1, Da.int IntKind.i64 n4, Da.int IntKind.i64 n5, Da.sl xs2, Da.int IntKind.i64 n6, Da.int IntKind.i64 n7, Da.sl xs3]])))))))))))))))))))))
  ((∃ (xs4 : List (List Da)), (XC Try.prog 44 [(L s), (L list)] [] (.agg [(.ol 0)]) [(0, (.tr 61 7 xs4))] ∧ ((.agg [(.ol 0)]) = r ∧ [(0, (.tr 61 7 xs4))] = O))))) : m8q r O s u s12 s13 s14 list := by
  unfold m8q
  refine d6q (E := env) (hs := r6q) envOk a9q ?_
  exact a8q (by kernel_rfl) h
theorem Y9q {s : List (List Da)} {u : List (List Da)} {c : List (List Da)} {r : AV} {O : List (Nat × Ob)} (h : m8q r O s u c ((↑(List.length c) : Int)) ((0 : Int)) []) : XC Try.prog 53 [(L s), (L u), (.dat [(.sl c)])] [] r O :=
  c7q (E := env) (hs := r6q) (c := (a0q Try.f53)) (n := 29) (res := [.cell 6 75]) (rs := .s [.o 61 7]) (ks := []) (dir := []) envOk a9q rfl Try.func53 (by kernel_rfl) (by kernel_rfl) (by kernel_rfl) (by kernel_rfl) (a8q (by kernel_rfl) h)
def a21q : c4q := ⟨[], []⟩
theorem a1Eq {a : List (List Da)} {b : List (List Da)} {r : AV} {O : List (Nat × Ob)} (h : (∃ (b1 : Bool), (XC Try.prog 46 [(L a), (L b)] [] (B b1) [] ∧ ifB (!b1)
  (((B (false)) = r ∧ [] = O))
  (((B (true)) = r ∧ [] = O))))) : XC Try.prog 45 [(.dat [(.sl a)]), (.dat [(.sl b)])] [] r O :=
  c7q (E := env) (hs := a21q) (c := (a0q Try.f45)) (n := 11) (res := [.tmp 4]) (rs := .c .b) (ks := []) (dir := []) envOk a9q rfl Try.func45 (by kernel_rfl) (by kernel_rfl) (by kernel_rfl) (by kernel_rfl) (a8q (by kernel_rfl) h)
def B4q : c4q := ⟨[(4, ⟨[0, 1, 5], [], [], [], [], [], []⟩)], []⟩
def t4q (r : AV) (O : List (Nat × Ob)) (a : List (List Da)) (b : List (List Da)) (i : Int) : Prop := CL 27 Try.prog (e8q (a0q Try.f17) [1, 1, 0, 1, 0, 0]) (b6q Try.prog env B4q 27 (a0q Try.f17) [1, 1, 0, 1, 0, 0] (a3q env [.tmp 4] (.c .b) [] [] r O) (b4q (a3q env [.tmp 4] (.c .b) [] [] r O))).1 (b6q Try.prog env B4q 27 (a0q Try.f17) [1, 1, 0, 1, 0, 0] (a3q env [.tmp 4] (.c .b) [] [] r O) (b4q (a3q env [.tmp 4] (.c .b) [] [] r O))).2 ⟨[(0, (L a)), (1, (L b)), (5, (Z i))], []⟩
theorem K5q {r : AV} {O : List (Nat × Ob)} {a : List (List Da)} {b : List (List Da)} {i : Int} (h : ifB (decide (i < (↑(List.length a) : Int)))
  ((∃ (m : Nat), (i = ((↑m : Int)) ∧ (∃ (q : ByteArray), (∃ (n : Int), (∃ (b2 : Bool), ((a[m]?) = some [(.str q), (.int .i64 n), (.bool b2)] ∧ (∃ (m1 : Nat), (i = ((↑m1 : Int)) ∧ (∃ (q1 : ByteArray), (∃ (n1 : Int), (∃ (b3 : Bool), ((b[m1]?) = some [(.str q1), (.int .i64 n1), (.bool b3)] ∧ (∃ (b4 : Bool), (XC Try.prog 67 [(.dat [(.str q), (.int .i64 n), (.bool b2)]), (.dat [(.str q1), (.int .i64 n1), (.bool b3)])] [] (B b4) [] ∧ ifB (!b4)
  (((B (false)) = r ∧ [] = O))
  (t4q r O a b (IntKind.wrap IntKind.i64 (i + (1 : Int)))))))))))))))))))
  (((B (true)) = r ∧ [] = O))) : t4q r O a b i := by
  unfold t4q
  refine d6q (E := env) (hs := B4q) envOk a9q ?_
  exact a8q (by kernel_rfl) h
theorem a3cq {a : List (List Da)} {b : List (List Da)} {r : AV} {O : List (Nat × Ob)} (h : ifB (decide ((↑(List.length a) : Int) ≠ (↑(List.length b) : Int)))
  (((B (false)) = r ∧ [] = O))
  (t4q r O a b ((0 : Int)))) : XC Try.prog 17 [(L a), (L b)] [] r O :=
  c7q (E := env) (hs := B4q) (c := (a0q Try.f17)) (n := 27) (res := [.tmp 4]) (rs := .c .b) (ks := []) (dir := []) envOk a9q rfl Try.func17 (by kernel_rfl) (by kernel_rfl) (by kernel_rfl) (by kernel_rfl) (a8q (by kernel_rfl) h)
def z2q : c4q := ⟨[(4, ⟨[0, 1, 5], [], [], [], [], [], []⟩)], []⟩
def s0q (r : AV) (O : List (Nat × Ob)) (a : List (List Da)) (b : List (List Da)) (i : Int) : Prop := CL 27 Try.prog (e8q (a0q Try.f37) [1, 1, 0, 1, 0, 0]) (b6q Try.prog env z2q 27 (a0q Try.f37) [1, 1, 0, 1, 0, 0] (a3q env [.tmp 4] (.c .b) [] [] r O) (b4q (a3q env [.tmp 4] (.c .b) [] [] r O))).1 (b6q Try.prog env z2q 27 (a0q Try.f37) [1, 1, 0, 1, 0, 0] (a3q env [.tmp 4] (.c .b) [] [] r O) (b4q (a3q env [.tmp 4] (.c .b) [] [] r O))).2 ⟨[(0, (L a)), (1, (L b)), (5, (Z i))], []⟩
theorem I3q {r : AV} {O : List (Nat × Ob)} {a : List (List Da)} {b : List (List Da)} {i : Int} (h : ifB (decide (i < (↑(List.length a) : Int)))
  ((∃ (m : Nat), (i = ((↑m : Int)) ∧ (∃ (n : Int), (∃ (n1 : Int), (∃ (n2 : Int), (∃ (xs : List (List Da)), ((a[m]?) = some [(.int .i64 n), (.int .i64 n1), (.int .i64 n2), (.sl xs)] ∧ (∃ (m1 : Nat), (i = ((↑m1 : Int)) ∧ (∃ (n3 : Int), (∃ (n4 : Int), (∃ (n5 : Int), (∃ (xs1 : List (List Da)), ((b[m1]?) = some [(.int .i64 n3), (.int .i64 n4), (.int .i64 n5), (.sl xs1)] ∧ (∃ (b2 : Bool), (XC Try.prog 85 [(.dat [(.int .i64 n), (.int .i64 n1), (.int .i64 n2), (.sl xs)]), (.dat [(.int .i64 n3), (.int .i64 n4), (.int .i64 n5), (.sl xs1)])] [] (B b2) [] ∧ ifB (!b2)
  (((B (false)) = r ∧ [] = O))
  (s0q r O a b (IntKind.wrap IntKind.i64 (i + (1 : Int)))))))))))))))))))))
  (((B (true)) = r ∧ [] = O))) : s0q r O a b i := by
  unfold s0q
  refine d6q (E := env) (hs := z2q) envOk a9q ?_
  exact a8q (by kernel_rfl) h
theorem a2bq {a : List (List Da)} {b : List (List Da)} {r : AV} {O : List (Nat × Ob)} (h : ifB (decide ((↑(List.length a) : Int) ≠ (↑(List.length b) : Int)))
  (((B (false)) = r ∧ [] = O))
  (s0q r O a b ((0 : Int)))) : XC Try.prog 37 [(L a), (L b)] [] r O :=
  c7q (E := env) (hs := z2q) (c := (a0q Try.f37)) (n := 27) (res := [.tmp 4]) (rs := .c .b) (ks := []) (dir := []) envOk a9q rfl Try.func37 (by kernel_rfl) (by kernel_rfl) (by kernel_rfl) (by kernel_rfl) (a8q (by kernel_rfl) h)
def w8q : c4q := ⟨[(2, ⟨[0, 1, 5], [], [], [], [], [], []⟩)], []⟩
def q1q (r : AV) (O : List (Nat × Ob)) (k : Int) (i : Int) (a : List (List Da)) : Prop := CL 37 Try.prog (e8q (a0q Try.f19) [1, 0, 1, 0, 0]) (b6q Try.prog env w8q 37 (a0q Try.f19) [1, 0, 1, 0, 0] (a3q env [.tmp 4] (.c (.i .i64)) [(2000, (false))] [2000] r O) (b4q (a3q env [.tmp 4] (.c (.i .i64)) [(2000, (false))] [2000] r O))).1 (b6q Try.prog env w8q 37 (a0q Try.f19) [1, 0, 1, 0, 0] (a3q env [.tmp 4] (.c (.i .i64)) [(2000, (false))] [2000] r O) (b4q (a3q env [.tmp 4] (.c (.i .i64)) [(2000, (false))] [2000] r O))).2 ⟨[(0, (.one (.ol 2000))), (1, (Z k)), (5, (Z i))], [(2000, (.mt 99 3 a))]⟩
theorem F7q {r : AV} {O : List (Nat × Ob)} {k : Int} {i : Int} {a : List (List Da)} (h : ifB (decide (i < (↑(List.length a) : Int)))
  ((∃ (q : ByteArray), (XC Try.prog 68 [(Z k)] [] (T q) [] ∧ (∃ (m : Nat), (i = ((↑m : Int)) ∧ (Do (m < List.length a) ∧ (∃ (m1 : Nat), ((m * (3 : Nat) + (0 : Nat)) = (m1 * (3 : Nat) + (0 : Nat)) ∧ (∃ (q1 : ByteArray), (∃ (n : Int), (∃ (b : Bool), ((a[m1]?) = some [(.str q1), (.int .i64 n), (.bool b)] ∧ (∃ (m2 : Nat), (i = ((↑m2 : Int)) ∧ (Do (m2 < List.length (List.set a m1 ([] ++ [Da.str q] ++ [Da.int IntKind.i64 n, Da.bool b]))) ∧ (∃ (m3 : Nat), ((m2 * (3 : Nat) + (1 : Nat)) = (m3 * (3 : Nat) + Nat.succ (nat_lit 0)) ∧ (∃ (q2 : ByteArray), (∃ (n1 : Int), (∃ (b1 : Bool), (((List.set a m1 ([] ++ [Da.str q] ++ [Da.int IntKind.i64 n, Da.bool b]))[m3]?) = some [(.str q2), (.int .i64 n1), (.bool b1)] ∧ (Do ((3 : Int) ≠ (0 : Int)) ∧ (∃ (m4 : Nat), (i = ((↑m4 : Int)) ∧ (Do (m4 < List.length (List.set (List.set a m1 ([] ++ [Da.str q] ++ [Da.int IntKind.i64 n, Da.bool b])) m3 ([Da.str q2] ++ [Da.int IntKind.i64 (IntKind.wrap IntKind.i64 (k + (1 : Int)))] ++ [Da.bool b1]))) ∧ (∃ (m5 : Nat), ((m4 * (3 : Nat) + (2 : Nat)) = (m5 * (3 : Nat) + Nat.succ (nat_lit 1)) ∧ (∃ (q3 : ByteArray), (∃ (n2 : Int), (∃ (b2 : Bool), (((List.set (List.set a m1 ([] ++ [Da.str q] ++ [Da.int IntKind.i64 n, Da.bool b])) m3 ([Da.str q2] ++ [Da.int IntKind.i64 (IntKind.wrap IntKind.i64 (k + (1 : Int)))] ++ [Da.bool b1]))[m5]?) = some [(.str q3), (.int .i64 n2), (.bool b2)] ∧ q1q r O (IntKind.wrap IntKind.i64 (IntKind.wrap IntKind.i64 (IntKind.wrap IntKind.i64 (k + (1 : Int)) + (1 : Int)) + (1 : Int))) (IntKind.wrap IntKind.i64 (i + (1 : Int))) (List.set (List.set (List.set a m1 ([] ++ [Da.str q] ++ [Da.int IntKind.i64 n, Da.bool b])) m3 ([Da.str q2] ++ [Da.int IntKind.i64 (IntKind.wrap IntKind.i64 (k + (1 : Int)))] ++ [Da.bool b1])) m5 ([Da.str q3, Da.int IntKind.i64 n2] ++ [Da.bool (decide (Int.tmod (IntKind.wrap IntKind.i64 (IntKind.wrap IntKind.i64 (k + (1 : Int)) + (1 : Int))) (3 : Int) = (0 : Int)))] ++ [])))))))))))))))))))))))))))))))))
  (((Z k) = r ∧ [(2000, (.mt 99 3 a))] = O))) : q1q r O k i a := by
  unfold q1q
  refine d6q (E := env) (hs := w8q) envOk a9q ?_
  exact a8q (by kernel_rfl) h
theorem a1xq {k : Int} {o2000 : List (List Da)} {r : AV} {O : List (Nat × Ob)} (h : q1q r O k ((0 : Int)) o2000) : XC Try.prog 19 [(.one (.ol 2000)), (Z k)] [(2000, (.mt 99 3 o2000))] r O :=
  c7q (E := env) (hs := w8q) (c := (a0q Try.f19)) (n := 37) (res := [.tmp 4]) (rs := .c (.i .i64)) (ks := [(2000, (false))]) (dir := [2000]) envOk a9q rfl Try.func19 (by kernel_rfl) (by kernel_rfl) (by kernel_rfl) (by kernel_rfl) (a8q (by kernel_rfl) h)
def v3q : c4q := ⟨[(2, ⟨[0, 1, 5], [], [], [], [], [], []⟩)], []⟩
def o3q (r : AV) (O : List (Nat × Ob)) (k : Int) (i : Int) (a : List (List Da)) : Prop := CL 44 Try.prog (e8q (a0q Try.f38) [1, 0, 1, 0, 0]) (b6q Try.prog env v3q 44 (a0q Try.f38) [1, 0, 1, 0, 0] (a3q env [.tmp 4] (.c (.i .i64)) [(2000, (false))] [2000] r O) (b4q (a3q env [.tmp 4] (.c (.i .i64)) [(2000, (false))] [2000] r O))).1 (b6q Try.prog env v3q 44 (a0q Try.f38) [1, 0, 1, 0, 0] (a3q env [.tmp 4] (.c (.i .i64)) [(2000, (false))] [2000] r O) (b4q (a3q env [.tmp 4] (.c (.i .i64)) [(2000, (false))] [2000] r O))).2 ⟨[(0, (.one (.ol 2000))), (1, (Z k)), (5, (Z i))], [(2000, (.mt 117 4 a))]⟩
theorem D7q {r : AV} {O : List (Nat × Ob)} {k : Int} {i : Int} {a : List (List Da)} (h : ifB (decide (i < (↑(List.length a) : Int)))
  ((∃ (m : Nat), (i = ((↑m : Int)) ∧ (Do (m < List.length a) ∧ (∃ (m1 : Nat), ((m * (4 : Nat) + (0 : Nat)) = (m1 * (4 : Nat) + (0 : Nat)) ∧ (∃ (n : Int), (∃ (n1 : Int), (∃ (n2 : Int), (∃ (xs : List (List Da)), ((a[m1]?) = some [(.int .i64 n), (.int .i64 n1), (.int .i64 n2), (.sl xs)] ∧ (∃ (m2 : Nat), (i = ((↑m2 : Int)) ∧ (Do (m2 < List.length (List.set a m1 ([] ++ [Da.int IntKind.i64 k] ++ [Da.int IntKind.i64 n1, Da.int IntKind.i64 n2, Da.sl xs]))) ∧ (∃ (m3 : Nat), ((m2 * (4 : Nat) + (1 : Nat) + (0 : Nat)) = (m3 * (4 : Nat) + Nat.succ (nat_lit 0)) ∧ (∃ (n3 : Int), (∃ (n4 : Int), (∃ (n5 : Int), (∃ (xs1 : List (List Da)), (((List.set a m1 ([] ++ [Da.int IntKind.i64 k] ++ [Da.int IntKind.i64 n1, Da.int IntKind.i64 n2, Da.sl xs]))[m3]?) = some [(.int .i64 n3), (.int .i64 n4), (.int .i64 n5), (.sl xs1)] ∧ (∃ (m4 : Nat), (i = ((↑m4 : Int)) ∧ (Do (m4 < List.length (List.set (List.set a m1 ([] ++ [Da.int IntKind.i64 k] ++ [Da.int IntKind.i64 n1, Da.int IntKind.i64 n2, Da.sl xs])) m3 ([Da.int IntKind.i64 n3] ++ [Da.int IntKind.i64 (IntKind.wrap IntKind.i64 (k + (1 : Int)))] ++ [Da.int IntKind.i64 n5, Da.sl xs1]))) ∧ (∃ (m5 : Nat), ((m4 * (4 : Nat) + (1 : Nat) + (1 : Nat)) = (m5 * (4 : Nat) + Nat.succ (nat_lit 1)) ∧ (∃ (n6 : Int), (∃ (n7 : Int), (∃ (n8 : Int), (∃ (xs2 : List (List Da)), (((List.set (List.set a m1 ([] ++ [Da.int IntKind.i64 k] ++ [Da.int IntKind.i64 n1, Da.int IntKind.i64 n2, Da.sl xs])) m3 ([Da.int IntKind.i64 n3] ++ [Da.int IntKind.i64 (IntKind.wrap IntKind.i64 (k + (1 : Int)))] ++ [Da.int IntKind.i64 n5, Da.sl xs1]))[m5]?) = some [(.int .i64 n6), (.int .i64 n7), (.int .i64 n8), (.sl xs2)] ∧ (∃ (m6 : Nat), (i = ((↑m6 : Int)) ∧ (Do (m6 < List.length (List.set (List.set (List.set a m1 ([] ++ [Da.int IntKind.i64 k] ++ [Da.int IntKind.i64 n1, Da.int IntKind.i64 n2, Da.sl xs])) m3 ([Da.int IntKind.i64 n3] ++ [Da.int IntKind.i64 (IntKind.wrap IntKind.i64 (k + (1 : Int)))] ++ [Da.int IntKind.i64 n5, Da.sl xs1])) m5 ([Da.int IntKind.i64 n6, Da.int IntKind.i64 n7] ++ [Da.int IntKind.i64 (IntKind.wrap IntKind.i64 (IntKind.wrap IntKind.i64 (k + (1 : Int)) + (1 : Int)))] ++ [Da.sl xs2]))) ∧ (∃ (m7 : Nat), ((m6 * (4 : Nat) + (1 : Nat) + (2 : Nat)) = (m7 * (4 : Nat) + Nat.succ (nat_lit 2)) ∧ (∃ (n9 : Int), (∃ (n10 : Int), (∃ (n11 : Int), (∃ (xs3 : List (List Da)), (((List.set (List.set (List.set a m1 ([] ++ [Da.int IntKind.i64 k] ++ [Da.int IntKind.i64 n1, Da.int IntKind.i64 n2, Da.sl xs])) m3 ([Da.int IntKind.i64 n3] ++ [Da.int IntKind.i64 (IntKind.wrap IntKind.i64 (k + (1 : Int)))] ++ [Da.int IntKind.i64 n5, Da.sl xs1])) m5 ([Da.int IntKind.i64 n6, Da.int IntKind.i64 n7] ++ [Da.int IntKind.i64 (IntKind.wrap IntKind.i64 (IntKind.wrap IntKind.i64 (k + (1 : Int)) + (1 : Int)))] ++ [Da.sl xs2]))[m7]?) = some [(.int .i64 n9), (.int .i64 n10), (.int .i64 n11), (.sl xs3)] ∧ (∀ (a1 : Option Addr), (∀ (l : Nat), (∀ (r1 : Nat), ((a1 = a1 ∧ ((l) = (l) ∧ (r1) = (r1))) ∧ (∃ (n12 : Int), (∃ (n13 : Int), (∃ (n14 : Int), (∃ (xs4 : List (List Da)), (((List.set (List.set (List.set a m1 ([] ++ [Da.int IntKind.i64 k] ++ [Da.int IntKind.i64 n1, Da.int IntKind.i64 n2, Da.sl xs])) m3 ([Da.int IntKind.i64 n3] ++ [Da.int IntKind.i64 (IntKind.wrap IntKind.i64 (k + (1 : Int)))] ++ [Da.int IntKind.i64 n5, Da.sl xs1])) m5 ([Da.int IntKind.i64 n6, Da.int IntKind.i64 n7] ++ [Da.int IntKind.i64 (IntKind.wrap IntKind.i64 (IntKind.wrap IntKind.i64 (k + (1 : Int)) + (1 : Int)))] ++ [Da.sl xs2]))[m7]?) = some [(.int .i64 n12), (.int .i64 n13), (.int .i64 n14), (.sl xs4)] ∧ (Do (∀ (y : List Da), y ∈ xs4 → List.length y = Prod.fst ((3 : Nat), (40 : Nat), [At.d (Da.int IntKind.i64 (0 : Int)), At.d (Da.int IntKind.i64 (0 : Int)), At.e0])) ∧ (∃ (ys1 : List (List Da)), (∃ (n15 : Int), (XC Try.prog 69 [(.one (.ol 2000)), (Z (IntKind.wrap IntKind.i64 (IntKind.wrap IntKind.i64 (IntKind.wrap IntKind.i64 (k + (1 : Int)) + (1 : Int)) + (1 : Int))))] [(2000, (.mt 31 3 xs4))] (Z n15) [(2000, (.mt 31 3 ys1))] ∧ o3q r O n15 (IntKind.wrap IntKind.i64 (i + (1 : Int))) (List.set (List.set (List.set (List.set a m1 ([] ++ [Da.int IntKind.i64 k] ++ [Da.int IntKind.i64 n1, Da.int IntKind.i64 n2, Da.sl xs])) m3 ([Da.int IntKind.i64 n3] ++ [Da.int IntKind.i64 (IntKind.wrap IntKind.i64 (k + (1 : Int)))] ++ [Da.int IntKind.i64 n5, Da.sl xs1])) m5 ([Da.int IntKind.i64 n6, Da.int IntKind.i64 n7] ++ [Da.int IntKind.i64 (IntKind.wrap IntKind.i64 (IntKind.wrap IntKind.i64 (k + (1 : Int)) + (1 : Int)))] ++ [Da.sl xs2])) m7 ([Da.int IntKind.i64 n12, Da.int IntKind.i64 n13, Da.int IntKind.i64 n14] ++ [Da.sl ys1] ++ []))))))))))))))))))))))))))))))))))))))))))))))))))))))))
  (((Z k) = r ∧ [(2000, (.mt 117 4 a))] = O))) : o3q r O k i a := by
  unfold o3q
  refine d6q (E := env) (hs := v3q) envOk a9q ?_
  exact a8q (by kernel_rfl) h
theorem a13q {k : Int} {o2000 : List (List Da)} {r : AV} {O : List (Nat × Ob)} (h : o3q r O k ((0 : Int)) o2000) : XC Try.prog 38 [(.one (.ol 2000)), (Z k)] [(2000, (.mt 117 4 o2000))] r O :=
  c7q (E := env) (hs := v3q) (c := (a0q Try.f38)) (n := 44) (res := [.tmp 4]) (rs := .c (.i .i64)) (ks := [(2000, (false))]) (dir := [2000]) envOk a9q rfl Try.func38 (by kernel_rfl) (by kernel_rfl) (by kernel_rfl) (by kernel_rfl) (a8q (by kernel_rfl) h)
def a0Yq : c4q := ⟨[], []⟩
theorem a04q {k : Int} {o2000 : List (List Da)} {r : AV} {O : List (Nat × Ob)} (h : (∃ (n : Int), (∃ (xs : List (List Da)), (XC Try.prog 47 [(.one (.ol 2000)), (Z k)] [(2000, (.mt 61 7 o2000))] (Z n) [(2000, (.mt 61 7 xs))] ∧ ((Z n) = r ∧ [(2000, (.mt 61 7 xs))] = O))))) : XC Try.prog 48 [(.agg [(.ol 2000)]), (Z k)] [(2000, (.mt 61 7 o2000))] r O :=
  c7q (E := env) (hs := a0Yq) (c := (a0q Try.f48)) (n := 10) (res := [.tmp 4]) (rs := .c (.i .i64)) (ks := [(2000, (false))]) (dir := [2000]) envOk a9q rfl Try.func48 (by kernel_rfl) (by kernel_rfl) (by kernel_rfl) (by kernel_rfl) (a8q (by kernel_rfl) h)
def a0Xq : c4q := ⟨[], []⟩
theorem a0kq {a : List (List Da)} {k : Int} {r : AV} {O : List (Nat × Ob)} (h : (∃ (n : Int), (XC Try.prog 92 [(L a), (Z k)] [] (Z n) [] ∧ ifB (decide (n < (0 : Int)))
  (((Z ((-1 : Int))) = r ∧ [] = O))
  (((Z n) = r ∧ [] = O))))) : XC Try.prog 49 [(.dat [(.sl a)]), (Z k)] [] r O :=
  c7q (E := env) (hs := a0Xq) (c := (a0q Try.f49)) (n := 12) (res := [.tmp 4]) (rs := .c (.i .i64)) (ks := []) (dir := []) envOk a9q rfl Try.func49 (by kernel_rfl) (by kernel_rfl) (by kernel_rfl) (by kernel_rfl) (a8q (by kernel_rfl) h)
def n2q : c4q := ⟨[(2, ⟨[2, 3, 26, 27, 28], [], [], [], [], [], []⟩), (10, ⟨[2, 3, 47, 48], [], [], [], [], [], []⟩)], []⟩
def x1q (r : AV) (O : List (Nat × Ob)) (s27 : Int) (s28 : Int) (s2 : Int) (s21 : Int) (s22 : List (List Da)) (s3 : Int) (s31 : Int) (s32 : List (List Da)) (s26 : List (List Da)) : Prop := CL 66 Try.prog (e8q (a0q Try.f105) [1, 0, 1, 0, 0]) (b6q Try.prog env n2q 66 (a0q Try.f105) [1, 0, 1, 0, 0] (a3q env [.tmp 4] (.c (.i .i64)) [] [] r O) (b4q (a3q env [.tmp 4] (.c (.i .i64)) [] [] r O))).1 (b6q Try.prog env n2q 66 (a0q Try.f105) [1, 0, 1, 0, 0] (a3q env [.tmp 4] (.c (.i .i64)) [] [] r O) (b4q (a3q env [.tmp 4] (.c (.i .i64)) [] [] r O))).2 ⟨[(2, (.one (.op 1900 0))), (3, (.one (.op 1901 0))), (26, (.one (.ol 1902))), (27, (Z s27)), (28, (Z s28))], [(1900, (.var [(.d (.int .i64 s2)), (.d (.int .i64 s21)), (.d (.sl s22))])), (1901, (.var [(.d (.int .i64 s3)), (.d (.int .i64 s31)), (.d (.sl s32))])), (1902, (.tr 142 2 s26))]⟩
def p3q (r : AV) (O : List (Nat × Ob)) (s47 : Int) (s48 : Int) (s2 : Int) (s21 : Int) (s22 : List (List Da)) (s3 : Int) (s31 : Int) (s32 : List (List Da)) : Prop := CL 66 Try.prog (e8q (a0q Try.f105) [1, 1, 0, 1, 0, 0]) (b6q Try.prog env n2q 66 (a0q Try.f105) [1, 1, 0, 1, 0, 0] (a3q env [.tmp 4] (.c (.i .i64)) [] [] r O) (b4q (a3q env [.tmp 4] (.c (.i .i64)) [] [] r O))).1 (b6q Try.prog env n2q 66 (a0q Try.f105) [1, 1, 0, 1, 0, 0] (a3q env [.tmp 4] (.c (.i .i64)) [] [] r O) (b4q (a3q env [.tmp 4] (.c (.i .i64)) [] [] r O))).2 ⟨[(2, (.one (.op 1900 0))), (3, (.one (.op 1901 0))), (47, (Z s47)), (48, (Z s48))], [(1900, (.var [(.d (.int .i64 s2)), (.d (.int .i64 s21)), (.d (.sl s22))])), (1901, (.var [(.d (.int .i64 s3)), (.d (.int .i64 s31)), (.d (.sl s32))]))]⟩
theorem r8q {r : AV} {O : List (Nat × Ob)} {s27 : Int} {s28 : Int} {s2 : Int} {s21 : Int} {s22 : List (List Da)} {s3 : Int} {s31 : Int} {s32 : List (List Da)} {s26 : List (List Da)} (h : ifB (decide (s28 < s27))
  ((∃ (m : Nat), (s28 = ((↑m : Int)) ∧ (Do (m < List.length s26) ∧ (∃ (n : Nat), ((m * (2 : Nat)) = (n * (2 : Nat)) ∧ (∃ (n1 : Int), (∃ (n2 : Int), ((s26[n]?) = some [(.int .i64 n1), (.int .i64 n2)] ∧ ifB (decide (n1 < n2))
  (((Z ((-1 : Int))) = r ∧ [] = O))
  (ifB (decide (n2 < n1))
  (((Z ((1 : Int))) = r ∧ [] = O))
  (x1q r O s27 (IntKind.wrap IntKind.i64 (s28 + (1 : Int))) s2 s21 s22 s3 s31 s32 s26)))))))))))
  (p3q r O ((↑(List.length s22) : Int)) ((0 : Int)) s2 s21 s22 s3 s31 s32)) : x1q r O s27 s28 s2 s21 s22 s3 s31 s32 s26 := by
  unfold x1q
  refine d6q (E := env) (hs := n2q) envOk a9q ?_
  exact a8q (by kernel_rfl) h
theorem F8q {r : AV} {O : List (Nat × Ob)} {s47 : Int} {s48 : Int} {s2 : Int} {s21 : Int} {s22 : List (List Da)} {s3 : Int} {s31 : Int} {s32 : List (List Da)} (h : ifB (decide (s48 < s47))
  ((∃ (m : Nat), (s48 = ((↑m : Int)) ∧ (∃ (n : Int), (∃ (n1 : Int), (∃ (xs : List (List Da)), ((s22[m]?) = some [(.int .i64 n), (.int .i64 n1), (.sl xs)] ∧ (∃ (m1 : Nat), (s48 = ((↑m1 : Int)) ∧ (∃ (n2 : Int), (∃ (n3 : Int), (∃ (xs1 : List (List Da)), ((s32[m1]?) = some [(.int .i64 n2), (.int .i64 n3), (.sl xs1)] ∧ (∃ (n4 : Int), (XC Try.prog 105 [(.dat [(.int .i64 n), (.int .i64 n1), (.sl xs)]), (.dat [(.int .i64 n2), (.int .i64 n3), (.sl xs1)])] [] (Z n4) [] ∧ ifB (decide (n4 ≠ (0 : Int)))
  (((Z n4) = r ∧ [] = O))
  (p3q r O s47 (IntKind.wrap IntKind.i64 (s48 + (1 : Int))) s2 s21 s22 s3 s31 s32))))))))))))))))
  (((Z ((0 : Int))) = r ∧ [] = O))) : p3q r O s47 s48 s2 s21 s22 s3 s31 s32 := by
  unfold p3q
  refine d6q (E := env) (hs := n2q) envOk a9q ?_
  exact a8q (by kernel_rfl) h
theorem a1Yq {p : Int} {p1 : Int} {p2 : List (List Da)} {p3 : Int} {p4 : Int} {p5 : List (List Da)} {r : AV} {O : List (Nat × Ob)} (h : x1q r O ((↑(List.length [[Da.int IntKind.i64 p, Da.int IntKind.i64 p3], [Da.int IntKind.i64 p1, Da.int IntKind.i64 p4], [Da.int IntKind.i64 (↑(List.length p2) : Int), Da.int IntKind.i64 (↑(List.length p5) : Int)]]) : Int)) ((0 : Int)) p p1 p2 p3 p4 p5 [[(.int .i64 p), (.int .i64 p3)], [(.int .i64 p1), (.int .i64 p4)], [(.int .i64 ((↑(List.length p2) : Int))), (.int .i64 ((↑(List.length p5) : Int)))]]) : XC Try.prog 105 [(.dat [(.int .i64 p), (.int .i64 p1), (.sl p2)]), (.dat [(.int .i64 p3), (.int .i64 p4), (.sl p5)])] [] r O :=
  c7q (E := env) (hs := n2q) (c := (a0q Try.f105)) (n := 66) (res := [.tmp 4]) (rs := .c (.i .i64)) (ks := []) (dir := []) envOk a9q rfl Try.func105 (by kernel_rfl) (by kernel_rfl) (by kernel_rfl) (by kernel_rfl) (a8q (by kernel_rfl) h)
def a5nq : c4q := ⟨[], []⟩
theorem a4lq {a : ByteArray} {a1 : Int} {a2 : Bool} {left : Int} {r : AV} {O : List (Nat × Ob)} (h : ifB (decide (IntKind.wrap IntKind.i64 (left - (↑(ByteArray.size a) : Int)) < (0 : Int)))
  (((Z ((-1 : Int))) = r ∧ [] = O))
  (((Z (IntKind.wrap IntKind.i64 (left - (↑(ByteArray.size a) : Int)))) = r ∧ [] = O))) : XC Try.prog 56 [(.dat [(.str a), (.int .i64 a1), (.bool a2)]), (Z left)] [] r O :=
  c7q (E := env) (hs := a5nq) (c := (a0q Try.f56)) (n := 13) (res := [.tmp 4]) (rs := .c (.i .i64)) (ks := []) (dir := []) envOk a9q rfl Try.func56 (by kernel_rfl) (by kernel_rfl) (by kernel_rfl) (by kernel_rfl) (a8q (by kernel_rfl) h)
def a4aq : c4q := ⟨[], []⟩
theorem a3dq {a : Int} {a1 : Int} {a2 : Int} {a3 : List (List Da)} {left : Int} {r : AV} {O : List (Nat × Ob)} (h : (∃ (n : Int), (XC Try.prog 10 [(.dat [(.int .i64 a1), (.int .i64 a2), (.sl a3)]), (Z left)] [] (Z n) [] ∧ ifB (decide (n < (0 : Int)))
  (((Z ((-1 : Int))) = r ∧ [] = O))
  (((Z n) = r ∧ [] = O))))) : XC Try.prog 79 [(.dat [(.int .i64 a), (.int .i64 a1), (.int .i64 a2), (.sl a3)]), (Z left)] [] r O :=
  c7q (E := env) (hs := a4aq) (c := (a0q Try.f79)) (n := 12) (res := [.tmp 4]) (rs := .c (.i .i64)) (ks := []) (dir := []) envOk a9q rfl Try.func79 (by kernel_rfl) (by kernel_rfl) (by kernel_rfl) (by kernel_rfl) (a8q (by kernel_rfl) h)
def A6q : c4q := ⟨[(5, ⟨[0, 1, 5], [], [], [], [], [], []⟩)], []⟩
def u5q (r : AV) (O : List (Nat × Ob)) (a : List (List Da)) (left : Int) (i : Int) : Prop := CL 27 Try.prog (e8q (a0q Try.f41) [1, 1, 1, 0, 1, 0, 0]) (b6q Try.prog env A6q 27 (a0q Try.f41) [1, 1, 1, 0, 1, 0, 0] (a3q env [.tmp 4] (.c (.i .i64)) [] [] r O) (b4q (a3q env [.tmp 4] (.c (.i .i64)) [] [] r O))).1 (b6q Try.prog env A6q 27 (a0q Try.f41) [1, 1, 1, 0, 1, 0, 0] (a3q env [.tmp 4] (.c (.i .i64)) [] [] r O) (b4q (a3q env [.tmp 4] (.c (.i .i64)) [] [] r O))).2 ⟨[(0, (L a)), (1, (Z left)), (5, (Z i))], []⟩
theorem L1q {r : AV} {O : List (Nat × Ob)} {a : List (List Da)} {left : Int} {i : Int} (h : ifB (decide (i < (↑(List.length a) : Int)))
  ((∃ (m : Nat), (i = ((↑m : Int)) ∧ (∃ (b : Bool), (∃ (n : Int), (∃ (n1 : Int), (∃ (xs : List (List Da)), (∃ (n2 : Int), (∃ (n3 : Int), (∃ (xs1 : List (List Da)), ((a[m]?) = some [(.bool b), (.int .i64 n), (.int .i64 n1), (.sl xs), (.int .i64 n2), (.int .i64 n3), (.sl xs1)] ∧ (∃ (n4 : Int), (XC Try.prog 31 [(.dat [(.bool b), (.int .i64 n), (.int .i64 n1), (.sl xs), (.int .i64 n2), (.int .i64 n3), (.sl xs1)]), (Z left)] [] (Z n4) [] ∧ ifB (decide (n4 < (0 : Int)))
  (((Z ((-1 : Int))) = r ∧ [] = O))
  (u5q r O a n4 (IntKind.wrap IntKind.i64 (i + (1 : Int)))))))))))))))))
  (((Z left) = r ∧ [] = O))) : u5q r O a left i := by
  unfold u5q
  refine d6q (E := env) (hs := A6q) envOk a9q ?_
  exact a8q (by kernel_rfl) h
theorem a2Sq {a : List (List Da)} {left : Int} {r : AV} {O : List (Nat × Ob)} (h : ifB (decide (IntKind.wrap IntKind.i64 (left - (↑(List.length a) : Int)) < (0 : Int)))
  (((Z ((-1 : Int))) = r ∧ [] = O))
  (u5q r O a (IntKind.wrap IntKind.i64 (left - (↑(List.length a) : Int))) ((0 : Int)))) : XC Try.prog 41 [(L a), (Z left)] [] r O :=
  c7q (E := env) (hs := A6q) (c := (a0q Try.f41)) (n := 27) (res := [.tmp 4]) (rs := .c (.i .i64)) (ks := []) (dir := []) envOk a9q rfl Try.func41 (by kernel_rfl) (by kernel_rfl) (by kernel_rfl) (by kernel_rfl) (a8q (by kernel_rfl) h)
def a61q : c4q := ⟨[], []⟩
theorem a4nq {a : ByteArray} {a1 : Int} {a2 : Bool} {r : AV} {O : List (Nat × Ob)} (h : ((.dat [(.str a), (.int .i64 a1), (.bool a2)]) = r ∧ [] = O)) : XC Try.prog 61 [(.dat [(.str a), (.int .i64 a1), (.bool a2)])] [] r O :=
  c7q (E := env) (hs := a61q) (c := (a0q Try.f61)) (n := 14) (res := [.cell 2 99]) (rs := .d [.s, (.i .i64), .b]) (ks := []) (dir := []) envOk a9q rfl Try.func61 (by kernel_rfl) (by kernel_rfl) (by kernel_rfl) (by kernel_rfl) (a8q (by kernel_rfl) h)
def a4fq : c4q := ⟨[], []⟩
theorem a33q {a : Int} {a1 : Int} {a2 : Int} {a3 : List (List Da)} {r : AV} {O : List (Nat × Ob)} (h : (∃ (n : Int), (∃ (n1 : Int), (∃ (xs : List (List Da)), (XC Try.prog 13 [(.dat [(.int .i64 a1), (.int .i64 a2), (.sl a3)])] [] (.agg [(.d (.int .i64 n)), (.d (.int .i64 n1)), (.ol 0)]) [(0, (.tr 31 3 xs))] ∧ ((.agg [(.d (.int .i64 a)), (.d (.int .i64 n)), (.d (.int .i64 n1)), (.ol 0)]) = r ∧ [(0, (.tr 31 3 xs))] = O)))))) : XC Try.prog 82 [(.dat [(.int .i64 a), (.int .i64 a1), (.int .i64 a2), (.sl a3)])] [] r O :=
  c7q (E := env) (hs := a4fq) (c := (a0q Try.f82)) (n := 12) (res := [.cell 2 117]) (rs := .s [.k (.i .i64), .k (.i .i64), .k (.i .i64), .o 31 3]) (ks := []) (dir := []) envOk a9q rfl Try.func82 (by kernel_rfl) (by kernel_rfl) (by kernel_rfl) (by kernel_rfl) (a8q (by kernel_rfl) h)
def A8q : c4q := ⟨[(3, ⟨[0, 3, 4], [], [], [], [], [], []⟩)], []⟩
def t6q (r : AV) (O : List (Nat × Ob)) (a : List (List Da)) (i : Int) (out : List (List Da)) : Prop := CL 23 Try.prog (e8q (a0q Try.f43) [1, 1, 0, 1, 0, 0]) (b6q Try.prog env A8q 23 (a0q Try.f43) [1, 1, 0, 1, 0, 0] (a3q env [.tmp 2] (.o 61 7) [] [] r O) (b4q (a3q env [.tmp 2] (.o 61 7) [] [] r O))).1 (b6q Try.prog env A8q 23 (a0q Try.f43) [1, 1, 0, 1, 0, 0] (a3q env [.tmp 2] (.o 61 7) [] [] r O) (b4q (a3q env [.tmp 2] (.o 61 7) [] [] r O))).2 ⟨[(0, (L a)), (3, (.one (.ol 1900))), (4, (Z i))], [(1900, (.tr 61 7 out))]⟩
theorem L3q {r : AV} {O : List (Nat × Ob)} {a : List (List Da)} {i : Int} {out : List (List Da)} (h : ifB (decide (i < (↑(List.length a) : Int)))
  ((∃ (m : Nat), (i = ((↑m : Int)) ∧ (∃ (b : Bool), (∃ (n : Int), (∃ (n1 : Int), (∃ (xs : List (List Da)), (∃ (n2 : Int), (∃ (n3 : Int), (∃ (xs1 : List (List Da)), ((a[m]?) = some [(.bool b), (.int .i64 n), (.int .i64 n1), (.sl xs), (.int .i64 n2), (.int .i64 n3), (.sl xs1)] ∧ (∃ (b1 : Bool), (∃ (n4 : Int), (∃ (n5 : Int), (∃ (xs2 : List (List Da)), (∃ (n6 : Int), (∃ (n7 : Int), (∃ (xs3 : List (List Da)), (XC Try.prog 34 [(.dat [(.bool b), (.int .i64 n), (.int .i64 n1), (.sl xs), (.int .i64 n2), (.int .i64 n3), (.sl xs1)])] [] (.agg [(.d (.bool b1)), (.d (.int .i64 n4)), (.d (.int .i64 n5)), (.ol 0), (.d (.int .i64 n6)), (.d (.int .i64 n7)), (.ol 1)]) [(0, (.tr 31 3 xs2)), (1, (.tr 31 3 xs3))] ∧ (∃ (m1 : Nat), (i = ((↑m1 : Int)) ∧ (Do (m1 < List.length out) ∧ (∃ (m2 : Nat), ((m1 * (7 : Nat)) = (m2 * (7 : Nat) + (0 : Nat)) ∧ (∃ (b2 : Bool), (∃ (n8 : Int), (∃ (n9 : Int), (∃ (xs4 : List (List Da)), (∃ (n10 : Int), (∃ (n11 : Int), (∃ (xs5 : List (List Da)), ((out[m2]?) = some [(.bool b2), (.int .i64 n8), (.int .i64 n9), (.sl xs4), (.int .i64 n10), (.int .i64 n11), (.sl xs5)] ∧ t6q r O a (IntKind.wrap IntKind.i64 (i + (1 : Int))) (List.set out m2 ([] ++ [Da.bool b1, Da.int IntKind.i64 n4, Da.int IntKind.i64 n5, Da.sl xs2, Da.int IntKind.i64 n6, Da.int IntKind.i64 n7, Da.sl xs3] ++ []))))))))))))))))))))))))))))))))))
  (((.one (.ol 0)) = r ∧ [(0, (.tr 61 7 out))] = O))) : t6q r O a i out := by
  unfold t6q
  refine d6q (E := env) (hs := A8q) envOk a9q ?_
  exact a8q (by kernel_rfl) h
theorem a3rq {a : List (List Da)} {r : AV} {O : List (Nat × Ob)} (h : (∃ (l : Nat), (∃ (c : Nat), (((↑(List.length a) : Int)) = ((↑l : Int)) ∧ (((↑(List.length a) : Int)) = ((↑c : Int)) ∧ (Do (l ≤ c ∧ (88 : Nat) * c ≤ (281474976710656 : Nat) ∧ c ≤ (281474976710656 : Nat)) ∧ t6q r O a ((0 : Int)) (List.replicate l [Da.bool false, Da.int IntKind.i64 (0 : Int), Da.int IntKind.i64 (0 : Int), Da.sl [], Da.int IntKind.i64 (0 : Int), Da.int IntKind.i64 (0 : Int), Da.sl []]))))))) : XC Try.prog 43 [(L a)] [] r O :=
  c7q (E := env) (hs := A8q) (c := (a0q Try.f43)) (n := 23) (res := [.tmp 2]) (rs := .o 61 7) (ks := []) (dir := []) envOk a9q rfl Try.func43 (by kernel_rfl) (by kernel_rfl) (by kernel_rfl) (by kernel_rfl) (a8q (by kernel_rfl) h)
def a2wq : c4q := ⟨[], []⟩
theorem a1uq {s : List (List Da)} {u : List (List Da)} {l : Bool} {l1 : Int} {l2 : Int} {l3 : List (List Da)} {l4 : Int} {l5 : Int} {l6 : List (List Da)} {r : AV} {O : List (Nat × Ob)} (h : (∃ (n : Int), (∃ (n1 : Int), (∃ (xs : List (List Da)), (XC Try.prog 81 [(L s), (L u), (.dat [(.int .i64 l1), (.int .i64 l2), (.sl l3)])] [] (.dat [(.int .i64 n), (.int .i64 n1), (.sl xs)]) [] ∧ (∃ (n2 : Int), (∃ (n3 : Int), (∃ (xs1 : List (List Da)), (XC Try.prog 81 [(L s), (L u), (.dat [(.int .i64 l4), (.int .i64 l5), (.sl l6)])] [] (.dat [(.int .i64 n2), (.int .i64 n3), (.sl xs1)]) [] ∧ (∃ (b : Bool), (∃ (n4 : Int), (∃ (n5 : Int), (∃ (xs2 : List (List Da)), (∃ (n6 : Int), (∃ (n7 : Int), (∃ (xs3 : List (List Da)), (XC Try.prog 80 [(L s), (B l), (.dat [(.int .i64 n), (.int .i64 n1), (.sl xs)]), (.dat [(.int .i64 n2), (.int .i64 n3), (.sl xs1)])] [] (.dat [(.bool b), (.int .i64 n4), (.int .i64 n5), (.sl xs2), (.int .i64 n6), (.int .i64 n7), (.sl xs3)]) [] ∧ ((.dat [(.bool b), (.int .i64 n4), (.int .i64 n5), (.sl xs2), (.int .i64 n6), (.int .i64 n7), (.sl xs3)]) = r ∧ [] = O)))))))))))))))))) : XC Try.prog 32 [(L s), (L u), (.dat [(.bool l), (.int .i64 l1), (.int .i64 l2), (.sl l3), (.int .i64 l4), (.int .i64 l5), (.sl l6)])] [] r O :=
  c7q (E := env) (hs := a2wq) (c := (a0q Try.f32)) (n := 21) (res := [.cell 6 61]) (rs := .d [.b, (.i .i64), (.i .i64), .l, (.i .i64), (.i .i64), .l]) (ks := []) (dir := []) envOk a9q rfl Try.func32 (by kernel_rfl) (by kernel_rfl) (by kernel_rfl) (by kernel_rfl) (a8q (by kernel_rfl) h)
def l1q : c4q := ⟨[(3, ⟨[0, 1, 4, 5, 6], [], [], [(5, (0, (61, 7)))], [], [5], []⟩), (7, ⟨[0, 1, 4, 5, 6, 7, 8], [], [], [], [], [], []⟩)], []⟩
def g3q (r : AV) (O : List (Nat × Ob)) (s0 : List (List Da)) (s1 : List (List Da)) (s6 : Int) (s5 : List (List Da)) : Prop := CL 82 Try.prog (e8q (a0q Try.f42) [1, 1, 0, 1, 0, 0]) (b6q Try.prog env l1q 82 (a0q Try.f42) [1, 1, 0, 1, 0, 0] (a3q env [.cell 4 75] (.d [.l]) [] [] r O) (b4q (a3q env [.cell 4 75] (.d [.l]) [] [] r O))).1 (b6q Try.prog env l1q 82 (a0q Try.f42) [1, 1, 0, 1, 0, 0] (a3q env [.cell 4 75] (.d [.l]) [] [] r O) (b4q (a3q env [.cell 4 75] (.d [.l]) [] [] r O))).2 ⟨[(0, (L s0)), (1, (L s1)), (4, (.one (.op 1900 0))), (5, (.one (.op 1901 0))), (6, (Z s6))], [(1900, (.var [.e0])), (1901, (.var [(.ol 1902)])), (1902, (.lst 61 7 s5))]⟩
def o0q (r : AV) (O : List (Nat × Ob)) (s0 : List (List Da)) (s1 : List (List Da)) (s6 : Int) (s8 : Int) (s7 : Bool) (s71 : Int) (s72 : Int) (s73 : List (List Da)) (s74 : Int) (s75 : Int) (s76 : List (List Da)) (s5 : List (List Da)) : Prop := CL 82 Try.prog (e8q (a0q Try.f42) [1, 1, 0, 1, 0, 0, 1, 0, 0, 1, 1, 0, 0, 0]) (b6q Try.prog env l1q 82 (a0q Try.f42) [1, 1, 0, 1, 0, 0, 1, 0, 0, 1, 1, 0, 0, 0] (a3q env [.cell 4 75] (.d [.l]) [] [] r O) (b4q (a3q env [.cell 4 75] (.d [.l]) [] [] r O))).1 (b6q Try.prog env l1q 82 (a0q Try.f42) [1, 1, 0, 1, 0, 0, 1, 0, 0, 1, 1, 0, 0, 0] (a3q env [.cell 4 75] (.d [.l]) [] [] r O) (b4q (a3q env [.cell 4 75] (.d [.l]) [] [] r O))).2 ⟨[(0, (L s0)), (1, (L s1)), (4, (.one (.op 1900 0))), (5, (.one (.op 1901 0))), (6, (Z s6)), (7, (.one (.op 1902 0))), (8, (Z s8))], [(1900, (.var [.e0])), (1901, (.var [(.ol 1903)])), (1902, (.var [(.d (.bool s7)), (.d (.int .i64 s71)), (.d (.int .i64 s72)), (.d (.sl s73)), (.d (.int .i64 s74)), (.d (.int .i64 s75)), (.d (.sl s76))])), (1903, (.lst 61 7 s5))]⟩
theorem C3q {r : AV} {O : List (Nat × Ob)} {s0 : List (List Da)} {s1 : List (List Da)} {s6 : Int} {s5 : List (List Da)} (h : ifB (decide (s6 < (↑(List.length s1) : Int)))
  ((∃ (m : Nat), (s6 = ((↑m : Int)) ∧ (∃ (b : Bool), (∃ (n : Int), (∃ (n1 : Int), (∃ (xs : List (List Da)), (∃ (n2 : Int), (∃ (n3 : Int), (∃ (xs1 : List (List Da)), ((s1[m]?) = some [(.bool b), (.int .i64 n), (.int .i64 n1), (.sl xs), (.int .i64 n2), (.int .i64 n3), (.sl xs1)] ∧ (∃ (m1 : Nat), (s6 = ((↑m1 : Int)) ∧ (∃ (b1 : Bool), (∃ (n4 : Int), (∃ (n5 : Int), (∃ (xs2 : List (List Da)), (∃ (n6 : Int), (∃ (n7 : Int), (∃ (xs3 : List (List Da)), ((s1[m1]?) = some [(.bool b1), (.int .i64 n4), (.int .i64 n5), (.sl xs2), (.int .i64 n6), (.int .i64 n7), (.sl xs3)] ∧ (∃ (m2 : Nat), (s6 = ((↑m2 : Int)) ∧ (∃ (b2 : Bool), (∃ (n8 : Int), (∃ (n9 : Int), (∃ (xs4 : List (List Da)), (∃ (n10 : Int), (∃ (n11 : Int), (∃ (xs5 : List (List Da)), ((s1[m2]?) = some [(.bool b2), (.int .i64 n8), (.int .i64 n9), (.sl xs4), (.int .i64 n10), (.int .i64 n11), (.sl xs5)] ∧ (∃ (b3 : Bool), (∃ (n12 : Int), (∃ (n13 : Int), (∃ (xs6 : List (List Da)), (∃ (n14 : Int), (∃ (n15 : Int), (∃ (xs7 : List (List Da)), (XC Try.prog 80 [(L s0), (B b), (.dat [(.int .i64 n4), (.int .i64 n5), (.sl xs2)]), (.dat [(.int .i64 n10), (.int .i64 n11), (.sl xs5)])] [] (.dat [(.bool b3), (.int .i64 n12), (.int .i64 n13), (.sl xs6), (.int .i64 n14), (.int .i64 n15), (.sl xs7)]) [] ∧ o0q r O s0 s1 s6 ((0 : Int)) b3 n12 n13 xs6 n14 n15 xs7 s5)))))))))))))))))))))))))))))))))))))))
  (((.dat [(.sl s5)]) = r ∧ [] = O))) : g3q r O s0 s1 s6 s5 := by
  unfold g3q
  refine d6q (E := env) (hs := l1q) envOk a9q ?_
  exact a8q (by kernel_rfl) h
theorem D2q {r : AV} {O : List (Nat × Ob)} {s0 : List (List Da)} {s1 : List (List Da)} {s6 : Int} {s8 : Int} {s7 : Bool} {s71 : Int} {s72 : Int} {s73 : List (List Da)} {s74 : Int} {s75 : Int} {s76 : List (List Da)} {s5 : List (List Da)} (h : ifB (decide (s8 < (↑(List.length s5) : Int)))
  ((∃ (m : Nat), (s8 = ((↑m : Int)) ∧ (Do (m < List.length s5) ∧ (∃ (n : Nat), ((m * (7 : Nat)) = (n * (7 : Nat)) ∧ (∃ (b : Bool), (∃ (n1 : Int), (∃ (n2 : Int), (∃ (xs : List (List Da)), (∃ (n3 : Int), (∃ (n4 : Int), (∃ (xs1 : List (List Da)), ((s5[n]?) = some [(.bool b), (.int .i64 n1), (.int .i64 n2), (.sl xs), (.int .i64 n3), (.int .i64 n4), (.sl xs1)] ∧ (∃ (b1 : Bool), (XC Try.prog 86 [(.dat [(.bool b), (.int .i64 n1), (.int .i64 n2), (.sl xs), (.int .i64 n3), (.int .i64 n4), (.sl xs1)]), (.dat [(.bool s7), (.int .i64 s71), (.int .i64 s72), (.sl s73), (.int .i64 s74), (.int .i64 s75), (.sl s76)])] [] (B b1) [] ∧ ifB b1
  (o0q r O s0 s1 s6 (IntKind.wrap IntKind.i64 (s8 + (1 : Int))) s7 s71 s72 s73 s74 s75 s76 s5)
  (ifB (decide (s8 < (↑(List.length s5) : Int)))
  ((∃ (m1 : Nat), (s8 = ((↑m1 : Int)) ∧ (Do (m1 < List.length s5) ∧ (∃ (n5 : Nat), ((m1 * (7 : Nat)) = (n5 * (7 : Nat)) ∧ (∃ (b2 : Bool), (∃ (n6 : Int), (∃ (n7 : Int), (∃ (xs2 : List (List Da)), (∃ (n8 : Int), (∃ (n9 : Int), (∃ (xs3 : List (List Da)), ((s5[n5]?) = some [(.bool b2), (.int .i64 n6), (.int .i64 n7), (.sl xs2), (.int .i64 n8), (.int .i64 n9), (.sl xs3)] ∧ (∃ (b3 : Bool), (XC Try.prog 87 [(.dat [(.bool b2), (.int .i64 n6), (.int .i64 n7), (.sl xs2), (.int .i64 n8), (.int .i64 n9), (.sl xs3)]), (.dat [(.bool s7), (.int .i64 s71), (.int .i64 s72), (.sl s73), (.int .i64 s74), (.int .i64 s75), (.sl s76)])] [] (B b3) [] ∧ ifB b3
  (g3q r O s0 s1 (IntKind.wrap IntKind.i64 (s6 + (1 : Int))) s5)
  ((∃ (n10 : Nat), (s8 = ((↑n10 : Int)) ∧ (Do ((0 : Nat) ≤ n10 ∧ n10 ≤ List.length s5) ∧ (Do ((0 : Nat) + (0 : Nat) + (n10 - (0 : Nat)) ≤ List.length s5) ∧ (Do (∀ (y : List Da), y ∈ s5 → List.length y = Prod.fst ((7 : Nat), (88 : Nat), [At.d (Da.bool false), At.d (Da.int IntKind.i64 (0 : Int)), At.d (Da.int IntKind.i64 (0 : Int)), At.e0, At.d (Da.int IntKind.i64 (0 : Int)), At.d (Da.int IntKind.i64 (0 : Int)), At.e0])) ∧ (Do ((List.length ([] : List (List Da)) + List.length (List.take (n10 - (0 : Nat)) (List.drop ((0 : Nat) + (0 : Nat)) s5))) * (88 : Nat) ≤ (140737488355328 : Nat)) ∧ (Do ((List.length ([] ++ List.take (n10 - (0 : Nat)) (List.drop ((0 : Nat) + (0 : Nat)) s5)) + List.length [[Da.bool s7, Da.int IntKind.i64 s71, Da.int IntKind.i64 s72, Da.sl s73, Da.int IntKind.i64 s74, Da.int IntKind.i64 s75, Da.sl s76]]) * (88 : Nat) ≤ (140737488355328 : Nat)) ∧ (∃ (n11 : Nat), (s8 = ((↑n11 : Int)) ∧ (Do (n11 ≤ List.length s5 ∧ List.length s5 ≤ List.length s5) ∧ (Do ((0 : Nat) + n11 + (List.length s5 - n11) ≤ List.length s5) ∧ (Do (∀ (y : List Da), y ∈ s5 → List.length y = Prod.fst ((7 : Nat), (88 : Nat), [At.d (Da.bool false), At.d (Da.int IntKind.i64 (0 : Int)), At.d (Da.int IntKind.i64 (0 : Int)), At.e0, At.d (Da.int IntKind.i64 (0 : Int)), At.d (Da.int IntKind.i64 (0 : Int)), At.e0])) ∧ (Do ((List.length ([] ++ List.take (n10 - (0 : Nat)) (List.drop ((0 : Nat) + (0 : Nat)) s5) ++ [[Da.bool s7, Da.int IntKind.i64 s71, Da.int IntKind.i64 s72, Da.sl s73, Da.int IntKind.i64 s74, Da.int IntKind.i64 s75, Da.sl s76]]) + List.length (List.take (List.length s5 - n11) (List.drop ((0 : Nat) + n11) s5))) * (88 : Nat) ≤ (140737488355328 : Nat)) ∧ g3q r O s0 s1 (IntKind.wrap IntKind.i64 (s6 + (1 : Int))) ([] ++ List.take (n10 - (0 : Nat)) (List.drop ((0 : Nat) + (0 : Nat)) s5) ++ [[Da.bool s7, Da.int IntKind.i64 s71, Da.int IntKind.i64 s72, Da.sl s73, Da.int IntKind.i64 s74, Da.int IntKind.i64 s75, Da.sl s76]] ++ List.take (List.length s5 - n11) (List.drop ((0 : Nat) + n11) s5))))))))))))))))))))))))))))))))
  ((∃ (n12 : Nat), (s8 = ((↑n12 : Int)) ∧ (Do ((0 : Nat) ≤ n12 ∧ n12 ≤ List.length s5) ∧ (Do ((0 : Nat) + (0 : Nat) + (n12 - (0 : Nat)) ≤ List.length s5) ∧ (Do (∀ (y : List Da), y ∈ s5 → List.length y = Prod.fst ((7 : Nat), (88 : Nat), [At.d (Da.bool false), At.d (Da.int IntKind.i64 (0 : Int)), At.d (Da.int IntKind.i64 (0 : Int)), At.e0, At.d (Da.int IntKind.i64 (0 : Int)), At.d (Da.int IntKind.i64 (0 : Int)), At.e0])) ∧ (Do ((List.length ([] : List (List Da)) + List.length (List.take (n12 - (0 : Nat)) (List.drop ((0 : Nat) + (0 : Nat)) s5))) * (88 : Nat) ≤ (140737488355328 : Nat)) ∧ (Do ((List.length ([] ++ List.take (n12 - (0 : Nat)) (List.drop ((0 : Nat) + (0 : Nat)) s5)) + List.length [[Da.bool s7, Da.int IntKind.i64 s71, Da.int IntKind.i64 s72, Da.sl s73, Da.int IntKind.i64 s74, Da.int IntKind.i64 s75, Da.sl s76]]) * (88 : Nat) ≤ (140737488355328 : Nat)) ∧ (∃ (n13 : Nat), (s8 = ((↑n13 : Int)) ∧ (Do (n13 ≤ List.length s5 ∧ List.length s5 ≤ List.length s5) ∧ (Do ((0 : Nat) + n13 + (List.length s5 - n13) ≤ List.length s5) ∧ (Do (∀ (y : List Da), y ∈ s5 → List.length y = Prod.fst ((7 : Nat), (88 : Nat), [At.d (Da.bool false), At.d (Da.int IntKind.i64 (0 : Int)), At.d (Da.int IntKind.i64 (0 : Int)), At.e0, At.d (Da.int IntKind.i64 (0 : Int)), At.d (Da.int IntKind.i64 (0 : Int)), At.e0])) ∧ (Do ((List.length ([] ++ List.take (n12 - (0 : Nat)) (List.drop ((0 : Nat) + (0 : Nat)) s5) ++ [[Da.bool s7, Da.int IntKind.i64 s71, Da.int IntKind.i64 s72, Da.sl s73, Da.int IntKind.i64 s74, Da.int IntKind.i64 s75, Da.sl s76]]) + List.length (List.take (List.length s5 - n13) (List.drop ((0 : Nat) + n13) s5))) * (88 : Nat) ≤ (140737488355328 : Nat)) ∧ g3q r O s0 s1 (IntKind.wrap IntKind.i64 (s6 + (1 : Int))) ([] ++ List.take (n12 - (0 : Nat)) (List.drop ((0 : Nat) + (0 : Nat)) s5) ++ [[Da.bool s7, Da.int IntKind.i64 s71, Da.int IntKind.i64 s72, Da.sl s73, Da.int IntKind.i64 s74, Da.int IntKind.i64 s75, Da.sl s76]] ++ List.take (List.length s5 - n13) (List.drop ((0 : Nat) + n13) s5)))))))))))))))))))))))))))))))))
  (ifB (decide (s8 < (↑(List.length s5) : Int)))
  ((∃ (m2 : Nat), (s8 = ((↑m2 : Int)) ∧ (Do (m2 < List.length s5) ∧ (∃ (n14 : Nat), ((m2 * (7 : Nat)) = (n14 * (7 : Nat)) ∧ (∃ (b4 : Bool), (∃ (n15 : Int), (∃ (n16 : Int), (∃ (xs4 : List (List Da)), (∃ (n17 : Int), (∃ (n18 : Int), (∃ (xs5 : List (List Da)), ((s5[n14]?) = some [(.bool b4), (.int .i64 n15), (.int .i64 n16), (.sl xs4), (.int .i64 n17), (.int .i64 n18), (.sl xs5)] ∧ (∃ (b5 : Bool), (XC Try.prog 87 [(.dat [(.bool b4), (.int .i64 n15), (.int .i64 n16), (.sl xs4), (.int .i64 n17), (.int .i64 n18), (.sl xs5)]), (.dat [(.bool s7), (.int .i64 s71), (.int .i64 s72), (.sl s73), (.int .i64 s74), (.int .i64 s75), (.sl s76)])] [] (B b5) [] ∧ ifB b5
  (g3q r O s0 s1 (IntKind.wrap IntKind.i64 (s6 + (1 : Int))) s5)
  ((∃ (n19 : Nat), (s8 = ((↑n19 : Int)) ∧ (Do ((0 : Nat) ≤ n19 ∧ n19 ≤ List.length s5) ∧ (Do ((0 : Nat) + (0 : Nat) + (n19 - (0 : Nat)) ≤ List.length s5) ∧ (Do (∀ (y : List Da), y ∈ s5 → List.length y = Prod.fst ((7 : Nat), (88 : Nat), [At.d (Da.bool false), At.d (Da.int IntKind.i64 (0 : Int)), At.d (Da.int IntKind.i64 (0 : Int)), At.e0, At.d (Da.int IntKind.i64 (0 : Int)), At.d (Da.int IntKind.i64 (0 : Int)), At.e0])) ∧ (Do ((List.length ([] : List (List Da)) + List.length (List.take (n19 - (0 : Nat)) (List.drop ((0 : Nat) + (0 : Nat)) s5))) * (88 : Nat) ≤ (140737488355328 : Nat)) ∧ (Do ((List.length ([] ++ List.take (n19 - (0 : Nat)) (List.drop ((0 : Nat) + (0 : Nat)) s5)) + List.length [[Da.bool s7, Da.int IntKind.i64 s71, Da.int IntKind.i64 s72, Da.sl s73, Da.int IntKind.i64 s74, Da.int IntKind.i64 s75, Da.sl s76]]) * (88 : Nat) ≤ (140737488355328 : Nat)) ∧ (∃ (n20 : Nat), (s8 = ((↑n20 : Int)) ∧ (Do (n20 ≤ List.length s5 ∧ List.length s5 ≤ List.length s5) ∧ (Do ((0 : Nat) + n20 + (List.length s5 - n20) ≤ List.length s5) ∧ (Do (∀ (y : List Da), y ∈ s5 → List.length y = Prod.fst ((7 : Nat), (88 : Nat), [At.d (Da.bool false), At.d (Da.int IntKind.i64 (0 : Int)), At.d (Da.int IntKind.i64 (0 : Int)), At.e0, At.d (Da.int IntKind.i64 (0 : Int)), At.d (Da.int IntKind.i64 (0 : Int)), At.e0])) ∧ (Do ((List.length ([] ++ List.take (n19 - (0 : Nat)) (List.drop ((0 : Nat) + (0 : Nat)) s5) ++ [[Da.bool s7, Da.int IntKind.i64 s71, Da.int IntKind.i64 s72, Da.sl s73, Da.int IntKind.i64 s74, Da.int IntKind.i64 s75, Da.sl s76]]) + List.length (List.take (List.length s5 - n20) (List.drop ((0 : Nat) + n20) s5))) * (88 : Nat) ≤ (140737488355328 : Nat)) ∧ g3q r O s0 s1 (IntKind.wrap IntKind.i64 (s6 + (1 : Int))) ([] ++ List.take (n19 - (0 : Nat)) (List.drop ((0 : Nat) + (0 : Nat)) s5) ++ [[Da.bool s7, Da.int IntKind.i64 s71, Da.int IntKind.i64 s72, Da.sl s73, Da.int IntKind.i64 s74, Da.int IntKind.i64 s75, Da.sl s76]] ++ List.take (List.length s5 - n20) (List.drop ((0 : Nat) + n20) s5))))))))))))))))))))))))))))))))
  ((∃ (n21 : Nat), (s8 = ((↑n21 : Int)) ∧ (Do ((0 : Nat) ≤ n21 ∧ n21 ≤ List.length s5) ∧ (Do ((0 : Nat) + (0 : Nat) + (n21 - (0 : Nat)) ≤ List.length s5) ∧ (Do (∀ (y : List Da), y ∈ s5 → List.length y = Prod.fst ((7 : Nat), (88 : Nat), [At.d (Da.bool false), At.d (Da.int IntKind.i64 (0 : Int)), At.d (Da.int IntKind.i64 (0 : Int)), At.e0, At.d (Da.int IntKind.i64 (0 : Int)), At.d (Da.int IntKind.i64 (0 : Int)), At.e0])) ∧ (Do ((List.length ([] : List (List Da)) + List.length (List.take (n21 - (0 : Nat)) (List.drop ((0 : Nat) + (0 : Nat)) s5))) * (88 : Nat) ≤ (140737488355328 : Nat)) ∧ (Do ((List.length ([] ++ List.take (n21 - (0 : Nat)) (List.drop ((0 : Nat) + (0 : Nat)) s5)) + List.length [[Da.bool s7, Da.int IntKind.i64 s71, Da.int IntKind.i64 s72, Da.sl s73, Da.int IntKind.i64 s74, Da.int IntKind.i64 s75, Da.sl s76]]) * (88 : Nat) ≤ (140737488355328 : Nat)) ∧ (∃ (n22 : Nat), (s8 = ((↑n22 : Int)) ∧ (Do (n22 ≤ List.length s5 ∧ List.length s5 ≤ List.length s5) ∧ (Do ((0 : Nat) + n22 + (List.length s5 - n22) ≤ List.length s5) ∧ (Do (∀ (y : List Da), y ∈ s5 → List.length y = Prod.fst ((7 : Nat), (88 : Nat), [At.d (Da.bool false), At.d (Da.int IntKind.i64 (0 : Int)), At.d (Da.int IntKind.i64 (0 : Int)), At.e0, At.d (Da.int IntKind.i64 (0 : Int)), At.d (Da.int IntKind.i64 (0 : Int)), At.e0])) ∧ (Do ((List.length ([] ++ List.take (n21 - (0 : Nat)) (List.drop ((0 : Nat) + (0 : Nat)) s5) ++ [[Da.bool s7, Da.int IntKind.i64 s71, Da.int IntKind.i64 s72, Da.sl s73, Da.int IntKind.i64 s74, Da.int IntKind.i64 s75, Da.sl s76]]) + List.length (List.take (List.length s5 - n22) (List.drop ((0 : Nat) + n22) s5))) * (88 : Nat) ≤ (140737488355328 : Nat)) ∧ g3q r O s0 s1 (IntKind.wrap IntKind.i64 (s6 + (1 : Int))) ([] ++ List.take (n21 - (0 : Nat)) (List.drop ((0 : Nat) + (0 : Nat)) s5) ++ [[Da.bool s7, Da.int IntKind.i64 s71, Da.int IntKind.i64 s72, Da.sl s73, Da.int IntKind.i64 s74, Da.int IntKind.i64 s75, Da.sl s76]] ++ List.take (List.length s5 - n22) (List.drop ((0 : Nat) + n22) s5)))))))))))))))))) : o0q r O s0 s1 s6 s8 s7 s71 s72 s73 s74 s75 s76 s5 := by
  unfold o0q
  refine d6q (E := env) (hs := l1q) envOk a9q ?_
  exact a8q (by kernel_rfl) h
theorem a0aq {p : List (List Da)} {p1 : List (List Da)} {r : AV} {O : List (Nat × Ob)} (h : g3q r O p p1 ((0 : Int)) []) : XC Try.prog 42 [(L p), (L p1)] [] r O :=
  c7q (E := env) (hs := l1q) (c := (a0q Try.f42)) (n := 82) (res := [.cell 4 75]) (rs := .d [.l]) (ks := []) (dir := []) envOk a9q rfl Try.func42 (by kernel_rfl) (by kernel_rfl) (by kernel_rfl) (by kernel_rfl) (a8q (by kernel_rfl) h)
def a1Sq : c4q := ⟨[], []⟩
theorem a1oq {s : List (List Da)} {u : List (List Da)} {l : Bool} {l1 : Int} {l2 : Int} {l3 : List (List Da)} {l4 : Int} {l5 : Int} {l6 : List (List Da)} {r : AV} {O : List (Nat × Ob)} (h : (∃ (n : Int), (∃ (n1 : Int), (∃ (xs : List (List Da)), (XC Try.prog 84 [(L s), (L u), (.dat [(.int .i64 l1), (.int .i64 l2), (.sl l3)])] [] (.agg [(.d (.int .i64 n)), (.d (.int .i64 n1)), (.ol 0)]) [(0, (.tr 31 3 xs))] ∧ (∃ (n2 : Int), (∃ (n3 : Int), (∃ (xs1 : List (List Da)), (XC Try.prog 84 [(L s), (L u), (.dat [(.int .i64 l4), (.int .i64 l5), (.sl l6)])] [] (.agg [(.d (.int .i64 n2)), (.d (.int .i64 n3)), (.ol 0)]) [(0, (.tr 31 3 xs1))] ∧ (∃ (b : Bool), (∃ (n4 : Int), (∃ (n5 : Int), (∃ (xs2 : List (List Da)), (∃ (n6 : Int), (∃ (n7 : Int), (∃ (xs3 : List (List Da)), (XC Try.prog 83 [(L s), (B l), (.dat [(.int .i64 n), (.int .i64 n1), (.sl xs)]), (.dat [(.int .i64 n2), (.int .i64 n3), (.sl xs1)])] [] (.agg [(.d (.bool b)), (.d (.int .i64 n4)), (.d (.int .i64 n5)), (.ol 0), (.d (.int .i64 n6)), (.d (.int .i64 n7)), (.ol 1)]) [(0, (.tr 31 3 xs2)), (1, (.tr 31 3 xs3))] ∧ ((.agg [(.d (.bool b)), (.d (.int .i64 n4)), (.d (.int .i64 n5)), (.ol 0), (.d (.int .i64 n6)), (.d (.int .i64 n7)), (.ol 1)]) = r ∧ [(0, (.tr 31 3 xs2)), (1, (.tr 31 3 xs3))] = O)))))))))))))))))) : XC Try.prog 35 [(L s), (L u), (.dat [(.bool l), (.int .i64 l1), (.int .i64 l2), (.sl l3), (.int .i64 l4), (.int .i64 l5), (.sl l6)])] [] r O :=
  c7q (E := env) (hs := a1Sq) (c := (a0q Try.f35)) (n := 21) (res := [.cell 6 61]) (rs := .s [.k .b, .k (.i .i64), .k (.i .i64), .o 31 3, .k (.i .i64), .k (.i .i64), .o 31 3]) (ks := []) (dir := []) envOk a9q rfl Try.func35 (by kernel_rfl) (by kernel_rfl) (by kernel_rfl) (by kernel_rfl) (a8q (by kernel_rfl) h)
def t0q : c4q := ⟨[(3, ⟨[0, 4, 5, 9, 10, 11], [], [], [], [], [], []⟩)], []⟩
def n6q (r : AV) (O : List (Nat × Ob)) (s : List (List Da)) (s9 : List (List Da)) (s10 : Int) (s11 : Int) (out : List (List Da)) : Prop := CL 32 Try.prog (e8q (a0q Try.f44) [1, 1, 0, 1, 0, 0]) (b6q Try.prog env t0q 32 (a0q Try.f44) [1, 1, 0, 1, 0, 0] (a3q env [.cell 4 75] (.s [.o 61 7]) [] [] r O) (b4q (a3q env [.cell 4 75] (.s [.o 61 7]) [] [] r O))).1 (b6q Try.prog env t0q 32 (a0q Try.f44) [1, 1, 0, 1, 0, 0] (a3q env [.cell 4 75] (.s [.o 61 7]) [] [] r O) (b4q (a3q env [.cell 4 75] (.s [.o 61 7]) [] [] r O))).2 ⟨[(0, (L s)), (4, (.one (.op 1900 0))), (5, (.one (.ol 1901))), (9, (L s9)), (10, (Z s10)), (11, (Z s11))], [(1900, (.var [.e0])), (1901, (.tr 61 7 out))]⟩
theorem D3q {r : AV} {O : List (Nat × Ob)} {s : List (List Da)} {s9 : List (List Da)} {s10 : Int} {s11 : Int} {out : List (List Da)} (h : ifB (decide (s11 < s10))
  ((∃ (m : Nat), (s11 = ((↑m : Int)) ∧ (∃ (b : Bool), (∃ (n : Int), (∃ (n1 : Int), (∃ (xs : List (List Da)), (∃ (n2 : Int), (∃ (n3 : Int), (∃ (xs1 : List (List Da)), ((s9[m]?) = some [(.bool b), (.int .i64 n), (.int .i64 n1), (.sl xs), (.int .i64 n2), (.int .i64 n3), (.sl xs1)] ∧ (∃ (b1 : Bool), (∃ (n4 : Int), (∃ (n5 : Int), (∃ (xs2 : List (List Da)), (∃ (n6 : Int), (∃ (n7 : Int), (∃ (xs3 : List (List Da)), (XC Try.prog 83 [(L s), (B b), (.dat [(.int .i64 n), (.int .i64 n1), (.sl xs)]), (.dat [(.int .i64 n2), (.int .i64 n3), (.sl xs1)])] [] (.agg [(.d (.bool b1)), (.d (.int .i64 n4)), (.d (.int .i64 n5)), (.ol 0), (.d (.int .i64 n6)), (.d (.int .i64 n7)), (.ol 1)]) [(0, (.tr 31 3 xs2)), (1, (.tr 31 3 xs3))] ∧ (Do ((List.length out + List.length [[Da.bool b1, Da.int IntKind.i64 n4, Da.int IntKind.i64 n5, Da.sl xs2, Da.int IntKind.i64 n6, Da.int IntKind.i64 n7, Da.sl xs3]]) * (88 : Nat) ≤ (140737488355328 : Nat)) ∧ n6q r O s s9 s10 (IntKind.wrap IntKind.i64 (s11 + (1 : Int))) (out ++ [[Da.bool b1, Da.int IntKind.i64 n4, Da.int IntKind.i64 n5, Da.sl xs2, Da.int IntKind.i64 n6, Da.int IntKind.i64 n7, Da.sl xs3]])))))))))))))))))))))
  ((∃ (xs4 : List (List Da)), (XC Try.prog 88 [(.one (.ol 2000)), (.one (.d (.fn 89)))] [(2000, (.tr 61 7 out))] (.tup []) [(2000, (.tr 61 7 xs4))] ∧ (∃ (xs5 : List (List Da)), (XC Try.prog 90 [(.one (.ol 2000)), (.one (.d (.fn 91)))] [(2000, (.tr 61 7 xs4))] (.one (.ol 0)) [(0, (.tr 61 7 xs5))] ∧ ((.agg [(.ol 0)]) = r ∧ [(0, (.tr 61 7 xs5))] = O))))))) : n6q r O s s9 s10 s11 out := by
  unfold n6q
  refine d6q (E := env) (hs := t0q) envOk a9q ?_
  exact a8q (by kernel_rfl) h
theorem a0iq {s : List (List Da)} {list : List (List Da)} {r : AV} {O : List (Nat × Ob)} (h : n6q r O s list ((↑(List.length list) : Int)) ((0 : Int)) []) : XC Try.prog 44 [(L s), (L list)] [] r O :=
  c7q (E := env) (hs := t0q) (c := (a0q Try.f44)) (n := 32) (res := [.cell 4 75]) (rs := .s [.o 61 7]) (ks := []) (dir := []) envOk a9q rfl Try.func44 (by kernel_rfl) (by kernel_rfl) (by kernel_rfl) (by kernel_rfl) (a8q (by kernel_rfl) h)
def A7q : c4q := ⟨[(4, ⟨[0, 1, 5], [], [], [], [], [], []⟩)], []⟩
def u3q (r : AV) (O : List (Nat × Ob)) (a : List (List Da)) (b : List (List Da)) (i : Int) : Prop := CL 27 Try.prog (e8q (a0q Try.f46) [1, 1, 0, 1, 0, 0]) (b6q Try.prog env A7q 27 (a0q Try.f46) [1, 1, 0, 1, 0, 0] (a3q env [.tmp 4] (.c .b) [] [] r O) (b4q (a3q env [.tmp 4] (.c .b) [] [] r O))).1 (b6q Try.prog env A7q 27 (a0q Try.f46) [1, 1, 0, 1, 0, 0] (a3q env [.tmp 4] (.c .b) [] [] r O) (b4q (a3q env [.tmp 4] (.c .b) [] [] r O))).2 ⟨[(0, (L a)), (1, (L b)), (5, (Z i))], []⟩
theorem K8q {r : AV} {O : List (Nat × Ob)} {a : List (List Da)} {b : List (List Da)} {i : Int} (h : ifB (decide (i < (↑(List.length a) : Int)))
  ((∃ (m : Nat), (i = ((↑m : Int)) ∧ (∃ (b2 : Bool), (∃ (n : Int), (∃ (n1 : Int), (∃ (xs : List (List Da)), (∃ (n2 : Int), (∃ (n3 : Int), (∃ (xs1 : List (List Da)), ((a[m]?) = some [(.bool b2), (.int .i64 n), (.int .i64 n1), (.sl xs), (.int .i64 n2), (.int .i64 n3), (.sl xs1)] ∧ (∃ (m1 : Nat), (i = ((↑m1 : Int)) ∧ (∃ (b3 : Bool), (∃ (n4 : Int), (∃ (n5 : Int), (∃ (xs2 : List (List Da)), (∃ (n6 : Int), (∃ (n7 : Int), (∃ (xs3 : List (List Da)), ((b[m1]?) = some [(.bool b3), (.int .i64 n4), (.int .i64 n5), (.sl xs2), (.int .i64 n6), (.int .i64 n7), (.sl xs3)] ∧ (∃ (b4 : Bool), (XC Try.prog 36 [(.dat [(.bool b2), (.int .i64 n), (.int .i64 n1), (.sl xs), (.int .i64 n2), (.int .i64 n3), (.sl xs1)]), (.dat [(.bool b3), (.int .i64 n4), (.int .i64 n5), (.sl xs2), (.int .i64 n6), (.int .i64 n7), (.sl xs3)])] [] (B b4) [] ∧ ifB (!b4)
  (((B (false)) = r ∧ [] = O))
  (u3q r O a b (IntKind.wrap IntKind.i64 (i + (1 : Int)))))))))))))))))))))))))))
  (((B (true)) = r ∧ [] = O))) : u3q r O a b i := by
  unfold u3q
  refine d6q (E := env) (hs := A7q) envOk a9q ?_
  exact a8q (by kernel_rfl) h
theorem a3kq {a : List (List Da)} {b : List (List Da)} {r : AV} {O : List (Nat × Ob)} (h : ifB (decide ((↑(List.length a) : Int) ≠ (↑(List.length b) : Int)))
  (((B (false)) = r ∧ [] = O))
  (u3q r O a b ((0 : Int)))) : XC Try.prog 46 [(L a), (L b)] [] r O :=
  c7q (E := env) (hs := A7q) (c := (a0q Try.f46)) (n := 27) (res := [.tmp 4]) (rs := .c .b) (ks := []) (dir := []) envOk a9q rfl Try.func46 (by kernel_rfl) (by kernel_rfl) (by kernel_rfl) (by kernel_rfl) (a8q (by kernel_rfl) h)
def a62q : c4q := ⟨[], []⟩
theorem a4yq {a : ByteArray} {a1 : Int} {a2 : Bool} {b : ByteArray} {b1 : Int} {b2 : Bool} {r : AV} {O : List (Nat × Ob)} (h : ifB (decide (a ≠ b))
  (((B (false)) = r ∧ [] = O))
  (ifB (decide (a1 ≠ b1))
  (((B (false)) = r ∧ [] = O))
  (ifB (decide (a2 ≠ b2))
  (((B (false)) = r ∧ [] = O))
  (((B (true)) = r ∧ [] = O))))) : XC Try.prog 67 [(.dat [(.str a), (.int .i64 a1), (.bool a2)]), (.dat [(.str b), (.int .i64 b1), (.bool b2)])] [] r O :=
  c7q (E := env) (hs := a62q) (c := (a0q Try.f67)) (n := 20) (res := [.tmp 4]) (rs := .c .b) (ks := []) (dir := []) envOk a9q rfl Try.func67 (by kernel_rfl) (by kernel_rfl) (by kernel_rfl) (by kernel_rfl) (a8q (by kernel_rfl) h)
def a41q : c4q := ⟨[], []⟩
theorem a2Vq {a : Int} {a1 : Int} {a2 : Int} {a3 : List (List Da)} {b : Int} {b1 : Int} {b2 : Int} {b3 : List (List Da)} {r : AV} {O : List (Nat × Ob)} (h : ifB (decide (a ≠ b))
  (((B (false)) = r ∧ [] = O))
  ((∃ (b4 : Bool), (XC Try.prog 16 [(.dat [(.int .i64 a1), (.int .i64 a2), (.sl a3)]), (.dat [(.int .i64 b1), (.int .i64 b2), (.sl b3)])] [] (B b4) [] ∧ ifB (!b4)
  (((B (false)) = r ∧ [] = O))
  (((B (true)) = r ∧ [] = O)))))) : XC Try.prog 85 [(.dat [(.int .i64 a), (.int .i64 a1), (.int .i64 a2), (.sl a3)]), (.dat [(.int .i64 b), (.int .i64 b1), (.int .i64 b2), (.sl b3)])] [] r O :=
  c7q (E := env) (hs := a41q) (c := (a0q Try.f85)) (n := 16) (res := [.tmp 4]) (rs := .c .b) (ks := []) (dir := []) envOk a9q rfl Try.func85 (by kernel_rfl) (by kernel_rfl) (by kernel_rfl) (by kernel_rfl) (a8q (by kernel_rfl) h)
def x0q : c4q := ⟨[(4, ⟨[0, 3], [], [], [], [], [], []⟩)], []⟩
def p7q (r : AV) (O : List (Nat × Ob)) (k : Int) (out : ByteArray) : Prop := CL 20 Try.prog (e8q (a0q Try.f68) [1, 1, 1, 0, 0, 0]) (b6q Try.prog env x0q 20 (a0q Try.f68) [1, 1, 1, 0, 0, 0] (a3q env [.tmp 2] (.c .s) [] [] r O) (b4q (a3q env [.tmp 2] (.c .s) [] [] r O))).1 (b6q Try.prog env x0q 20 (a0q Try.f68) [1, 1, 1, 0, 0, 0] (a3q env [.tmp 2] (.c .s) [] [] r O) (b4q (a3q env [.tmp 2] (.c .s) [] [] r O))).2 ⟨[(0, (Z k)), (3, (T out))], []⟩
theorem G3q {r : AV} {O : List (Nat × Ob)} {k : Int} {out : ByteArray} (h : ifB (decide ((0 : Int) < k))
  ((Do ((10 : Int) ≠ (0 : Int)) ∧ (∃ (ns : List Int), ([[(.int .u8 (IntKind.wrap IntKind.u8 (IntKind.wrap IntKind.i64 ((48 : Int) + Int.tmod k (10 : Int)))))]] = (List.map (fun n => [Da.int IntKind.u8 n]) ns) ∧ (Do (ByteArray.size (strOfNums ns ++ out) ≤ (281474976710656 : Nat)) ∧ (Do ((10 : Int) ≠ (0 : Int)) ∧ p7q r O (IntKind.wrap IntKind.i64 (Int.tdiv k (10 : Int))) (strOfNums ns ++ out)))))))
  ((Do (ByteArray.size ({ data := #[(109 : UInt8)] } ++ out) ≤ (281474976710656 : Nat)) ∧ ((T ({ data := #[(109 : UInt8)] } ++ out)) = r ∧ [] = O)))) : p7q r O k out := by
  unfold p7q
  refine d6q (E := env) (hs := x0q) envOk a9q ?_
  exact a8q (by kernel_rfl) h
theorem a1Jq {k : Int} {r : AV} {O : List (Nat × Ob)} (h : ifB (decide (k ≤ (0 : Int)))
  (((T ({ data := #[(109 : UInt8), (48 : UInt8)] })) = r ∧ [] = O))
  (p7q r O k ({ data := #[] }))) : XC Try.prog 68 [(Z k)] [] r O :=
  c7q (E := env) (hs := x0q) (c := (a0q Try.f68)) (n := 20) (res := [.tmp 2]) (rs := .c .s) (ks := []) (dir := []) envOk a9q rfl Try.func68 (by kernel_rfl) (by kernel_rfl) (by kernel_rfl) (by kernel_rfl) (a8q (by kernel_rfl) h)
def v5q : c4q := ⟨[(2, ⟨[0, 1, 5], [], [], [], [], [], []⟩)], []⟩
def o4q (r : AV) (O : List (Nat × Ob)) (k : Int) (i : Int) (a : List (List Da)) : Prop := CL 34 Try.prog (e8q (a0q Try.f69) [1, 0, 1, 0, 0]) (b6q Try.prog env v5q 34 (a0q Try.f69) [1, 0, 1, 0, 0] (a3q env [.tmp 4] (.c (.i .i64)) [(2000, (false))] [2000] r O) (b4q (a3q env [.tmp 4] (.c (.i .i64)) [(2000, (false))] [2000] r O))).1 (b6q Try.prog env v5q 34 (a0q Try.f69) [1, 0, 1, 0, 0] (a3q env [.tmp 4] (.c (.i .i64)) [(2000, (false))] [2000] r O) (b4q (a3q env [.tmp 4] (.c (.i .i64)) [(2000, (false))] [2000] r O))).2 ⟨[(0, (.one (.ol 2000))), (1, (Z k)), (5, (Z i))], [(2000, (.mt 31 3 a))]⟩
theorem D9q {r : AV} {O : List (Nat × Ob)} {k : Int} {i : Int} {a : List (List Da)} (h : ifB (decide (i < (↑(List.length a) : Int)))
  ((∃ (m : Nat), (i = ((↑m : Int)) ∧ (Do (m < List.length a) ∧ (∃ (m1 : Nat), ((m * (3 : Nat) + (0 : Nat)) = (m1 * (3 : Nat) + (0 : Nat)) ∧ (∃ (n : Int), (∃ (n1 : Int), (∃ (xs : List (List Da)), ((a[m1]?) = some [(.int .i64 n), (.int .i64 n1), (.sl xs)] ∧ (∃ (m2 : Nat), (i = ((↑m2 : Int)) ∧ (Do (m2 < List.length (List.set a m1 ([] ++ [Da.int IntKind.i64 k] ++ [Da.int IntKind.i64 n1, Da.sl xs]))) ∧ (∃ (m3 : Nat), ((m2 * (3 : Nat) + (1 : Nat)) = (m3 * (3 : Nat) + Nat.succ (nat_lit 0)) ∧ (∃ (n2 : Int), (∃ (n3 : Int), (∃ (xs1 : List (List Da)), (((List.set a m1 ([] ++ [Da.int IntKind.i64 k] ++ [Da.int IntKind.i64 n1, Da.sl xs]))[m3]?) = some [(.int .i64 n2), (.int .i64 n3), (.sl xs1)] ∧ (∃ (m4 : Nat), (i = ((↑m4 : Int)) ∧ (Do (m4 < List.length (List.set (List.set a m1 ([] ++ [Da.int IntKind.i64 k] ++ [Da.int IntKind.i64 n1, Da.sl xs])) m3 ([Da.int IntKind.i64 n2] ++ [Da.int IntKind.i64 (IntKind.wrap IntKind.i64 (k + (1 : Int)))] ++ [Da.sl xs1]))) ∧ (∃ (m5 : Nat), ((m4 * (3 : Nat) + (2 : Nat)) = (m5 * (3 : Nat) + Nat.succ (nat_lit 1)) ∧ (∃ (n4 : Int), (∃ (n5 : Int), (∃ (xs2 : List (List Da)), (((List.set (List.set a m1 ([] ++ [Da.int IntKind.i64 k] ++ [Da.int IntKind.i64 n1, Da.sl xs])) m3 ([Da.int IntKind.i64 n2] ++ [Da.int IntKind.i64 (IntKind.wrap IntKind.i64 (k + (1 : Int)))] ++ [Da.sl xs1]))[m5]?) = some [(.int .i64 n4), (.int .i64 n5), (.sl xs2)] ∧ (∀ (a1 : Option Addr), (∀ (l : Nat), (∀ (r1 : Nat), ((a1 = a1 ∧ ((l) = (l) ∧ (r1) = (r1))) ∧ (∃ (n6 : Int), (∃ (n7 : Int), (∃ (xs3 : List (List Da)), (((List.set (List.set a m1 ([] ++ [Da.int IntKind.i64 k] ++ [Da.int IntKind.i64 n1, Da.sl xs])) m3 ([Da.int IntKind.i64 n2] ++ [Da.int IntKind.i64 (IntKind.wrap IntKind.i64 (k + (1 : Int)))] ++ [Da.sl xs1]))[m5]?) = some [(.int .i64 n6), (.int .i64 n7), (.sl xs3)] ∧ (Do (∀ (y : List Da), y ∈ xs3 → List.length y = Prod.fst ((3 : Nat), (40 : Nat), [At.d (Da.int IntKind.i64 (0 : Int)), At.d (Da.int IntKind.i64 (0 : Int)), At.e0])) ∧ (∃ (ys1 : List (List Da)), (∃ (n8 : Int), (XC Try.prog 69 [(.one (.ol 2000)), (Z (IntKind.wrap IntKind.i64 (IntKind.wrap IntKind.i64 (k + (1 : Int)) + (1 : Int))))] [(2000, (.mt 31 3 xs3))] (Z n8) [(2000, (.mt 31 3 ys1))] ∧ o4q r O n8 (IntKind.wrap IntKind.i64 (i + (1 : Int))) (List.set (List.set (List.set a m1 ([] ++ [Da.int IntKind.i64 k] ++ [Da.int IntKind.i64 n1, Da.sl xs])) m3 ([Da.int IntKind.i64 n2] ++ [Da.int IntKind.i64 (IntKind.wrap IntKind.i64 (k + (1 : Int)))] ++ [Da.sl xs1])) m5 ([Da.int IntKind.i64 n6, Da.int IntKind.i64 n7] ++ [Da.sl ys1] ++ []))))))))))))))))))))))))))))))))))))))))))
  (((Z k) = r ∧ [(2000, (.mt 31 3 a))] = O))) : o4q r O k i a := by
  unfold o4q
  refine d6q (E := env) (hs := v5q) envOk a9q ?_
  exact a8q (by kernel_rfl) h
theorem a0Zq {k : Int} {o2000 : List (List Da)} {r : AV} {O : List (Nat × Ob)} (h : o4q r O k ((0 : Int)) o2000) : XC Try.prog 69 [(.one (.ol 2000)), (Z k)] [(2000, (.mt 31 3 o2000))] r O :=
  c7q (E := env) (hs := v5q) (c := (a0q Try.f69)) (n := 34) (res := [.tmp 4]) (rs := .c (.i .i64)) (ks := [(2000, (false))]) (dir := [2000]) envOk a9q rfl Try.func69 (by kernel_rfl) (by kernel_rfl) (by kernel_rfl) (by kernel_rfl) (a8q (by kernel_rfl) h)
def x3q : c4q := ⟨[(2, ⟨[0, 1, 5], [], [], [], [], [], []⟩)], []⟩
def q0q (r : AV) (O : List (Nat × Ob)) (s1 : Int) (s5 : Int) (s0 : List (List Da)) : Prop := CL 70 Try.prog (e8q (a0q Try.f47) [1, 0, 1, 0, 0]) (b6q Try.prog env x3q 70 (a0q Try.f47) [1, 0, 1, 0, 0] (a3q env [.tmp 4] (.c (.i .i64)) [(2000, (false))] [2000] r O) (b4q (a3q env [.tmp 4] (.c (.i .i64)) [(2000, (false))] [2000] r O))).1 (b6q Try.prog env x3q 70 (a0q Try.f47) [1, 0, 1, 0, 0] (a3q env [.tmp 4] (.c (.i .i64)) [(2000, (false))] [2000] r O) (b4q (a3q env [.tmp 4] (.c (.i .i64)) [(2000, (false))] [2000] r O))).2 ⟨[(0, (.one (.ol 2000))), (1, (Z s1)), (5, (Z s5))], [(2000, (.mt 61 7 s0))]⟩
theorem F9q {r : AV} {O : List (Nat × Ob)} {s1 : Int} {s5 : Int} {s0 : List (List Da)} (h : ifB (decide (s5 < (↑(List.length s0) : Int)))
  ((Do ((3 : Int) ≠ (0 : Int)) ∧ (∃ (m : Nat), (s5 = ((↑m : Int)) ∧ (Do (m < List.length s0) ∧ (∃ (m1 : Nat), ((m * (7 : Nat) + (0 : Nat)) = (m1 * (7 : Nat) + (0 : Nat)) ∧ (∃ (b : Bool), (∃ (n : Int), (∃ (n1 : Int), (∃ (xs : List (List Da)), (∃ (n2 : Int), (∃ (n3 : Int), (∃ (xs1 : List (List Da)), ((s0[m1]?) = some [(.bool b), (.int .i64 n), (.int .i64 n1), (.sl xs), (.int .i64 n2), (.int .i64 n3), (.sl xs1)] ∧ (∃ (m2 : Nat), (s5 = ((↑m2 : Int)) ∧ (Do (m2 < List.length (List.set s0 m1 ([] ++ [Da.bool (decide (Int.tmod s1 (3 : Int) = (0 : Int)))] ++ [Da.int IntKind.i64 n, Da.int IntKind.i64 n1, Da.sl xs, Da.int IntKind.i64 n2, Da.int IntKind.i64 n3, Da.sl xs1]))) ∧ (∃ (m3 : Nat), ((m2 * (7 : Nat) + (1 : Nat) + (0 : Nat)) = (m3 * (7 : Nat) + Nat.succ (nat_lit 0)) ∧ (∃ (b1 : Bool), (∃ (n4 : Int), (∃ (n5 : Int), (∃ (xs2 : List (List Da)), (∃ (n6 : Int), (∃ (n7 : Int), (∃ (xs3 : List (List Da)), (((List.set s0 m1 ([] ++ [Da.bool (decide (Int.tmod s1 (3 : Int) = (0 : Int)))] ++ [Da.int IntKind.i64 n, Da.int IntKind.i64 n1, Da.sl xs, Da.int IntKind.i64 n2, Da.int IntKind.i64 n3, Da.sl xs1]))[m3]?) = some [(.bool b1), (.int .i64 n4), (.int .i64 n5), (.sl xs2), (.int .i64 n6), (.int .i64 n7), (.sl xs3)] ∧ (∃ (m4 : Nat), (s5 = ((↑m4 : Int)) ∧ (Do (m4 < List.length (List.set (List.set s0 m1 ([] ++ [Da.bool (decide (Int.tmod s1 (3 : Int) = (0 : Int)))] ++ [Da.int IntKind.i64 n, Da.int IntKind.i64 n1, Da.sl xs, Da.int IntKind.i64 n2, Da.int IntKind.i64 n3, Da.sl xs1])) m3 ([Da.bool b1] ++ [Da.int IntKind.i64 (IntKind.wrap IntKind.i64 (s1 + (1 : Int)))] ++ [Da.int IntKind.i64 n5, Da.sl xs2, Da.int IntKind.i64 n6, Da.int IntKind.i64 n7, Da.sl xs3]))) ∧ (∃ (m5 : Nat), ((m4 * (7 : Nat) + (1 : Nat) + (1 : Nat)) = (m5 * (7 : Nat) + Nat.succ (nat_lit 1)) ∧ (∃ (b2 : Bool), (∃ (n8 : Int), (∃ (n9 : Int), (∃ (xs4 : List (List Da)), (∃ (n10 : Int), (∃ (n11 : Int), (∃ (xs5 : List (List Da)), (((List.set (List.set s0 m1 ([] ++ [Da.bool (decide (Int.tmod s1 (3 : Int) = (0 : Int)))] ++ [Da.int IntKind.i64 n, Da.int IntKind.i64 n1, Da.sl xs, Da.int IntKind.i64 n2, Da.int IntKind.i64 n3, Da.sl xs1])) m3 ([Da.bool b1] ++ [Da.int IntKind.i64 (IntKind.wrap IntKind.i64 (s1 + (1 : Int)))] ++ [Da.int IntKind.i64 n5, Da.sl xs2, Da.int IntKind.i64 n6, Da.int IntKind.i64 n7, Da.sl xs3]))[m5]?) = some [(.bool b2), (.int .i64 n8), (.int .i64 n9), (.sl xs4), (.int .i64 n10), (.int .i64 n11), (.sl xs5)] ∧ (∃ (m6 : Nat), (s5 = ((↑m6 : Int)) ∧ (Do (m6 < List.length (List.set (List.set (List.set s0 m1 ([] ++ [Da.bool (decide (Int.tmod s1 (3 : Int) = (0 : Int)))] ++ [Da.int IntKind.i64 n, Da.int IntKind.i64 n1, Da.sl xs, Da.int IntKind.i64 n2, Da.int IntKind.i64 n3, Da.sl xs1])) m3 ([Da.bool b1] ++ [Da.int IntKind.i64 (IntKind.wrap IntKind.i64 (s1 + (1 : Int)))] ++ [Da.int IntKind.i64 n5, Da.sl xs2, Da.int IntKind.i64 n6, Da.int IntKind.i64 n7, Da.sl xs3])) m5 ([Da.bool b2, Da.int IntKind.i64 n8] ++ [Da.int IntKind.i64 (IntKind.wrap IntKind.i64 (IntKind.wrap IntKind.i64 (s1 + (1 : Int)) + (1 : Int)))] ++ [Da.sl xs4, Da.int IntKind.i64 n10, Da.int IntKind.i64 n11, Da.sl xs5]))) ∧ (∃ (m7 : Nat), ((m6 * (7 : Nat) + (1 : Nat) + (2 : Nat)) = (m7 * (7 : Nat) + Nat.succ (nat_lit 2)) ∧ (∃ (b3 : Bool), (∃ (n12 : Int), (∃ (n13 : Int), (∃ (xs6 : List (List Da)), (∃ (n14 : Int), (∃ (n15 : Int), (∃ (xs7 : List (List Da)), (((List.set (List.set (List.set s0 m1 ([] ++ [Da.bool (decide (Int.tmod s1 (3 : Int) = (0 : Int)))] ++ [Da.int IntKind.i64 n, Da.int IntKind.i64 n1, Da.sl xs, Da.int IntKind.i64 n2, Da.int IntKind.i64 n3, Da.sl xs1])) m3 ([Da.bool b1] ++ [Da.int IntKind.i64 (IntKind.wrap IntKind.i64 (s1 + (1 : Int)))] ++ [Da.int IntKind.i64 n5, Da.sl xs2, Da.int IntKind.i64 n6, Da.int IntKind.i64 n7, Da.sl xs3])) m5 ([Da.bool b2, Da.int IntKind.i64 n8] ++ [Da.int IntKind.i64 (IntKind.wrap IntKind.i64 (IntKind.wrap IntKind.i64 (s1 + (1 : Int)) + (1 : Int)))] ++ [Da.sl xs4, Da.int IntKind.i64 n10, Da.int IntKind.i64 n11, Da.sl xs5]))[m7]?) = some [(.bool b3), (.int .i64 n12), (.int .i64 n13), (.sl xs6), (.int .i64 n14), (.int .i64 n15), (.sl xs7)] ∧ (∀ (a : Option Addr), (∀ (l : Nat), (∀ (r1 : Nat), ((a = a ∧ ((l) = (l) ∧ (r1) = (r1))) ∧ (∃ (b4 : Bool), (∃ (n16 : Int), (∃ (n17 : Int), (∃ (xs8 : List (List Da)), (∃ (n18 : Int), (∃ (n19 : Int), (∃ (xs9 : List (List Da)), (((List.set (List.set (List.set s0 m1 ([] ++ [Da.bool (decide (Int.tmod s1 (3 : Int) = (0 : Int)))] ++ [Da.int IntKind.i64 n, Da.int IntKind.i64 n1, Da.sl xs, Da.int IntKind.i64 n2, Da.int IntKind.i64 n3, Da.sl xs1])) m3 ([Da.bool b1] ++ [Da.int IntKind.i64 (IntKind.wrap IntKind.i64 (s1 + (1 : Int)))] ++ [Da.int IntKind.i64 n5, Da.sl xs2, Da.int IntKind.i64 n6, Da.int IntKind.i64 n7, Da.sl xs3])) m5 ([Da.bool b2, Da.int IntKind.i64 n8] ++ [Da.int IntKind.i64 (IntKind.wrap IntKind.i64 (IntKind.wrap IntKind.i64 (s1 + (1 : Int)) + (1 : Int)))] ++ [Da.sl xs4, Da.int IntKind.i64 n10, Da.int IntKind.i64 n11, Da.sl xs5]))[m7]?) = some [(.bool b4), (.int .i64 n16), (.int .i64 n17), (.sl xs8), (.int .i64 n18), (.int .i64 n19), (.sl xs9)] ∧ (Do (∀ (y : List Da), y ∈ xs8 → List.length y = Prod.fst ((3 : Nat), (40 : Nat), [At.d (Da.int IntKind.i64 (0 : Int)), At.d (Da.int IntKind.i64 (0 : Int)), At.e0])) ∧ (∃ (ys1 : List (List Da)), (∃ (n20 : Int), (XC Try.prog 69 [(.one (.ol 2000)), (Z (IntKind.wrap IntKind.i64 (IntKind.wrap IntKind.i64 (IntKind.wrap IntKind.i64 (s1 + (1 : Int)) + (1 : Int)) + (1 : Int))))] [(2000, (.mt 31 3 xs8))] (Z n20) [(2000, (.mt 31 3 ys1))] ∧ (∃ (m8 : Nat), (s5 = ((↑m8 : Int)) ∧ (Do (m8 < List.length (List.set (List.set (List.set (List.set s0 m1 ([] ++ [Da.bool (decide (Int.tmod s1 (3 : Int) = (0 : Int)))] ++ [Da.int IntKind.i64 n, Da.int IntKind.i64 n1, Da.sl xs, Da.int IntKind.i64 n2, Da.int IntKind.i64 n3, Da.sl xs1])) m3 ([Da.bool b1] ++ [Da.int IntKind.i64 (IntKind.wrap IntKind.i64 (s1 + (1 : Int)))] ++ [Da.int IntKind.i64 n5, Da.sl xs2, Da.int IntKind.i64 n6, Da.int IntKind.i64 n7, Da.sl xs3])) m5 ([Da.bool b2, Da.int IntKind.i64 n8] ++ [Da.int IntKind.i64 (IntKind.wrap IntKind.i64 (IntKind.wrap IntKind.i64 (s1 + (1 : Int)) + (1 : Int)))] ++ [Da.sl xs4, Da.int IntKind.i64 n10, Da.int IntKind.i64 n11, Da.sl xs5])) m7 ([Da.bool b4, Da.int IntKind.i64 n16, Da.int IntKind.i64 n17] ++ [Da.sl ys1] ++ [Da.int IntKind.i64 n18, Da.int IntKind.i64 n19, Da.sl xs9]))) ∧ (∃ (m9 : Nat), ((m8 * (7 : Nat) + (4 : Nat) + (0 : Nat)) = (m9 * (7 : Nat) + Nat.succ (nat_lit 3)) ∧ (∃ (b5 : Bool), (∃ (n21 : Int), (∃ (n22 : Int), (∃ (xs10 : List (List Da)), (∃ (n23 : Int), (∃ (n24 : Int), (∃ (xs11 : List (List Da)), (((List.set (List.set (List.set (List.set s0 m1 ([] ++ [Da.bool (decide (Int.tmod s1 (3 : Int) = (0 : Int)))] ++ [Da.int IntKind.i64 n, Da.int IntKind.i64 n1, Da.sl xs, Da.int IntKind.i64 n2, Da.int IntKind.i64 n3, Da.sl xs1])) m3 ([Da.bool b1] ++ [Da.int IntKind.i64 (IntKind.wrap IntKind.i64 (s1 + (1 : Int)))] ++ [Da.int IntKind.i64 n5, Da.sl xs2, Da.int IntKind.i64 n6, Da.int IntKind.i64 n7, Da.sl xs3])) m5 ([Da.bool b2, Da.int IntKind.i64 n8] ++ [Da.int IntKind.i64 (IntKind.wrap IntKind.i64 (IntKind.wrap IntKind.i64 (s1 + (1 : Int)) + (1 : Int)))] ++ [Da.sl xs4, Da.int IntKind.i64 n10, Da.int IntKind.i64 n11, Da.sl xs5])) m7 ([Da.bool b4, Da.int IntKind.i64 n16, Da.int IntKind.i64 n17] ++ [Da.sl ys1] ++ [Da.int IntKind.i64 n18, Da.int IntKind.i64 n19, Da.sl xs9]))[m9]?) = some [(.bool b5), (.int .i64 n21), (.int .i64 n22), (.sl xs10), (.int .i64 n23), (.int .i64 n24), (.sl xs11)] ∧ (∃ (m10 : Nat), (s5 = ((↑m10 : Int)) ∧ (Do (m10 < List.length (List.set (List.set (List.set (List.set (List.set s0 m1 ([] ++ [Da.bool (decide (Int.tmod s1 (3 : Int) = (0 : Int)))] ++ [Da.int IntKind.i64 n, Da.int IntKind.i64 n1, Da.sl xs, Da.int IntKind.i64 n2, Da.int IntKind.i64 n3, Da.sl xs1])) m3 ([Da.bool b1] ++ [Da.int IntKind.i64 (IntKind.wrap IntKind.i64 (s1 + (1 : Int)))] ++ [Da.int IntKind.i64 n5, Da.sl xs2, Da.int IntKind.i64 n6, Da.int IntKind.i64 n7, Da.sl xs3])) m5 ([Da.bool b2, Da.int IntKind.i64 n8] ++ [Da.int IntKind.i64 (IntKind.wrap IntKind.i64 (IntKind.wrap IntKind.i64 (s1 + (1 : Int)) + (1 : Int)))] ++ [Da.sl xs4, Da.int IntKind.i64 n10, Da.int IntKind.i64 n11, Da.sl xs5])) m7 ([Da.bool b4, Da.int IntKind.i64 n16, Da.int IntKind.i64 n17] ++ [Da.sl ys1] ++ [Da.int IntKind.i64 n18, Da.int IntKind.i64 n19, Da.sl xs9])) m9 ([Da.bool b5, Da.int IntKind.i64 n21, Da.int IntKind.i64 n22, Da.sl xs10] ++ [Da.int IntKind.i64 n20] ++ [Da.int IntKind.i64 n24, Da.sl xs11]))) ∧ (∃ (m11 : Nat), ((m10 * (7 : Nat) + (4 : Nat) + (1 : Nat)) = (m11 * (7 : Nat) + Nat.succ (nat_lit 4)) ∧ (∃ (b6 : Bool), (∃ (n25 : Int), (∃ (n26 : Int), (∃ (xs12 : List (List Da)), (∃ (n27 : Int), (∃ (n28 : Int), (∃ (xs13 : List (List Da)), (((List.set (List.set (List.set (List.set (List.set s0 m1 ([] ++ [Da.bool (decide (Int.tmod s1 (3 : Int) = (0 : Int)))] ++ [Da.int IntKind.i64 n, Da.int IntKind.i64 n1, Da.sl xs, Da.int IntKind.i64 n2, Da.int IntKind.i64 n3, Da.sl xs1])) m3 ([Da.bool b1] ++ [Da.int IntKind.i64 (IntKind.wrap IntKind.i64 (s1 + (1 : Int)))] ++ [Da.int IntKind.i64 n5, Da.sl xs2, Da.int IntKind.i64 n6, Da.int IntKind.i64 n7, Da.sl xs3])) m5 ([Da.bool b2, Da.int IntKind.i64 n8] ++ [Da.int IntKind.i64 (IntKind.wrap IntKind.i64 (IntKind.wrap IntKind.i64 (s1 + (1 : Int)) + (1 : Int)))] ++ [Da.sl xs4, Da.int IntKind.i64 n10, Da.int IntKind.i64 n11, Da.sl xs5])) m7 ([Da.bool b4, Da.int IntKind.i64 n16, Da.int IntKind.i64 n17] ++ [Da.sl ys1] ++ [Da.int IntKind.i64 n18, Da.int IntKind.i64 n19, Da.sl xs9])) m9 ([Da.bool b5, Da.int IntKind.i64 n21, Da.int IntKind.i64 n22, Da.sl xs10] ++ [Da.int IntKind.i64 n20] ++ [Da.int IntKind.i64 n24, Da.sl xs11]))[m11]?) = some [(.bool b6), (.int .i64 n25), (.int .i64 n26), (.sl xs12), (.int .i64 n27), (.int .i64 n28), (.sl xs13)] ∧ (∃ (m12 : Nat), (s5 = ((↑m12 : Int)) ∧ (Do (m12 < List.length (List.set (List.set (List.set (List.set (List.set (List.set s0 m1 ([] ++ [Da.bool (decide (Int.tmod s1 (3 : Int) = (0 : Int)))] ++ [Da.int IntKind.i64 n, Da.int IntKind.i64 n1, Da.sl xs, Da.int IntKind.i64 n2, Da.int IntKind.i64 n3, Da.sl xs1])) m3 ([Da.bool b1] ++ [Da.int IntKind.i64 (IntKind.wrap IntKind.i64 (s1 + (1 : Int)))] ++ [Da.int IntKind.i64 n5, Da.sl xs2, Da.int IntKind.i64 n6, Da.int IntKind.i64 n7, Da.sl xs3])) m5 ([Da.bool b2, Da.int IntKind.i64 n8] ++ [Da.int IntKind.i64 (IntKind.wrap IntKind.i64 (IntKind.wrap IntKind.i64 (s1 + (1 : Int)) + (1 : Int)))] ++ [Da.sl xs4, Da.int IntKind.i64 n10, Da.int IntKind.i64 n11, Da.sl xs5])) m7 ([Da.bool b4, Da.int IntKind.i64 n16, Da.int IntKind.i64 n17] ++ [Da.sl ys1] ++ [Da.int IntKind.i64 n18, Da.int IntKind.i64 n19, Da.sl xs9])) m9 ([Da.bool b5, Da.int IntKind.i64 n21, Da.int IntKind.i64 n22, Da.sl xs10] ++ [Da.int IntKind.i64 n20] ++ [Da.int IntKind.i64 n24, Da.sl xs11])) m11 ([Da.bool b6, Da.int IntKind.i64 n25, Da.int IntKind.i64 n26, Da.sl xs12, Da.int IntKind.i64 n27] ++ [Da.int IntKind.i64 (IntKind.wrap IntKind.i64 (n20 + (1 : Int)))] ++ [Da.sl xs13]))) ∧ (∃ (m13 : Nat), ((m12 * (7 : Nat) + (4 : Nat) + (2 : Nat)) = (m13 * (7 : Nat) + Nat.succ (nat_lit 5)) ∧ (∃ (b7 : Bool), (∃ (n29 : Int), (∃ (n30 : Int), (∃ (xs14 : List (List Da)), (∃ (n31 : Int), (∃ (n32 : Int), (∃ (xs15 : List (List Da)), (((List.set (List.set (List.set (List.set (List.set (List.set s0 m1 ([] ++ [Da.bool (decide (Int.tmod s1 (3 : Int) = (0 : Int)))] ++ [Da.int IntKind.i64 n, Da.int IntKind.i64 n1, Da.sl xs, Da.int IntKind.i64 n2, Da.int IntKind.i64 n3, Da.sl xs1])) m3 ([Da.bool b1] ++ [Da.int IntKind.i64 (IntKind.wrap IntKind.i64 (s1 + (1 : Int)))] ++ [Da.int IntKind.i64 n5, Da.sl xs2, Da.int IntKind.i64 n6, Da.int IntKind.i64 n7, Da.sl xs3])) m5 ([Da.bool b2, Da.int IntKind.i64 n8] ++ [Da.int IntKind.i64 (IntKind.wrap IntKind.i64 (IntKind.wrap IntKind.i64 (s1 + (1 : Int)) + (1 : Int)))] ++ [Da.sl xs4, Da.int IntKind.i64 n10, Da.int IntKind.i64 n11, Da.sl xs5])) m7 ([Da.bool b4, Da.int IntKind.i64 n16, Da.int IntKind.i64 n17] ++ [Da.sl ys1] ++ [Da.int IntKind.i64 n18, Da.int IntKind.i64 n19, Da.sl xs9])) m9 ([Da.bool b5, Da.int IntKind.i64 n21, Da.int IntKind.i64 n22, Da.sl xs10] ++ [Da.int IntKind.i64 n20] ++ [Da.int IntKind.i64 n24, Da.sl xs11])) m11 ([Da.bool b6, Da.int IntKind.i64 n25, Da.int IntKind.i64 n26, Da.sl xs12, Da.int IntKind.i64 n27] ++ [Da.int IntKind.i64 (IntKind.wrap IntKind.i64 (n20 + (1 : Int)))] ++ [Da.sl xs13]))[m13]?) = some [(.bool b7), (.int .i64 n29), (.int .i64 n30), (.sl xs14), (.int .i64 n31), (.int .i64 n32), (.sl xs15)] ∧ (∀ (a1 : Option Addr), (∀ (l1 : Nat), (∀ (r2 : Nat), ((a1 = a1 ∧ ((l1) = (l1) ∧ (r2) = (r2))) ∧ (∃ (b8 : Bool), (∃ (n33 : Int), (∃ (n34 : Int), (∃ (xs16 : List (List Da)), (∃ (n35 : Int), (∃ (n36 : Int), (∃ (xs17 : List (List Da)), (((List.set (List.set (List.set (List.set (List.set (List.set s0 m1 ([] ++ [Da.bool (decide (Int.tmod s1 (3 : Int) = (0 : Int)))] ++ [Da.int IntKind.i64 n, Da.int IntKind.i64 n1, Da.sl xs, Da.int IntKind.i64 n2, Da.int IntKind.i64 n3, Da.sl xs1])) m3 ([Da.bool b1] ++ [Da.int IntKind.i64 (IntKind.wrap IntKind.i64 (s1 + (1 : Int)))] ++ [Da.int IntKind.i64 n5, Da.sl xs2, Da.int IntKind.i64 n6, Da.int IntKind.i64 n7, Da.sl xs3])) m5 ([Da.bool b2, Da.int IntKind.i64 n8] ++ [Da.int IntKind.i64 (IntKind.wrap IntKind.i64 (IntKind.wrap IntKind.i64 (s1 + (1 : Int)) + (1 : Int)))] ++ [Da.sl xs4, Da.int IntKind.i64 n10, Da.int IntKind.i64 n11, Da.sl xs5])) m7 ([Da.bool b4, Da.int IntKind.i64 n16, Da.int IntKind.i64 n17] ++ [Da.sl ys1] ++ [Da.int IntKind.i64 n18, Da.int IntKind.i64 n19, Da.sl xs9])) m9 ([Da.bool b5, Da.int IntKind.i64 n21, Da.int IntKind.i64 n22, Da.sl xs10] ++ [Da.int IntKind.i64 n20] ++ [Da.int IntKind.i64 n24, Da.sl xs11])) m11 ([Da.bool b6, Da.int IntKind.i64 n25, Da.int IntKind.i64 n26, Da.sl xs12, Da.int IntKind.i64 n27] ++ [Da.int IntKind.i64 (IntKind.wrap IntKind.i64 (n20 + (1 : Int)))] ++ [Da.sl xs13]))[m13]?) = some [(.bool b8), (.int .i64 n33), (.int .i64 n34), (.sl xs16), (.int .i64 n35), (.int .i64 n36), (.sl xs17)] ∧ (Do (∀ (y : List Da), y ∈ xs17 → List.length y = Prod.fst ((3 : Nat), (40 : Nat), [At.d (Da.int IntKind.i64 (0 : Int)), At.d (Da.int IntKind.i64 (0 : Int)), At.e0])) ∧ (∃ (ys11 : List (List Da)), (∃ (n37 : Int), (XC Try.prog 69 [(.one (.ol 2000)), (Z (IntKind.wrap IntKind.i64 (IntKind.wrap IntKind.i64 (n20 + (1 : Int)) + (1 : Int))))] [(2000, (.mt 31 3 xs17))] (Z n37) [(2000, (.mt 31 3 ys11))] ∧ q0q r O n37 (IntKind.wrap IntKind.i64 (s5 + (1 : Int))) (List.set (List.set (List.set (List.set (List.set (List.set (List.set s0 m1 ([] ++ [Da.bool (decide (Int.tmod s1 (3 : Int) = (0 : Int)))] ++ [Da.int IntKind.i64 n, Da.int IntKind.i64 n1, Da.sl xs, Da.int IntKind.i64 n2, Da.int IntKind.i64 n3, Da.sl xs1])) m3 ([Da.bool b1] ++ [Da.int IntKind.i64 (IntKind.wrap IntKind.i64 (s1 + (1 : Int)))] ++ [Da.int IntKind.i64 n5, Da.sl xs2, Da.int IntKind.i64 n6, Da.int IntKind.i64 n7, Da.sl xs3])) m5 ([Da.bool b2, Da.int IntKind.i64 n8] ++ [Da.int IntKind.i64 (IntKind.wrap IntKind.i64 (IntKind.wrap IntKind.i64 (s1 + (1 : Int)) + (1 : Int)))] ++ [Da.sl xs4, Da.int IntKind.i64 n10, Da.int IntKind.i64 n11, Da.sl xs5])) m7 ([Da.bool b4, Da.int IntKind.i64 n16, Da.int IntKind.i64 n17] ++ [Da.sl ys1] ++ [Da.int IntKind.i64 n18, Da.int IntKind.i64 n19, Da.sl xs9])) m9 ([Da.bool b5, Da.int IntKind.i64 n21, Da.int IntKind.i64 n22, Da.sl xs10] ++ [Da.int IntKind.i64 n20] ++ [Da.int IntKind.i64 n24, Da.sl xs11])) m11 ([Da.bool b6, Da.int IntKind.i64 n25, Da.int IntKind.i64 n26, Da.sl xs12, Da.int IntKind.i64 n27] ++ [Da.int IntKind.i64 (IntKind.wrap IntKind.i64 (n20 + (1 : Int)))] ++ [Da.sl xs13])) m13 ([Da.bool b8, Da.int IntKind.i64 n33, Da.int IntKind.i64 n34, Da.sl xs16, Da.int IntKind.i64 n35, Da.int IntKind.i64 n36] ++ [Da.sl ys11] ++ [])))))))))))))))))))))))))))))))))))))))))))))))))))))))))))))))))))))))))))))))))))))))))))))))))))))))))))))))))))))))))))))))
  (((Z s1) = r ∧ [(2000, (.mt 61 7 s0))] = O))) : q0q r O s1 s5 s0 := by
  unfold q0q
  refine d6q (E := env) (hs := x3q) envOk a9q ?_
  exact a8q (by kernel_rfl) h
theorem a1tq {p : Int} {o2000 : List (List Da)} {r : AV} {O : List (Nat × Ob)} (h : q0q r O p ((0 : Int)) o2000) : XC Try.prog 47 [(.one (.ol 2000)), (Z p)] [(2000, (.mt 61 7 o2000))] r O :=
  c7q (E := env) (hs := x3q) (c := (a0q Try.f47)) (n := 70) (res := [.tmp 4]) (rs := .c (.i .i64)) (ks := [(2000, (false))]) (dir := [2000]) envOk a9q rfl Try.func47 (by kernel_rfl) (by kernel_rfl) (by kernel_rfl) (by kernel_rfl) (a8q (by kernel_rfl) h)
def x5q : c4q := ⟨[(2, ⟨[0, 1, 5], [], [], [], [], [], []⟩)], []⟩
def p8q (r : AV) (O : List (Nat × Ob)) (s0 : List (List Da)) (s1 : Int) (s5 : Int) : Prop := CL 84 Try.prog (e8q (a0q Try.f92) [1, 0, 1, 0, 0]) (b6q Try.prog env x5q 84 (a0q Try.f92) [1, 0, 1, 0, 0] (a3q env [.tmp 4] (.c (.i .i64)) [] [] r O) (b4q (a3q env [.tmp 4] (.c (.i .i64)) [] [] r O))).1 (b6q Try.prog env x5q 84 (a0q Try.f92) [1, 0, 1, 0, 0] (a3q env [.tmp 4] (.c (.i .i64)) [] [] r O) (b4q (a3q env [.tmp 4] (.c (.i .i64)) [] [] r O))).2 ⟨[(0, (L s0)), (1, (Z s1)), (5, (Z s5))], []⟩
theorem G0q {r : AV} {O : List (Nat × Ob)} {s0 : List (List Da)} {s1 : Int} {s5 : Int} (h : ifB (decide (s5 < (↑(List.length s0) : Int)))
  ((∃ (m : Nat), (s5 = ((↑m : Int)) ∧ (∃ (b : Bool), (∃ (n : Int), (∃ (n1 : Int), (∃ (xs : List (List Da)), (∃ (n2 : Int), (∃ (n3 : Int), (∃ (xs1 : List (List Da)), ((s0[m]?) = some [(.bool b), (.int .i64 n), (.int .i64 n1), (.sl xs), (.int .i64 n2), (.int .i64 n3), (.sl xs1)] ∧ (Do ((3 : Int) ≠ (0 : Int)) ∧ ifB (decide (b ≠ decide (Int.tmod s1 (3 : Int) = (0 : Int))))
  (((Z ((-1 : Int))) = r ∧ [] = O))
  ((∃ (m1 : Nat), (s5 = ((↑m1 : Int)) ∧ (∃ (b1 : Bool), (∃ (n4 : Int), (∃ (n5 : Int), (∃ (xs2 : List (List Da)), (∃ (n6 : Int), (∃ (n7 : Int), (∃ (xs3 : List (List Da)), ((s0[m1]?) = some [(.bool b1), (.int .i64 n4), (.int .i64 n5), (.sl xs2), (.int .i64 n6), (.int .i64 n7), (.sl xs3)] ∧ ifB (decide (n4 ≠ IntKind.wrap IntKind.i64 (s1 + (1 : Int))))
  (((Z ((-1 : Int))) = r ∧ [] = O))
  ((∃ (m2 : Nat), (s5 = ((↑m2 : Int)) ∧ (∃ (b2 : Bool), (∃ (n8 : Int), (∃ (n9 : Int), (∃ (xs4 : List (List Da)), (∃ (n10 : Int), (∃ (n11 : Int), (∃ (xs5 : List (List Da)), ((s0[m2]?) = some [(.bool b2), (.int .i64 n8), (.int .i64 n9), (.sl xs4), (.int .i64 n10), (.int .i64 n11), (.sl xs5)] ∧ ifB (decide (n9 ≠ IntKind.wrap IntKind.i64 (IntKind.wrap IntKind.i64 (s1 + (1 : Int)) + (1 : Int))))
  (((Z ((-1 : Int))) = r ∧ [] = O))
  ((∃ (m3 : Nat), (s5 = ((↑m3 : Int)) ∧ (∃ (b3 : Bool), (∃ (n12 : Int), (∃ (n13 : Int), (∃ (xs6 : List (List Da)), (∃ (n14 : Int), (∃ (n15 : Int), (∃ (xs7 : List (List Da)), ((s0[m3]?) = some [(.bool b3), (.int .i64 n12), (.int .i64 n13), (.sl xs6), (.int .i64 n14), (.int .i64 n15), (.sl xs7)] ∧ (∃ (n16 : Int), (XC Try.prog 70 [(L xs6), (Z (IntKind.wrap IntKind.i64 (IntKind.wrap IntKind.i64 (IntKind.wrap IntKind.i64 (s1 + (1 : Int)) + (1 : Int)) + (1 : Int))))] [] (Z n16) [] ∧ ifB (decide (n16 < (0 : Int)))
  (((Z ((-1 : Int))) = r ∧ [] = O))
  ((∃ (m4 : Nat), (s5 = ((↑m4 : Int)) ∧ (∃ (b4 : Bool), (∃ (n17 : Int), (∃ (n18 : Int), (∃ (xs8 : List (List Da)), (∃ (n19 : Int), (∃ (n20 : Int), (∃ (xs9 : List (List Da)), ((s0[m4]?) = some [(.bool b4), (.int .i64 n17), (.int .i64 n18), (.sl xs8), (.int .i64 n19), (.int .i64 n20), (.sl xs9)] ∧ ifB (decide (n19 ≠ n16))
  (((Z ((-1 : Int))) = r ∧ [] = O))
  ((∃ (m5 : Nat), (s5 = ((↑m5 : Int)) ∧ (∃ (b5 : Bool), (∃ (n21 : Int), (∃ (n22 : Int), (∃ (xs10 : List (List Da)), (∃ (n23 : Int), (∃ (n24 : Int), (∃ (xs11 : List (List Da)), ((s0[m5]?) = some [(.bool b5), (.int .i64 n21), (.int .i64 n22), (.sl xs10), (.int .i64 n23), (.int .i64 n24), (.sl xs11)] ∧ ifB (decide (n24 ≠ IntKind.wrap IntKind.i64 (n16 + (1 : Int))))
  (((Z ((-1 : Int))) = r ∧ [] = O))
  ((∃ (m6 : Nat), (s5 = ((↑m6 : Int)) ∧ (∃ (b6 : Bool), (∃ (n25 : Int), (∃ (n26 : Int), (∃ (xs12 : List (List Da)), (∃ (n27 : Int), (∃ (n28 : Int), (∃ (xs13 : List (List Da)), ((s0[m6]?) = some [(.bool b6), (.int .i64 n25), (.int .i64 n26), (.sl xs12), (.int .i64 n27), (.int .i64 n28), (.sl xs13)] ∧ (∃ (n29 : Int), (XC Try.prog 70 [(L xs13), (Z (IntKind.wrap IntKind.i64 (IntKind.wrap IntKind.i64 (n16 + (1 : Int)) + (1 : Int))))] [] (Z n29) [] ∧ ifB (decide (n29 < (0 : Int)))
  (((Z ((-1 : Int))) = r ∧ [] = O))
  (p8q r O s0 n29 (IntKind.wrap IntKind.i64 (s5 + (1 : Int))))))))))))))))))))))))))))))))))))))))))))))))))))))))))))))))))))))))))))))))))))))
  (((Z s1) = r ∧ [] = O))) : p8q r O s0 s1 s5 := by
  unfold p8q
  refine d6q (E := env) (hs := x5q) envOk a9q ?_
  exact a8q (by kernel_rfl) h
theorem a1Cq {p : List (List Da)} {p1 : Int} {r : AV} {O : List (Nat × Ob)} (h : p8q r O p p1 ((0 : Int))) : XC Try.prog 92 [(L p), (Z p1)] [] r O :=
  c7q (E := env) (hs := x5q) (c := (a0q Try.f92)) (n := 84) (res := [.tmp 4]) (rs := .c (.i .i64)) (ks := []) (dir := []) envOk a9q rfl Try.func92 (by kernel_rfl) (by kernel_rfl) (by kernel_rfl) (by kernel_rfl) (a8q (by kernel_rfl) h)
def a4vq : c4q := ⟨[], []⟩
theorem a32q {a : Int} {a1 : Int} {a2 : List (List Da)} {left : Int} {r : AV} {O : List (Nat × Ob)} (h : (∃ (n : Int), (XC Try.prog 57 [(L a2), (Z left)] [] (Z n) [] ∧ ifB (decide (n < (0 : Int)))
  (((Z ((-1 : Int))) = r ∧ [] = O))
  (((Z n) = r ∧ [] = O))))) : XC Try.prog 10 [(.dat [(.int .i64 a), (.int .i64 a1), (.sl a2)]), (Z left)] [] r O :=
  c7q (E := env) (hs := a4vq) (c := (a0q Try.f10)) (n := 12) (res := [.tmp 4]) (rs := .c (.i .i64)) (ks := []) (dir := []) envOk a9q rfl Try.func10 (by kernel_rfl) (by kernel_rfl) (by kernel_rfl) (by kernel_rfl) (a8q (by kernel_rfl) h)
def a5Jq : c4q := ⟨[], []⟩
theorem a4jq {a : Bool} {a1 : Int} {a2 : Int} {a3 : List (List Da)} {a4 : Int} {a5 : Int} {a6 : List (List Da)} {left : Int} {r : AV} {O : List (Nat × Ob)} (h : (∃ (n : Int), (XC Try.prog 10 [(.dat [(.int .i64 a1), (.int .i64 a2), (.sl a3)]), (Z left)] [] (Z n) [] ∧ ifB (decide (n < (0 : Int)))
  (((Z ((-1 : Int))) = r ∧ [] = O))
  ((∃ (n1 : Int), (XC Try.prog 10 [(.dat [(.int .i64 a4), (.int .i64 a5), (.sl a6)]), (Z n)] [] (Z n1) [] ∧ ifB (decide (n1 < (0 : Int)))
  (((Z ((-1 : Int))) = r ∧ [] = O))
  (((Z n1) = r ∧ [] = O)))))))) : XC Try.prog 31 [(.dat [(.bool a), (.int .i64 a1), (.int .i64 a2), (.sl a3), (.int .i64 a4), (.int .i64 a5), (.sl a6)]), (Z left)] [] r O :=
  c7q (E := env) (hs := a5Jq) (c := (a0q Try.f31)) (n := 18) (res := [.tmp 4]) (rs := .c (.i .i64)) (ks := []) (dir := []) envOk a9q rfl Try.func31 (by kernel_rfl) (by kernel_rfl) (by kernel_rfl) (by kernel_rfl) (a8q (by kernel_rfl) h)
def a4iq : c4q := ⟨[], []⟩
theorem a3vq {a : Int} {a1 : Int} {a2 : List (List Da)} {r : AV} {O : List (Nat × Ob)} (h : (∃ (xs : List (List Da)), (XC Try.prog 62 [(L a2)] [] (.one (.ol 0)) [(0, (.tr 31 3 xs))] ∧ ((.agg [(.d (.int .i64 a)), (.d (.int .i64 a1)), (.ol 0)]) = r ∧ [(0, (.tr 31 3 xs))] = O)))) : XC Try.prog 13 [(.dat [(.int .i64 a), (.int .i64 a1), (.sl a2)])] [] r O :=
  c7q (E := env) (hs := a4iq) (c := (a0q Try.f13)) (n := 15) (res := [.cell 2 31]) (rs := .s [.k (.i .i64), .k (.i .i64), .o 31 3]) (ks := []) (dir := []) envOk a9q rfl Try.func13 (by kernel_rfl) (by kernel_rfl) (by kernel_rfl) (by kernel_rfl) (a8q (by kernel_rfl) h)
def a52q : c4q := ⟨[], []⟩
theorem a4Eq {a : Bool} {a1 : Int} {a2 : Int} {a3 : List (List Da)} {a4 : Int} {a5 : Int} {a6 : List (List Da)} {r : AV} {O : List (Nat × Ob)} (h : (∃ (n : Int), (∃ (n1 : Int), (∃ (xs : List (List Da)), (XC Try.prog 13 [(.dat [(.int .i64 a1), (.int .i64 a2), (.sl a3)])] [] (.agg [(.d (.int .i64 n)), (.d (.int .i64 n1)), (.ol 0)]) [(0, (.tr 31 3 xs))] ∧ (∃ (n2 : Int), (∃ (n3 : Int), (∃ (xs1 : List (List Da)), (XC Try.prog 13 [(.dat [(.int .i64 a4), (.int .i64 a5), (.sl a6)])] [] (.agg [(.d (.int .i64 n2)), (.d (.int .i64 n3)), (.ol 0)]) [(0, (.tr 31 3 xs1))] ∧ ((.agg [(.d (.bool a)), (.d (.int .i64 n)), (.d (.int .i64 n1)), (.ol 0), (.d (.int .i64 n2)), (.d (.int .i64 n3)), (.ol 1)]) = r ∧ [(0, (.tr 31 3 xs)), (1, (.tr 31 3 xs1))] = O)))))))))) : XC Try.prog 34 [(.dat [(.bool a), (.int .i64 a1), (.int .i64 a2), (.sl a3), (.int .i64 a4), (.int .i64 a5), (.sl a6)])] [] r O :=
  c7q (E := env) (hs := a52q) (c := (a0q Try.f34)) (n := 16) (res := [.cell 2 61]) (rs := .s [.k .b, .k (.i .i64), .k (.i .i64), .o 31 3, .k (.i .i64), .k (.i .i64), .o 31 3]) (ks := []) (dir := []) envOk a9q rfl Try.func34 (by kernel_rfl) (by kernel_rfl) (by kernel_rfl) (by kernel_rfl) (a8q (by kernel_rfl) h)
def a4Vq : c4q := ⟨[], []⟩
theorem a4tq {s : List (List Da)} {u : List (List Da)} {t : Int} {t1 : Int} {t2 : List (List Da)} {r : AV} {O : List (Nat × Ob)} (h : (∃ (n : Int), (∃ (n1 : Int), (∃ (xs : List (List Da)), (XC Try.prog 111 [(L u), (.dat [(.int .i64 t), (.int .i64 t1), (.sl t2)])] [] (.dat [(.int .i64 n), (.int .i64 n1), (.sl xs)]) [] ∧ (∃ (n2 : Int), (∃ (n3 : Int), (∃ (xs1 : List (List Da)), (XC Try.prog 59 [(L s), (.dat [(.int .i64 n), (.int .i64 n1), (.sl xs)])] [] (.dat [(.int .i64 n2), (.int .i64 n3), (.sl xs1)]) [] ∧ ((.dat [(.int .i64 n2), (.int .i64 n3), (.sl xs1)]) = r ∧ [] = O)))))))))) : XC Try.prog 81 [(L s), (L u), (.dat [(.int .i64 t), (.int .i64 t1), (.sl t2)])] [] r O :=
  c7q (E := env) (hs := a4Vq) (c := (a0q Try.f81)) (n := 12) (res := [.cell 6 31]) (rs := .d [(.i .i64), (.i .i64), .l]) (ks := []) (dir := []) envOk a9q rfl Try.func81 (by kernel_rfl) (by kernel_rfl) (by kernel_rfl) (by kernel_rfl) (a8q (by kernel_rfl) h)
def a39q : c4q := ⟨[], []⟩
theorem a2gq {s : List (List Da)} {pos : Bool} {a : Int} {a1 : Int} {a2 : List (List Da)} {b : Int} {b1 : Int} {b2 : List (List Da)} {r : AV} {O : List (Nat × Ob)} (h : (∃ (n : Int), (∃ (n1 : Int), (∃ (xs : List (List Da)), (XC Try.prog 59 [(L s), (.dat [(.int .i64 a), (.int .i64 a1), (.sl a2)])] [] (.dat [(.int .i64 n), (.int .i64 n1), (.sl xs)]) [] ∧ (∃ (n2 : Int), (∃ (n3 : Int), (∃ (xs1 : List (List Da)), (XC Try.prog 59 [(L s), (.dat [(.int .i64 b), (.int .i64 b1), (.sl b2)])] [] (.dat [(.int .i64 n2), (.int .i64 n3), (.sl xs1)]) [] ∧ (∃ (b3 : Bool), (XC Try.prog 110 [(.dat [(.int .i64 n), (.int .i64 n1), (.sl xs)]), (.dat [(.int .i64 n2), (.int .i64 n3), (.sl xs1)])] [] (B b3) [] ∧ ifB b3
  (((.dat [(.bool pos), (.int .i64 n2), (.int .i64 n3), (.sl xs1), (.int .i64 n), (.int .i64 n1), (.sl xs)]) = r ∧ [] = O))
  (((.dat [(.bool pos), (.int .i64 n), (.int .i64 n1), (.sl xs), (.int .i64 n2), (.int .i64 n3), (.sl xs1)]) = r ∧ [] = O))))))))))))) : XC Try.prog 80 [(L s), (B pos), (.dat [(.int .i64 a), (.int .i64 a1), (.sl a2)]), (.dat [(.int .i64 b), (.int .i64 b1), (.sl b2)])] [] r O :=
  c7q (E := env) (hs := a39q) (c := (a0q Try.f80)) (n := 28) (res := [.cell 8 61]) (rs := .d [.b, (.i .i64), (.i .i64), .l, (.i .i64), (.i .i64), .l]) (ks := []) (dir := []) envOk a9q rfl Try.func80 (by kernel_rfl) (by kernel_rfl) (by kernel_rfl) (by kernel_rfl) (a8q (by kernel_rfl) h)
def a1qq : c4q := ⟨[], []⟩
theorem a10q {a : Bool} {a1 : Int} {a2 : Int} {a3 : List (List Da)} {a4 : Int} {a5 : Int} {a6 : List (List Da)} {b : Bool} {b1 : Int} {b2 : Int} {b3 : List (List Da)} {b4 : Int} {b5 : Int} {b6 : List (List Da)} {r : AV} {O : List (Nat × Ob)} (h : ifB (decide (a ≠ b))
  (((B b) = r ∧ [] = O))
  ((∃ (b7 : Bool), (XC Try.prog 114 [(.dat [(.int .i64 a1), (.int .i64 a2), (.sl a3)]), (.dat [(.int .i64 b1), (.int .i64 b2), (.sl b3)])] [] (B b7) [] ∧ ifB (!b7)
  ((∃ (b8 : Bool), (XC Try.prog 110 [(.dat [(.int .i64 a1), (.int .i64 a2), (.sl a3)]), (.dat [(.int .i64 b1), (.int .i64 b2), (.sl b3)])] [] (B b8) [] ∧ ((B b8) = r ∧ [] = O))))
  ((∃ (b9 : Bool), (XC Try.prog 110 [(.dat [(.int .i64 a4), (.int .i64 a5), (.sl a6)]), (.dat [(.int .i64 b4), (.int .i64 b5), (.sl b6)])] [] (B b9) [] ∧ ((B b9) = r ∧ [] = O)))))))) : XC Try.prog 86 [(.dat [(.bool a), (.int .i64 a1), (.int .i64 a2), (.sl a3), (.int .i64 a4), (.int .i64 a5), (.sl a6)]), (.dat [(.bool b), (.int .i64 b1), (.int .i64 b2), (.sl b3), (.int .i64 b4), (.int .i64 b5), (.sl b6)])] [] r O :=
  c7q (E := env) (hs := a1qq) (c := (a0q Try.f86)) (n := 28) (res := [.tmp 4]) (rs := .c .b) (ks := []) (dir := []) envOk a9q rfl Try.func86 (by kernel_rfl) (by kernel_rfl) (by kernel_rfl) (by kernel_rfl) (a8q (by kernel_rfl) h)
def a3iq : c4q := ⟨[], []⟩
theorem a1Vq {a : Bool} {a1 : Int} {a2 : Int} {a3 : List (List Da)} {a4 : Int} {a5 : Int} {a6 : List (List Da)} {b : Bool} {b1 : Int} {b2 : Int} {b3 : List (List Da)} {b4 : Int} {b5 : Int} {b6 : List (List Da)} {r : AV} {O : List (Nat × Ob)} (h : ifB (decide (a = b))
  ((∃ (b7 : Bool), (XC Try.prog 114 [(.dat [(.int .i64 a1), (.int .i64 a2), (.sl a3)]), (.dat [(.int .i64 b1), (.int .i64 b2), (.sl b3)])] [] (B b7) [] ∧ ifB b7
  ((∃ (b8 : Bool), (XC Try.prog 114 [(.dat [(.int .i64 a4), (.int .i64 a5), (.sl a6)]), (.dat [(.int .i64 b4), (.int .i64 b5), (.sl b6)])] [] (B b8) [] ∧ ((B b8) = r ∧ [] = O))))
  (((B (false)) = r ∧ [] = O)))))
  (((B (false)) = r ∧ [] = O))) : XC Try.prog 87 [(.dat [(.bool a), (.int .i64 a1), (.int .i64 a2), (.sl a3), (.int .i64 a4), (.int .i64 a5), (.sl a6)]), (.dat [(.bool b), (.int .i64 b1), (.int .i64 b2), (.sl b3), (.int .i64 b4), (.int .i64 b5), (.sl b6)])] [] r O :=
  c7q (E := env) (hs := a3iq) (c := (a0q Try.f87)) (n := 24) (res := [.tmp 4]) (rs := .c .b) (ks := []) (dir := []) envOk a9q rfl Try.func87 (by kernel_rfl) (by kernel_rfl) (by kernel_rfl) (by kernel_rfl) (a8q (by kernel_rfl) h)
def a5yq : c4q := ⟨[], []⟩
theorem a3Zq {s : List (List Da)} {u : List (List Da)} {t : Int} {t1 : Int} {t2 : List (List Da)} {r : AV} {O : List (Nat × Ob)} (h : (∃ (n : Int), (∃ (n1 : Int), (∃ (xs : List (List Da)), (XC Try.prog 113 [(L u), (.dat [(.int .i64 t), (.int .i64 t1), (.sl t2)])] [] (.agg [(.d (.int .i64 n)), (.d (.int .i64 n1)), (.ol 0)]) [(0, (.tr 31 3 xs))] ∧ (∃ (n2 : Int), (∃ (n3 : Int), (∃ (xs1 : List (List Da)), (XC Try.prog 65 [(L s), (.dat [(.int .i64 n), (.int .i64 n1), (.sl xs)])] [] (.agg [(.d (.int .i64 n2)), (.d (.int .i64 n3)), (.ol 0)]) [(0, (.tr 31 3 xs1))] ∧ ((.agg [(.d (.int .i64 n2)), (.d (.int .i64 n3)), (.ol 0)]) = r ∧ [(0, (.tr 31 3 xs1))] = O)))))))))) : XC Try.prog 84 [(L s), (L u), (.dat [(.int .i64 t), (.int .i64 t1), (.sl t2)])] [] r O :=
  c7q (E := env) (hs := a5yq) (c := (a0q Try.f84)) (n := 12) (res := [.cell 6 31]) (rs := .s [.k (.i .i64), .k (.i .i64), .o 31 3]) (ks := []) (dir := []) envOk a9q rfl Try.func84 (by kernel_rfl) (by kernel_rfl) (by kernel_rfl) (by kernel_rfl) (a8q (by kernel_rfl) h)
def a35q : c4q := ⟨[], []⟩
theorem a2Nq {s : List (List Da)} {pos : Bool} {a : Int} {a1 : Int} {a2 : List (List Da)} {b : Int} {b1 : Int} {b2 : List (List Da)} {r : AV} {O : List (Nat × Ob)} (h : (∃ (n : Int), (∃ (n1 : Int), (∃ (xs : List (List Da)), (XC Try.prog 65 [(L s), (.dat [(.int .i64 a), (.int .i64 a1), (.sl a2)])] [] (.agg [(.d (.int .i64 n)), (.d (.int .i64 n1)), (.ol 0)]) [(0, (.tr 31 3 xs))] ∧ (∃ (n2 : Int), (∃ (n3 : Int), (∃ (xs1 : List (List Da)), (XC Try.prog 65 [(L s), (.dat [(.int .i64 b), (.int .i64 b1), (.sl b2)])] [] (.agg [(.d (.int .i64 n2)), (.d (.int .i64 n3)), (.ol 0)]) [(0, (.tr 31 3 xs1))] ∧ (∃ (b3 : Bool), (XC Try.prog 112 [(.dat [(.int .i64 n), (.int .i64 n1), (.sl xs)]), (.dat [(.int .i64 n2), (.int .i64 n3), (.sl xs1)])] [] (B b3) [] ∧ ifB b3
  (((.agg [(.d (.bool pos)), (.d (.int .i64 n2)), (.d (.int .i64 n3)), (.ol 0), (.d (.int .i64 n)), (.d (.int .i64 n1)), (.ol 1)]) = r ∧ [(0, (.tr 31 3 xs1)), (1, (.tr 31 3 xs))] = O))
  (((.agg [(.d (.bool pos)), (.d (.int .i64 n)), (.d (.int .i64 n1)), (.ol 0), (.d (.int .i64 n2)), (.d (.int .i64 n3)), (.ol 1)]) = r ∧ [(0, (.tr 31 3 xs)), (1, (.tr 31 3 xs1))] = O))))))))))))) : XC Try.prog 83 [(L s), (B pos), (.dat [(.int .i64 a), (.int .i64 a1), (.sl a2)]), (.dat [(.int .i64 b), (.int .i64 b1), (.sl b2)])] [] r O :=
  c7q (E := env) (hs := a35q) (c := (a0q Try.f83)) (n := 26) (res := [.cell 8 61]) (rs := .s [.k .b, .k (.i .i64), .k (.i .i64), .o 31 3, .k (.i .i64), .k (.i .i64), .o 31 3]) (ks := []) (dir := []) envOk a9q rfl Try.func83 (by kernel_rfl) (by kernel_rfl) (by kernel_rfl) (by kernel_rfl) (a8q (by kernel_rfl) h)
def s4q : c4q := ⟨[], []⟩
theorem r4q {o2000 : List (List Da)} {r : AV} {O : List (Nat × Ob)} (h : (∃ (xs : List (List Da)), (XC Try.prog 115 [(.one (.ol 2000)), (Z ((↑(List.length o2000) : Int))), (.one (.d (.fn 89)))] [(2000, (.lst 61 7 o2000))] (.tup []) [(2000, (.lst 61 7 xs))] ∧ ((.tup []) = r ∧ [(2000, (.lst 61 7 xs))] = O)))) : XC Try.prog 88 [(.one (.ol 2000)), (.one (.d (.fn 89)))] [(2000, (.lst 61 7 o2000))] r O :=
  c7q (E := a5q) (hs := s4q) (c := (a0q Try.f88)) (n := 9) (res := []) (rs := .t []) (ks := [(2000, (false))]) (dir := [2000]) g0q a9q rfl Try.func88 (by kernel_rfl) (by kernel_rfl) (by kernel_rfl) (by kernel_rfl) (a8q (by kernel_rfl) h)
def e3q : c4q := ⟨[(4, ⟨[0, 1, 5], [], [], [], [], [], []⟩), (9, ⟨[0, 1, 5, 6, 7], [], [], [], [], [], []⟩)], []⟩
def g6q (r : AV) (O : List (Nat × Ob)) (s5 : Int) (s0 : List (List Da)) : Prop := CL 66 Try.prog (e8q (a0q Try.f90) [1, 1, 0, 1, 0, 0]) (b6q Try.prog a5q e3q 66 (a0q Try.f90) [1, 1, 0, 1, 0, 0] (E5q a5q [.tmp 4] (.b 61 7) [(2000, (false))] [] r O) (b4q (E5q a5q [.tmp 4] (.b 61 7) [(2000, (false))] [] r O))).1 (b6q Try.prog a5q e3q 66 (a0q Try.f90) [1, 1, 0, 1, 0, 0] (E5q a5q [.tmp 4] (.b 61 7) [(2000, (false))] [] r O) (b4q (E5q a5q [.tmp 4] (.b 61 7) [(2000, (false))] [] r O))).2 ⟨[(0, (.one (.ol 1900))), (1, (.one (.d (.fn 91)))), (5, (Z s5))], [(1900, (.lst 61 7 s0))]⟩
def f2q (r : AV) (O : List (Nat × Ob)) (s5 : Int) (s6 : Nat) (s61 : Nat) (s7 : Int) (s0 : List (List Da)) : Prop := CL 66 Try.prog (e8q (a0q Try.f90) [1, 1, 0, 1, 0, 0, 1, 0, 0, 1, 0, 1, 0, 1, 0, 0]) (b6q Try.prog a5q e3q 66 (a0q Try.f90) [1, 1, 0, 1, 0, 0, 1, 0, 0, 1, 0, 1, 0, 1, 0, 0] (E5q a5q [.tmp 4] (.b 61 7) [(2000, (false))] [] r O) (b4q (E5q a5q [.tmp 4] (.b 61 7) [(2000, (false))] [] r O))).1 (b6q Try.prog a5q e3q 66 (a0q Try.f90) [1, 1, 0, 1, 0, 0, 1, 0, 0, 1, 0, 1, 0, 1, 0, 0] (E5q a5q [.tmp 4] (.b 61 7) [(2000, (false))] [] r O) (b4q (E5q a5q [.tmp 4] (.b 61 7) [(2000, (false))] [] r O))).2 ⟨[(0, (.one (.ol 1900))), (1, (.one (.d (.fn 91)))), (5, (Z s5)), (6, (.one (.ps 1900 7 (s6) (s61)))), (7, (Z s7))], [(1900, (.lst 61 7 s0))]⟩
theorem m2q {r : AV} {O : List (Nat × Ob)} {s5 : Int} {s0 : List (List Da)} (h : ifB (decide (s5 < (↑(List.length s0) : Int)))
  ((∃ (m : Nat), (s5 = ((↑m : Int)) ∧ (Do (m < List.length s0) ∧ (∃ (n : Nat), ((m * (7 : Nat)) = (n * (7 : Nat)) ∧ (∃ (b : Bool), (∃ (n1 : Int), (∃ (n2 : Int), (∃ (d : Da), (∃ (n3 : Int), (∃ (n4 : Int), (∃ (d1 : Da), ((s0[n]?) = some [(.bool b), (.int .i64 n1), (.int .i64 n2), d, (.int .i64 n3), (.int .i64 n4), d1] ∧ (∃ (m1 : Nat), ((IntKind.wrap IntKind.i64 (s5 - (1 : Int))) = ((↑m1 : Int)) ∧ (Do (m1 < List.length s0) ∧ (∃ (n5 : Nat), ((m1 * (7 : Nat)) = (n5 * (7 : Nat)) ∧ (∃ (b1 : Bool), (∃ (n6 : Int), (∃ (n7 : Int), (∃ (d2 : Da), (∃ (n8 : Int), (∃ (n9 : Int), (∃ (d3 : Da), ((s0[n5]?) = some [(.bool b1), (.int .i64 n6), (.int .i64 n7), d2, (.int .i64 n8), (.int .i64 n9), d3] ∧ (∃ (b2 : Bool), (XC Try.prog 91 [(.dat [(.bool b), (.int .i64 n1), (.int .i64 n2), d, (.int .i64 n3), (.int .i64 n4), d1]), (.dat [(.bool b1), (.int .i64 n6), (.int .i64 n7), d2, (.int .i64 n8), (.int .i64 n9), d3])] [] (B b2) [] ∧ ifB b2
  ((∃ (n10 : Nat), (s5 = ((↑n10 : Int)) ∧ (Do (n10 ≤ List.length s0 ∧ List.length s0 ≤ List.length s0) ∧ f2q r O s5 ((0 : Nat) + n10) (List.length s0 - n10) ((1 : Int)) s0))))
  (g6q r O (IntKind.wrap IntKind.i64 (s5 + (1 : Int))) s0))))))))))))))))))))))))))))))
  (((.one (.ol 0)) = r ∧ [(0, (.lst 61 7 s0))] = O))) : g6q r O s5 s0 := by
  unfold g6q
  refine d6q (E := a5q) (hs := e3q) g0q a9q ?_
  exact a8q (by kernel_rfl) h
theorem m3q {r : AV} {O : List (Nat × Ob)} {s5 : Int} {s6 : Nat} {s61 : Nat} {s7 : Int} {s0 : List (List Da)} (h : ifB (decide (s7 < (↑s61 : Int)))
  ((∃ (m : Nat), (s7 = ((↑m : Int)) ∧ (Do (m < s61) ∧ (∃ (n : Nat), (((s6 + m) * (7 : Nat)) = (n * (7 : Nat)) ∧ (∃ (b : Bool), (∃ (n1 : Int), (∃ (n2 : Int), (∃ (d : Da), (∃ (n3 : Int), (∃ (n4 : Int), (∃ (d1 : Da), ((s0[n]?) = some [(.bool b), (.int .i64 n1), (.int .i64 n2), d, (.int .i64 n3), (.int .i64 n4), d1] ∧ (∃ (m1 : Nat), ((IntKind.wrap IntKind.i64 (s7 - (1 : Int))) = ((↑m1 : Int)) ∧ (Do (m1 < s61) ∧ (∃ (n5 : Nat), (((s6 + m1) * (7 : Nat)) = (n5 * (7 : Nat)) ∧ (∃ (b1 : Bool), (∃ (n6 : Int), (∃ (n7 : Int), (∃ (d2 : Da), (∃ (n8 : Int), (∃ (n9 : Int), (∃ (d3 : Da), ((s0[n5]?) = some [(.bool b1), (.int .i64 n6), (.int .i64 n7), d2, (.int .i64 n8), (.int .i64 n9), d3] ∧ (∃ (b2 : Bool), (XC Try.prog 91 [(.dat [(.bool b), (.int .i64 n1), (.int .i64 n2), d, (.int .i64 n3), (.int .i64 n4), d1]), (.dat [(.bool b1), (.int .i64 n6), (.int .i64 n7), d2, (.int .i64 n8), (.int .i64 n9), d3])] [] (B b2) [] ∧ ifB (!b2)
  ((∃ (m2 : Nat), (s7 = ((↑m2 : Int)) ∧ (Do (m2 < s61) ∧ (∃ (n10 : Nat), (((s6 + m2) * (7 : Nat)) = (n10 * (7 : Nat)) ∧ (∃ (b3 : Bool), (∃ (n11 : Int), (∃ (n12 : Int), (∃ (d4 : Da), (∃ (n13 : Int), (∃ (n14 : Int), (∃ (d5 : Da), ((s0[n10]?) = some [(.bool b3), (.int .i64 n11), (.int .i64 n12), d4, (.int .i64 n13), (.int .i64 n14), d5] ∧ (∃ (m3 : Nat), (s5 = ((↑m3 : Int)) ∧ (Do (m3 < List.length s0) ∧ (∃ (m4 : Nat), ((m3 * (7 : Nat)) = (m4 * (7 : Nat) + (0 : Nat)) ∧ (∃ (b4 : Bool), (∃ (n15 : Int), (∃ (n16 : Int), (∃ (d6 : Da), (∃ (n17 : Int), (∃ (n18 : Int), (∃ (d7 : Da), ((s0[m4]?) = some [(.bool b4), (.int .i64 n15), (.int .i64 n16), d6, (.int .i64 n17), (.int .i64 n18), d7] ∧ f2q r O (IntKind.wrap IntKind.i64 (s5 + (1 : Int))) (s6) (s61) (IntKind.wrap IntKind.i64 (s7 + (1 : Int))) (List.set s0 m4 ([] ++ [Da.bool b3, Da.int IntKind.i64 n11, Da.int IntKind.i64 n12, d4, Da.int IntKind.i64 n13, Da.int IntKind.i64 n14, d5] ++ [])))))))))))))))))))))))))))))
  (f2q r O s5 (s6) (s61) (IntKind.wrap IntKind.i64 (s7 + (1 : Int))) s0))))))))))))))))))))))))))))))
  ((∃ (n19 : Nat), (s5 = ((↑n19 : Int)) ∧ (Do (n19 ≤ List.length s0 ∧ List.length s0 ≤ List.length s0) ∧ (Do ((0 : Nat) + n19 + (List.length s0 - n19) ≤ List.length s0) ∧ (∃ (n20 : Nat), (s5 = ((↑n20 : Int)) ∧ (Do ((0 : Nat) ≤ n20 ∧ n20 ≤ List.length (List.take ((0 : Nat) + n19) s0 ++ List.replicate (List.length s0 - n19) [Da.bool false, Da.int IntKind.i64 (0 : Int), Da.int IntKind.i64 (0 : Int), Da.sl [], Da.int IntKind.i64 (0 : Int), Da.int IntKind.i64 (0 : Int), Da.sl []] ++ List.drop ((0 : Nat) + n19 + (List.length s0 - n19)) s0)) ∧ (Do (n20 - (0 : Nat) ≤ List.length (List.take ((0 : Nat) + n19) s0 ++ List.replicate (List.length s0 - n19) [Da.bool false, Da.int IntKind.i64 (0 : Int), Da.int IntKind.i64 (0 : Int), Da.sl [], Da.int IntKind.i64 (0 : Int), Da.int IntKind.i64 (0 : Int), Da.sl []] ++ List.drop ((0 : Nat) + n19 + (List.length s0 - n19)) s0)) ∧ ((.one (.ol 0)) = r ∧ [(0, (.lst 61 7 (List.take (n20 - (0 : Nat)) (List.take ((0 : Nat) + n19) s0 ++ List.replicate (List.length s0 - n19) [Da.bool false, Da.int IntKind.i64 (0 : Int), Da.int IntKind.i64 (0 : Int), Da.sl [], Da.int IntKind.i64 (0 : Int), Da.int IntKind.i64 (0 : Int), Da.sl []] ++ List.drop ((0 : Nat) + n19 + (List.length s0 - n19)) s0))))] = O))))))))))) : f2q r O s5 s6 s61 s7 s0 := by
  unfold f2q
  refine d6q (E := a5q) (hs := e3q) g0q a9q ?_
  exact a8q (by kernel_rfl) h
theorem w7q {o2000 : List (List Da)} {r : AV} {O : List (Nat × Ob)} (h : ifB (decide ((↑(List.length o2000) : Int) < (2 : Int)))
  (((.one (.ol 0)) = r ∧ [(0, (.lst 61 7 o2000))] = O))
  (g6q r O ((1 : Int)) o2000)) : XC Try.prog 90 [(.one (.ol 2000)), (.one (.d (.fn 91)))] [(2000, (.lst 61 7 o2000))] r O :=
  acGq (E := a5q) (hs := e3q) (c := (a0q Try.f90)) (n := 66) (res := [.tmp 4]) (rs := .b 61 7) (ks := [(2000, (false))]) (dir := []) g0q a9q [(2000, 1000)] [] (by kernel_rfl) rfl Try.func90 (by kernel_rfl) (by kernel_rfl) (by kernel_rfl) (by kernel_rfl) (a8q (by kernel_rfl) h)
def a55q : c4q := ⟨[], []⟩
theorem a4sq {a : Bool} {a1 : Int} {a2 : Int} {a3 : List (List Da)} {a4 : Int} {a5 : Int} {a6 : List (List Da)} {b : Bool} {b1 : Int} {b2 : Int} {b3 : List (List Da)} {b4 : Int} {b5 : Int} {b6 : List (List Da)} {r : AV} {O : List (Nat × Ob)} (h : ifB (decide (a ≠ b))
  (((B (false)) = r ∧ [] = O))
  ((∃ (b7 : Bool), (XC Try.prog 16 [(.dat [(.int .i64 a1), (.int .i64 a2), (.sl a3)]), (.dat [(.int .i64 b1), (.int .i64 b2), (.sl b3)])] [] (B b7) [] ∧ ifB (!b7)
  (((B (false)) = r ∧ [] = O))
  ((∃ (b8 : Bool), (XC Try.prog 16 [(.dat [(.int .i64 a4), (.int .i64 a5), (.sl a6)]), (.dat [(.int .i64 b4), (.int .i64 b5), (.sl b6)])] [] (B b8) [] ∧ ifB (!b8)
  (((B (false)) = r ∧ [] = O))
  (((B (true)) = r ∧ [] = O))))))))) : XC Try.prog 36 [(.dat [(.bool a), (.int .i64 a1), (.int .i64 a2), (.sl a3), (.int .i64 a4), (.int .i64 a5), (.sl a6)]), (.dat [(.bool b), (.int .i64 b1), (.int .i64 b2), (.sl b3), (.int .i64 b4), (.int .i64 b5), (.sl b6)])] [] r O :=
  c7q (E := env) (hs := a55q) (c := (a0q Try.f36)) (n := 22) (res := [.tmp 4]) (rs := .c .b) (ks := []) (dir := []) envOk a9q rfl Try.func36 (by kernel_rfl) (by kernel_rfl) (by kernel_rfl) (by kernel_rfl) (a8q (by kernel_rfl) h)
def a4kq : c4q := ⟨[], []⟩
theorem a3wq {a : Int} {a1 : Int} {a2 : List (List Da)} {b : Int} {b1 : Int} {b2 : List (List Da)} {r : AV} {O : List (Nat × Ob)} (h : ifB (decide (a ≠ b))
  (((B (false)) = r ∧ [] = O))
  (ifB (decide (a1 ≠ b1))
  (((B (false)) = r ∧ [] = O))
  ((∃ (b3 : Bool), (XC Try.prog 66 [(L a2), (L b2)] [] (B b3) [] ∧ ifB (!b3)
  (((B (false)) = r ∧ [] = O))
  (((B (true)) = r ∧ [] = O))))))) : XC Try.prog 16 [(.dat [(.int .i64 a), (.int .i64 a1), (.sl a2)]), (.dat [(.int .i64 b), (.int .i64 b1), (.sl b2)])] [] r O :=
  c7q (E := env) (hs := a4kq) (c := (a0q Try.f16)) (n := 21) (res := [.tmp 4]) (rs := .c .b) (ks := []) (dir := []) envOk a9q rfl Try.func16 (by kernel_rfl) (by kernel_rfl) (by kernel_rfl) (by kernel_rfl) (a8q (by kernel_rfl) h)
def v4q : c4q := ⟨[(2, ⟨[0, 1, 5], [], [], [], [], [], []⟩)], []⟩
def o7q (r : AV) (O : List (Nat × Ob)) (a : List (List Da)) (k : Int) (i : Int) : Prop := CL 40 Try.prog (e8q (a0q Try.f70) [1, 0, 1, 0, 0]) (b6q Try.prog env v4q 40 (a0q Try.f70) [1, 0, 1, 0, 0] (a3q env [.tmp 4] (.c (.i .i64)) [] [] r O) (b4q (a3q env [.tmp 4] (.c (.i .i64)) [] [] r O))).1 (b6q Try.prog env v4q 40 (a0q Try.f70) [1, 0, 1, 0, 0] (a3q env [.tmp 4] (.c (.i .i64)) [] [] r O) (b4q (a3q env [.tmp 4] (.c (.i .i64)) [] [] r O))).2 ⟨[(0, (L a)), (1, (Z k)), (5, (Z i))], []⟩
theorem E0q {r : AV} {O : List (Nat × Ob)} {a : List (List Da)} {k : Int} {i : Int} (h : ifB (decide (i < (↑(List.length a) : Int)))
  ((∃ (m : Nat), (i = ((↑m : Int)) ∧ (∃ (n : Int), (∃ (n1 : Int), (∃ (xs : List (List Da)), ((a[m]?) = some [(.int .i64 n), (.int .i64 n1), (.sl xs)] ∧ ifB (decide (n ≠ k))
  (((Z ((-1 : Int))) = r ∧ [] = O))
  ((∃ (m1 : Nat), (i = ((↑m1 : Int)) ∧ (∃ (n2 : Int), (∃ (n3 : Int), (∃ (xs1 : List (List Da)), ((a[m1]?) = some [(.int .i64 n2), (.int .i64 n3), (.sl xs1)] ∧ ifB (decide (n3 ≠ IntKind.wrap IntKind.i64 (k + (1 : Int))))
  (((Z ((-1 : Int))) = r ∧ [] = O))
  ((∃ (m2 : Nat), (i = ((↑m2 : Int)) ∧ (∃ (n4 : Int), (∃ (n5 : Int), (∃ (xs2 : List (List Da)), ((a[m2]?) = some [(.int .i64 n4), (.int .i64 n5), (.sl xs2)] ∧ (∃ (n6 : Int), (XC Try.prog 70 [(L xs2), (Z (IntKind.wrap IntKind.i64 (IntKind.wrap IntKind.i64 (k + (1 : Int)) + (1 : Int))))] [] (Z n6) [] ∧ ifB (decide (n6 < (0 : Int)))
  (((Z ((-1 : Int))) = r ∧ [] = O))
  (o7q r O a n6 (IntKind.wrap IntKind.i64 (i + (1 : Int)))))))))))))))))))))))))))
  (((Z k) = r ∧ [] = O))) : o7q r O a k i := by
  unfold o7q
  refine d6q (E := env) (hs := v4q) envOk a9q ?_
  exact a8q (by kernel_rfl) h
theorem a0Vq {a : List (List Da)} {k : Int} {r : AV} {O : List (Nat × Ob)} (h : o7q r O a k ((0 : Int))) : XC Try.prog 70 [(L a), (Z k)] [] r O :=
  c7q (E := env) (hs := v4q) (c := (a0q Try.f70)) (n := 40) (res := [.tmp 4]) (rs := .c (.i .i64)) (ks := []) (dir := []) envOk a9q rfl Try.func70 (by kernel_rfl) (by kernel_rfl) (by kernel_rfl) (by kernel_rfl) (a8q (by kernel_rfl) h)
def z7q : c4q := ⟨[(5, ⟨[0, 1, 5], [], [], [], [], [], []⟩)], []⟩
def r0q (r : AV) (O : List (Nat × Ob)) (a : List (List Da)) (left : Int) (i : Int) : Prop := CL 27 Try.prog (e8q (a0q Try.f57) [1, 1, 1, 0, 1, 0, 0]) (b6q Try.prog env z7q 27 (a0q Try.f57) [1, 1, 1, 0, 1, 0, 0] (a3q env [.tmp 4] (.c (.i .i64)) [] [] r O) (b4q (a3q env [.tmp 4] (.c (.i .i64)) [] [] r O))).1 (b6q Try.prog env z7q 27 (a0q Try.f57) [1, 1, 1, 0, 1, 0, 0] (a3q env [.tmp 4] (.c (.i .i64)) [] [] r O) (b4q (a3q env [.tmp 4] (.c (.i .i64)) [] [] r O))).2 ⟨[(0, (L a)), (1, (Z left)), (5, (Z i))], []⟩
theorem J5q {r : AV} {O : List (Nat × Ob)} {a : List (List Da)} {left : Int} {i : Int} (h : ifB (decide (i < (↑(List.length a) : Int)))
  ((∃ (m : Nat), (i = ((↑m : Int)) ∧ (∃ (n : Int), (∃ (n1 : Int), (∃ (xs : List (List Da)), ((a[m]?) = some [(.int .i64 n), (.int .i64 n1), (.sl xs)] ∧ (∃ (n2 : Int), (XC Try.prog 10 [(.dat [(.int .i64 n), (.int .i64 n1), (.sl xs)]), (Z left)] [] (Z n2) [] ∧ ifB (decide (n2 < (0 : Int)))
  (((Z ((-1 : Int))) = r ∧ [] = O))
  (r0q r O a n2 (IntKind.wrap IntKind.i64 (i + (1 : Int)))))))))))))
  (((Z left) = r ∧ [] = O))) : r0q r O a left i := by
  unfold r0q
  refine d6q (E := env) (hs := z7q) envOk a9q ?_
  exact a8q (by kernel_rfl) h
theorem a2kq {a : List (List Da)} {left : Int} {r : AV} {O : List (Nat × Ob)} (h : ifB (decide (IntKind.wrap IntKind.i64 (left - (↑(List.length a) : Int)) < (0 : Int)))
  (((Z ((-1 : Int))) = r ∧ [] = O))
  (r0q r O a (IntKind.wrap IntKind.i64 (left - (↑(List.length a) : Int))) ((0 : Int)))) : XC Try.prog 57 [(L a), (Z left)] [] r O :=
  c7q (E := env) (hs := z7q) (c := (a0q Try.f57)) (n := 27) (res := [.tmp 4]) (rs := .c (.i .i64)) (ks := []) (dir := []) envOk a9q rfl Try.func57 (by kernel_rfl) (by kernel_rfl) (by kernel_rfl) (by kernel_rfl) (a8q (by kernel_rfl) h)
def z1q : c4q := ⟨[(3, ⟨[0, 3, 4], [], [], [], [], [], []⟩)], []⟩
def r7q (r : AV) (O : List (Nat × Ob)) (a : List (List Da)) (i : Int) (out : List (List Da)) : Prop := CL 23 Try.prog (e8q (a0q Try.f62) [1, 1, 0, 1, 0, 0]) (b6q Try.prog env z1q 23 (a0q Try.f62) [1, 1, 0, 1, 0, 0] (a3q env [.tmp 2] (.o 31 3) [] [] r O) (b4q (a3q env [.tmp 2] (.o 31 3) [] [] r O))).1 (b6q Try.prog env z1q 23 (a0q Try.f62) [1, 1, 0, 1, 0, 0] (a3q env [.tmp 2] (.o 31 3) [] [] r O) (b4q (a3q env [.tmp 2] (.o 31 3) [] [] r O))).2 ⟨[(0, (L a)), (3, (.one (.ol 1900))), (4, (Z i))], [(1900, (.tr 31 3 out))]⟩
theorem I5q {r : AV} {O : List (Nat × Ob)} {a : List (List Da)} {i : Int} {out : List (List Da)} (h : ifB (decide (i < (↑(List.length a) : Int)))
  ((∃ (m : Nat), (i = ((↑m : Int)) ∧ (∃ (n : Int), (∃ (n1 : Int), (∃ (xs : List (List Da)), ((a[m]?) = some [(.int .i64 n), (.int .i64 n1), (.sl xs)] ∧ (∃ (n2 : Int), (∃ (n3 : Int), (∃ (xs1 : List (List Da)), (XC Try.prog 13 [(.dat [(.int .i64 n), (.int .i64 n1), (.sl xs)])] [] (.agg [(.d (.int .i64 n2)), (.d (.int .i64 n3)), (.ol 0)]) [(0, (.tr 31 3 xs1))] ∧ (∃ (m1 : Nat), (i = ((↑m1 : Int)) ∧ (Do (m1 < List.length out) ∧ (∃ (m2 : Nat), ((m1 * (3 : Nat)) = (m2 * (3 : Nat) + (0 : Nat)) ∧ (∃ (n4 : Int), (∃ (n5 : Int), (∃ (xs2 : List (List Da)), ((out[m2]?) = some [(.int .i64 n4), (.int .i64 n5), (.sl xs2)] ∧ r7q r O a (IntKind.wrap IntKind.i64 (i + (1 : Int))) (List.set out m2 ([] ++ [Da.int IntKind.i64 n2, Da.int IntKind.i64 n3, Da.sl xs1] ++ []))))))))))))))))))))))
  (((.one (.ol 0)) = r ∧ [(0, (.tr 31 3 out))] = O))) : r7q r O a i out := by
  unfold r7q
  refine d6q (E := env) (hs := z1q) envOk a9q ?_
  exact a8q (by kernel_rfl) h
theorem a2Cq {a : List (List Da)} {r : AV} {O : List (Nat × Ob)} (h : (∃ (l : Nat), (∃ (c : Nat), (((↑(List.length a) : Int)) = ((↑l : Int)) ∧ (((↑(List.length a) : Int)) = ((↑c : Int)) ∧ (Do (l ≤ c ∧ (40 : Nat) * c ≤ (281474976710656 : Nat) ∧ c ≤ (281474976710656 : Nat)) ∧ r7q r O a ((0 : Int)) (List.replicate l [Da.int IntKind.i64 (0 : Int), Da.int IntKind.i64 (0 : Int), Da.sl []]))))))) : XC Try.prog 62 [(L a)] [] r O :=
  c7q (E := env) (hs := z1q) (c := (a0q Try.f62)) (n := 23) (res := [.tmp 2]) (rs := .o 31 3) (ks := []) (dir := []) envOk a9q rfl Try.func62 (by kernel_rfl) (by kernel_rfl) (by kernel_rfl) (by kernel_rfl) (a8q (by kernel_rfl) h)
def E7q : c4q := ⟨[(5, ⟨[0, 3, 4, 5, 6], [], [], [(5, (2, (31, 3)))], [], [5], []⟩)], []⟩
def q8q (r : AV) (O : List (Nat × Ob)) (u : List (List Da)) (i : Int) (t : Int) (t1 : Int) (t2 : List (List Da)) (s4 : Int) (s41 : Int) (out : Int) (out1 : Int) (out2 : List (List Da)) : Prop := CL 45 Try.prog (e8q (a0q Try.f111) [1, 1, 1, 0, 1, 0, 0]) (b6q Try.prog env E7q 45 (a0q Try.f111) [1, 1, 1, 0, 1, 0, 0] (a3q env [.cell 4 31] (.d [(.i .i64), (.i .i64), .l]) [] [] r O) (b4q (a3q env [.cell 4 31] (.d [(.i .i64), (.i .i64), .l]) [] [] r O))).1 (b6q Try.prog env E7q 45 (a0q Try.f111) [1, 1, 1, 0, 1, 0, 0] (a3q env [.cell 4 31] (.d [(.i .i64), (.i .i64), .l]) [] [] r O) (b4q (a3q env [.cell 4 31] (.d [(.i .i64), (.i .i64), .l]) [] [] r O))).2 ⟨[(0, (L u)), (3, (.one (.op 1900 0))), (4, (.one (.op 1901 0))), (5, (.one (.op 1902 0))), (6, (Z i))], [(1900, (.var [(.d (.int .i64 t)), (.d (.int .i64 t1)), (.d (.sl t2))])), (1901, (.var [(.d (.int .i64 s4)), (.d (.int .i64 s41)), .e0])), (1902, (.var [(.d (.int .i64 out)), (.d (.int .i64 out1)), (.ol 1903)])), (1903, (.lst 31 3 out2))]⟩
theorem N8q {r : AV} {O : List (Nat × Ob)} {u : List (List Da)} {i : Int} {t : Int} {t1 : Int} {t2 : List (List Da)} {s4 : Int} {s41 : Int} {out : Int} {out1 : Int} {out2 : List (List Da)} (h : ifB (decide (i < (↑(List.length t2) : Int)))
  ((∃ (m : Nat), (i = ((↑m : Int)) ∧ (∃ (n : Int), (∃ (n1 : Int), (∃ (xs : List (List Da)), ((t2[m]?) = some [(.int .i64 n), (.int .i64 n1), (.sl xs)] ∧ (∃ (n2 : Int), (∃ (n3 : Int), (∃ (xs1 : List (List Da)), (XC Try.prog 111 [(L u), (.dat [(.int .i64 n), (.int .i64 n1), (.sl xs)])] [] (.dat [(.int .i64 n2), (.int .i64 n3), (.sl xs1)]) [] ∧ (Do ((List.length out2 + List.length [[Da.int IntKind.i64 n2, Da.int IntKind.i64 n3, Da.sl xs1]]) * (40 : Nat) ≤ (140737488355328 : Nat)) ∧ q8q r O u (IntKind.wrap IntKind.i64 (i + (1 : Int))) t t1 t2 s4 s41 out out1 (out2 ++ [[Da.int IntKind.i64 n2, Da.int IntKind.i64 n3, Da.sl xs1]])))))))))))))
  (((.dat [(.int .i64 out), (.int .i64 out1), (.sl out2)]) = r ∧ [] = O))) : q8q r O u i t t1 t2 s4 s41 out out1 out2 := by
  unfold q8q
  refine d6q (E := env) (hs := E7q) envOk a9q ?_
  exact a8q (by kernel_rfl) h
theorem a43q {u : List (List Da)} {t : Int} {t1 : Int} {t2 : List (List Da)} {r : AV} {O : List (Nat × Ob)} (h : ifB (decide (t = (-1 : Int)))
  (ifB (decide ((↑(List.length t2) : Int) = (0 : Int)))
  ((∃ (n : Int), (∃ (n1 : Int), (∃ (xs : List (List Da)), (XC Try.prog 122 [(L u), (Z t1)] [] (.dat [(.int .i64 n), (.int .i64 n1), (.sl xs)]) [] ∧ ((.dat [(.int .i64 n), (.int .i64 n1), (.sl xs)]) = r ∧ [] = O))))))
  (q8q r O u ((0 : Int)) t t1 t2 ((0 : Int)) ((0 : Int)) t t1 []))
  (q8q r O u ((0 : Int)) t t1 t2 ((0 : Int)) ((0 : Int)) t t1 [])) : XC Try.prog 111 [(L u), (.dat [(.int .i64 t), (.int .i64 t1), (.sl t2)])] [] r O :=
  c7q (E := env) (hs := E7q) (c := (a0q Try.f111)) (n := 45) (res := [.cell 4 31]) (rs := .d [(.i .i64), (.i .i64), .l]) (ks := []) (dir := []) envOk a9q rfl Try.func111 (by kernel_rfl) (by kernel_rfl) (by kernel_rfl) (by kernel_rfl) (a8q (by kernel_rfl) h)
def s6q : c4q := ⟨[(3, ⟨[0, 3, 4, 5, 6], [], [], [(5, (2, (31, 3)))], [], [5], []⟩), (7, ⟨[0, 3, 4, 5, 6, 7, 8], [], [], [(5, (2, (31, 3)))], [], [5], []⟩)], []⟩
def n9q (r : AV) (O : List (Nat × Ob)) (s0 : List (List Da)) (s6 : Int) (s3 : Int) (s31 : Int) (s32 : List (List Da)) (s4 : Int) (s41 : Int) (s5 : Int) (s51 : Int) (s52 : List (List Da)) : Prop := CL 68 Try.prog (e8q (a0q Try.f59) [1, 1, 0, 1, 0, 0]) (b6q Try.prog env s6q 68 (a0q Try.f59) [1, 1, 0, 1, 0, 0] (a3q env [.cell 4 31] (.d [(.i .i64), (.i .i64), .l]) [] [] r O) (b4q (a3q env [.cell 4 31] (.d [(.i .i64), (.i .i64), .l]) [] [] r O))).1 (b6q Try.prog env s6q 68 (a0q Try.f59) [1, 1, 0, 1, 0, 0] (a3q env [.cell 4 31] (.d [(.i .i64), (.i .i64), .l]) [] [] r O) (b4q (a3q env [.cell 4 31] (.d [(.i .i64), (.i .i64), .l]) [] [] r O))).2 ⟨[(0, (L s0)), (3, (.one (.op 1900 0))), (4, (.one (.op 1901 0))), (5, (.one (.op 1902 0))), (6, (Z s6))], [(1900, (.var [(.d (.int .i64 s3)), (.d (.int .i64 s31)), (.d (.sl s32))])), (1901, (.var [(.d (.int .i64 s4)), (.d (.int .i64 s41)), .e0])), (1902, (.var [(.d (.int .i64 s5)), (.d (.int .i64 s51)), (.ol 1903)])), (1903, (.lst 31 3 s52))]⟩
def x9q (r : AV) (O : List (Nat × Ob)) (s0 : List (List Da)) (s6 : Int) (s8 : Int) (s3 : Int) (s31 : Int) (s32 : List (List Da)) (s4 : Int) (s41 : Int) (s5 : Int) (s51 : Int) (s7 : Int) (s71 : Int) (s72 : List (List Da)) (s52 : List (List Da)) : Prop := CL 68 Try.prog (e8q (a0q Try.f59) [1, 1, 0, 1, 0, 0, 1, 0, 0, 1, 0, 1, 1, 1, 1, 1, 0, 0]) (b6q Try.prog env s6q 68 (a0q Try.f59) [1, 1, 0, 1, 0, 0, 1, 0, 0, 1, 0, 1, 1, 1, 1, 1, 0, 0] (a3q env [.cell 4 31] (.d [(.i .i64), (.i .i64), .l]) [] [] r O) (b4q (a3q env [.cell 4 31] (.d [(.i .i64), (.i .i64), .l]) [] [] r O))).1 (b6q Try.prog env s6q 68 (a0q Try.f59) [1, 1, 0, 1, 0, 0, 1, 0, 0, 1, 0, 1, 1, 1, 1, 1, 0, 0] (a3q env [.cell 4 31] (.d [(.i .i64), (.i .i64), .l]) [] [] r O) (b4q (a3q env [.cell 4 31] (.d [(.i .i64), (.i .i64), .l]) [] [] r O))).2 ⟨[(0, (L s0)), (3, (.one (.op 1900 0))), (4, (.one (.op 1901 0))), (5, (.one (.op 1902 0))), (6, (Z s6)), (7, (.one (.op 1903 0))), (8, (Z s8))], [(1900, (.var [(.d (.int .i64 s3)), (.d (.int .i64 s31)), (.d (.sl s32))])), (1901, (.var [(.d (.int .i64 s4)), (.d (.int .i64 s41)), .e0])), (1902, (.var [(.d (.int .i64 s5)), (.d (.int .i64 s51)), (.ol 1904)])), (1903, (.var [(.d (.int .i64 s7)), (.d (.int .i64 s71)), (.d (.sl s72))])), (1904, (.lst 31 3 s52))]⟩
theorem Q5q {r : AV} {O : List (Nat × Ob)} {s0 : List (List Da)} {s6 : Int} {s3 : Int} {s31 : Int} {s32 : List (List Da)} {s4 : Int} {s41 : Int} {s5 : Int} {s51 : Int} {s52 : List (List Da)} (h : ifB (decide (s6 < (↑(List.length s32) : Int)))
  ((∃ (m : Nat), (s6 = ((↑m : Int)) ∧ (∃ (n : Int), (∃ (n1 : Int), (∃ (xs : List (List Da)), ((s32[m]?) = some [(.int .i64 n), (.int .i64 n1), (.sl xs)] ∧ (∃ (n2 : Int), (∃ (n3 : Int), (∃ (xs1 : List (List Da)), (XC Try.prog 59 [(L s0), (.dat [(.int .i64 n), (.int .i64 n1), (.sl xs)])] [] (.dat [(.int .i64 n2), (.int .i64 n3), (.sl xs1)]) [] ∧ (∃ (b : Bool), (XC Try.prog 71 [(L s0), (Z s3)] [] (B b) [] ∧ ifB (!b)
  ((Do ((List.length s52 + List.length [[Da.int IntKind.i64 n2, Da.int IntKind.i64 n3, Da.sl xs1]]) * (40 : Nat) ≤ (140737488355328 : Nat)) ∧ n9q r O s0 (IntKind.wrap IntKind.i64 (s6 + (1 : Int))) s3 s31 s32 s4 s41 s5 s51 (s52 ++ [[Da.int IntKind.i64 n2, Da.int IntKind.i64 n3, Da.sl xs1]])))
  (ifB (decide (n2 ≠ s3))
  ((∃ (xs2 : List (List Da)), (XC Try.prog 101 [(L s52), (.dat [(.int .i64 n2), (.int .i64 n3), (.sl xs1)])] [] (.one (.ol 0)) [(0, (.lst 31 3 xs2))] ∧ n9q r O s0 (IntKind.wrap IntKind.i64 (s6 + (1 : Int))) s3 s31 s32 s4 s41 s5 s51 xs2)))
  (x9q r O s0 s6 ((0 : Int)) s3 s31 s32 s4 s41 s5 s51 n2 n3 xs1 s52)))))))))))))))
  (((.dat [(.int .i64 s5), (.int .i64 s51), (.sl s52)]) = r ∧ [] = O))) : n9q r O s0 s6 s3 s31 s32 s4 s41 s5 s51 s52 := by
  unfold n9q
  refine d6q (E := env) (hs := s6q) envOk a9q ?_
  exact a8q (by kernel_rfl) h
theorem P4q {r : AV} {O : List (Nat × Ob)} {s0 : List (List Da)} {s6 : Int} {s8 : Int} {s3 : Int} {s31 : Int} {s32 : List (List Da)} {s4 : Int} {s41 : Int} {s5 : Int} {s51 : Int} {s7 : Int} {s71 : Int} {s72 : List (List Da)} {s52 : List (List Da)} (h : ifB (decide (s8 < (↑(List.length s72) : Int)))
  ((∃ (m : Nat), (s8 = ((↑m : Int)) ∧ (∃ (n : Int), (∃ (n1 : Int), (∃ (xs : List (List Da)), ((s72[m]?) = some [(.int .i64 n), (.int .i64 n1), (.sl xs)] ∧ (∃ (xs1 : List (List Da)), (XC Try.prog 101 [(L s52), (.dat [(.int .i64 n), (.int .i64 n1), (.sl xs)])] [] (.one (.ol 0)) [(0, (.lst 31 3 xs1))] ∧ x9q r O s0 s6 (IntKind.wrap IntKind.i64 (s8 + (1 : Int))) s3 s31 s32 s4 s41 s5 s51 s7 s71 s72 xs1)))))))))
  (n9q r O s0 (IntKind.wrap IntKind.i64 (s6 + (1 : Int))) s3 s31 s32 s4 s41 s5 s51 s52)) : x9q r O s0 s6 s8 s3 s31 s32 s4 s41 s5 s51 s7 s71 s72 s52 := by
  unfold x9q
  refine d6q (E := env) (hs := s6q) envOk a9q ?_
  exact a8q (by kernel_rfl) h
theorem a5gq {p : List (List Da)} {p1 : Int} {p2 : Int} {p3 : List (List Da)} {r : AV} {O : List (Nat × Ob)} (h : n9q r O p ((0 : Int)) p1 p2 p3 ((0 : Int)) ((0 : Int)) p1 p2 []) : XC Try.prog 59 [(L p), (.dat [(.int .i64 p1), (.int .i64 p2), (.sl p3)])] [] r O :=
  c7q (E := env) (hs := s6q) (c := (a0q Try.f59)) (n := 68) (res := [.cell 4 31]) (rs := .d [(.i .i64), (.i .i64), .l]) (ks := []) (dir := []) envOk a9q rfl Try.func59 (by kernel_rfl) (by kernel_rfl) (by kernel_rfl) (by kernel_rfl) (a8q (by kernel_rfl) h)
def A4q : c4q := ⟨[(8, ⟨[2, 3, 5], [], [], [], [], [], []⟩)], []⟩
def t9q (r : AV) (O : List (Nat × Ob)) (s5 : Int) (s2 : Int) (s21 : Int) (s22 : List (List Da)) (s3 : Int) (s31 : Int) (s32 : List (List Da)) : Prop := CL 70 Try.prog (e8q (a0q Try.f110) [1, 1, 1, 1, 0, 1, 0, 0]) (b6q Try.prog env A4q 70 (a0q Try.f110) [1, 1, 1, 1, 0, 1, 0, 0] (a3q env [.tmp 4] (.c .b) [] [] r O) (b4q (a3q env [.tmp 4] (.c .b) [] [] r O))).1 (b6q Try.prog env A4q 70 (a0q Try.f110) [1, 1, 1, 1, 0, 1, 0, 0] (a3q env [.tmp 4] (.c .b) [] [] r O) (b4q (a3q env [.tmp 4] (.c .b) [] [] r O))).2 ⟨[(2, (.one (.op 1900 0))), (3, (.one (.op 1901 0))), (5, (Z s5))], [(1900, (.var [(.d (.int .i64 s2)), (.d (.int .i64 s21)), (.d (.sl s22))])), (1901, (.var [(.d (.int .i64 s3)), (.d (.int .i64 s31)), (.d (.sl s32))]))]⟩
theorem K9q {r : AV} {O : List (Nat × Ob)} {s5 : Int} {s2 : Int} {s21 : Int} {s22 : List (List Da)} {s3 : Int} {s31 : Int} {s32 : List (List Da)} (h : ifB (decide (s5 < (↑(List.length s22) : Int)))
  ((∃ (m : Nat), (s5 = ((↑m : Int)) ∧ (∃ (n : Int), (∃ (n1 : Int), (∃ (xs : List (List Da)), ((s22[m]?) = some [(.int .i64 n), (.int .i64 n1), (.sl xs)] ∧ (∃ (m1 : Nat), (s5 = ((↑m1 : Int)) ∧ (∃ (n2 : Int), (∃ (n3 : Int), (∃ (xs1 : List (List Da)), ((s32[m1]?) = some [(.int .i64 n2), (.int .i64 n3), (.sl xs1)] ∧ (∃ (b : Bool), (XC Try.prog 114 [(.dat [(.int .i64 n), (.int .i64 n1), (.sl xs)]), (.dat [(.int .i64 n2), (.int .i64 n3), (.sl xs1)])] [] (B b) [] ∧ ifB (!b)
  ((∃ (m2 : Nat), (s5 = ((↑m2 : Int)) ∧ (∃ (n4 : Int), (∃ (n5 : Int), (∃ (xs2 : List (List Da)), ((s22[m2]?) = some [(.int .i64 n4), (.int .i64 n5), (.sl xs2)] ∧ (∃ (m3 : Nat), (s5 = ((↑m3 : Int)) ∧ (∃ (n6 : Int), (∃ (n7 : Int), (∃ (xs3 : List (List Da)), ((s32[m3]?) = some [(.int .i64 n6), (.int .i64 n7), (.sl xs3)] ∧ (∃ (b1 : Bool), (XC Try.prog 110 [(.dat [(.int .i64 n4), (.int .i64 n5), (.sl xs2)]), (.dat [(.int .i64 n6), (.int .i64 n7), (.sl xs3)])] [] (B b1) [] ∧ ((B b1) = r ∧ [] = O))))))))))))))))
  (t9q r O (IntKind.wrap IntKind.i64 (s5 + (1 : Int))) s2 s21 s22 s3 s31 s32))))))))))))))))
  (((B (false)) = r ∧ [] = O))) : t9q r O s5 s2 s21 s22 s3 s31 s32 := by
  unfold t9q
  refine d6q (E := env) (hs := A4q) envOk a9q ?_
  exact a8q (by kernel_rfl) h
theorem a3tq {p : Int} {p1 : Int} {p2 : List (List Da)} {p3 : Int} {p4 : Int} {p5 : List (List Da)} {r : AV} {O : List (Nat × Ob)} (h : ifB (decide (p ≠ p3))
  (((B (decide (p < p3))) = r ∧ [] = O))
  (ifB (decide (p1 ≠ p4))
  (((B (decide (p1 < p4))) = r ∧ [] = O))
  (ifB (decide ((↑(List.length p2) : Int) ≠ (↑(List.length p5) : Int)))
  (((B (decide ((↑(List.length p2) : Int) < (↑(List.length p5) : Int)))) = r ∧ [] = O))
  (t9q r O ((0 : Int)) p p1 p2 p3 p4 p5)))) : XC Try.prog 110 [(.dat [(.int .i64 p), (.int .i64 p1), (.sl p2)]), (.dat [(.int .i64 p3), (.int .i64 p4), (.sl p5)])] [] r O :=
  c7q (E := env) (hs := A4q) (c := (a0q Try.f110)) (n := 70) (res := [.tmp 4]) (rs := .c .b) (ks := []) (dir := []) envOk a9q rfl Try.func110 (by kernel_rfl) (by kernel_rfl) (by kernel_rfl) (by kernel_rfl) (a8q (by kernel_rfl) h)
def x2q : c4q := ⟨[(4, ⟨[2, 3, 5], [], [], [], [], [], []⟩)], []⟩
def p9q (r : AV) (O : List (Nat × Ob)) (i : Int) (a : Int) (a1 : Int) (a2 : List (List Da)) (b : Int) (b1 : Int) (b2 : List (List Da)) : Prop := CL 46 Try.prog (e8q (a0q Try.f114) [1, 1, 0, 1, 0, 0]) (b6q Try.prog env x2q 46 (a0q Try.f114) [1, 1, 0, 1, 0, 0] (a3q env [.tmp 4] (.c .b) [] [] r O) (b4q (a3q env [.tmp 4] (.c .b) [] [] r O))).1 (b6q Try.prog env x2q 46 (a0q Try.f114) [1, 1, 0, 1, 0, 0] (a3q env [.tmp 4] (.c .b) [] [] r O) (b4q (a3q env [.tmp 4] (.c .b) [] [] r O))).2 ⟨[(2, (.one (.op 1900 0))), (3, (.one (.op 1901 0))), (5, (Z i))], [(1900, (.var [(.d (.int .i64 a)), (.d (.int .i64 a1)), (.d (.sl a2))])), (1901, (.var [(.d (.int .i64 b)), (.d (.int .i64 b1)), (.d (.sl b2))]))]⟩
theorem F6q {r : AV} {O : List (Nat × Ob)} {i : Int} {a : Int} {a1 : Int} {a2 : List (List Da)} {b : Int} {b1 : Int} {b2 : List (List Da)} (h : ifB (decide (i < (↑(List.length a2) : Int)))
  ((∃ (m : Nat), (i = ((↑m : Int)) ∧ (∃ (n : Int), (∃ (n1 : Int), (∃ (xs : List (List Da)), ((a2[m]?) = some [(.int .i64 n), (.int .i64 n1), (.sl xs)] ∧ (∃ (m1 : Nat), (i = ((↑m1 : Int)) ∧ (∃ (n2 : Int), (∃ (n3 : Int), (∃ (xs1 : List (List Da)), ((b2[m1]?) = some [(.int .i64 n2), (.int .i64 n3), (.sl xs1)] ∧ (∃ (b4 : Bool), (XC Try.prog 114 [(.dat [(.int .i64 n), (.int .i64 n1), (.sl xs)]), (.dat [(.int .i64 n2), (.int .i64 n3), (.sl xs1)])] [] (B b4) [] ∧ ifB (!b4)
  (((B (false)) = r ∧ [] = O))
  (p9q r O (IntKind.wrap IntKind.i64 (i + (1 : Int))) a a1 a2 b b1 b2))))))))))))))))
  (((B (true)) = r ∧ [] = O))) : p9q r O i a a1 a2 b b1 b2 := by
  unfold p9q
  refine d6q (E := env) (hs := x2q) envOk a9q ?_
  exact a8q (by kernel_rfl) h
theorem a1mq {a : Int} {a1 : Int} {a2 : List (List Da)} {b : Int} {b1 : Int} {b2 : List (List Da)} {r : AV} {O : List (Nat × Ob)} (h : ifB (decide (a ≠ b))
  (((B (false)) = r ∧ [] = O))
  (ifB (decide (a1 ≠ b1))
  (((B (false)) = r ∧ [] = O))
  (ifB (decide ((↑(List.length a2) : Int) ≠ (↑(List.length b2) : Int)))
  (((B (false)) = r ∧ [] = O))
  (p9q r O ((0 : Int)) a a1 a2 b b1 b2)))) : XC Try.prog 114 [(.dat [(.int .i64 a), (.int .i64 a1), (.sl a2)]), (.dat [(.int .i64 b), (.int .i64 b1), (.sl b2)])] [] r O :=
  c7q (E := env) (hs := x2q) (c := (a0q Try.f114)) (n := 46) (res := [.tmp 4]) (rs := .c .b) (ks := []) (dir := []) envOk a9q rfl Try.func114 (by kernel_rfl) (by kernel_rfl) (by kernel_rfl) (by kernel_rfl) (a8q (by kernel_rfl) h)
def B1q : c4q := ⟨[(5, ⟨[0, 3, 4, 5, 22, 23, 24], [], [], [], [], [], []⟩)], []⟩
def p2q (r : AV) (O : List (Nat × Ob)) (u : List (List Da)) (s22 : List (List Da)) (s23 : Int) (s24 : Int) (t : Int) (t1 : Int) (t2 : List (List Da)) (s4 : Int) (s41 : Int) (kids : List (List Da)) : Prop := CL 38 Try.prog (e8q (a0q Try.f113) [1, 1, 1, 0, 1, 0, 0]) (b6q Try.prog env B1q 38 (a0q Try.f113) [1, 1, 1, 0, 1, 0, 0] (a3q env [.cell 4 31] (.s [.k (.i .i64), .k (.i .i64), .o 31 3]) [] [] r O) (b4q (a3q env [.cell 4 31] (.s [.k (.i .i64), .k (.i .i64), .o 31 3]) [] [] r O))).1 (b6q Try.prog env B1q 38 (a0q Try.f113) [1, 1, 1, 0, 1, 0, 0] (a3q env [.cell 4 31] (.s [.k (.i .i64), .k (.i .i64), .o 31 3]) [] [] r O) (b4q (a3q env [.cell 4 31] (.s [.k (.i .i64), .k (.i .i64), .o 31 3]) [] [] r O))).2 ⟨[(0, (L u)), (3, (.one (.op 1900 0))), (4, (.one (.op 1901 0))), (5, (.one (.ol 1902))), (22, (L s22)), (23, (Z s23)), (24, (Z s24))], [(1900, (.var [(.d (.int .i64 t)), (.d (.int .i64 t1)), (.d (.sl t2))])), (1901, (.var [(.d (.int .i64 s4)), (.d (.int .i64 s41)), .e0])), (1902, (.tr 31 3 kids))]⟩
theorem L0q {r : AV} {O : List (Nat × Ob)} {u : List (List Da)} {s22 : List (List Da)} {s23 : Int} {s24 : Int} {t : Int} {t1 : Int} {t2 : List (List Da)} {s4 : Int} {s41 : Int} {kids : List (List Da)} (h : ifB (decide (s24 < s23))
  ((∃ (m : Nat), (s24 = ((↑m : Int)) ∧ (∃ (n : Int), (∃ (n1 : Int), (∃ (xs : List (List Da)), ((s22[m]?) = some [(.int .i64 n), (.int .i64 n1), (.sl xs)] ∧ (∃ (n2 : Int), (∃ (n3 : Int), (∃ (xs1 : List (List Da)), (XC Try.prog 113 [(L u), (.dat [(.int .i64 n), (.int .i64 n1), (.sl xs)])] [] (.agg [(.d (.int .i64 n2)), (.d (.int .i64 n3)), (.ol 0)]) [(0, (.tr 31 3 xs1))] ∧ (Do ((List.length kids + List.length [[Da.int IntKind.i64 n2, Da.int IntKind.i64 n3, Da.sl xs1]]) * (40 : Nat) ≤ (140737488355328 : Nat)) ∧ p2q r O u s22 s23 (IntKind.wrap IntKind.i64 (s24 + (1 : Int))) t t1 t2 s4 s41 (kids ++ [[Da.int IntKind.i64 n2, Da.int IntKind.i64 n3, Da.sl xs1]])))))))))))))
  (((.agg [(.d (.int .i64 t)), (.d (.int .i64 t1)), (.ol 0)]) = r ∧ [(0, (.tr 31 3 kids))] = O))) : p2q r O u s22 s23 s24 t t1 t2 s4 s41 kids := by
  unfold p2q
  refine d6q (E := env) (hs := B1q) envOk a9q ?_
  exact a8q (by kernel_rfl) h
theorem a3xq {u : List (List Da)} {t : Int} {t1 : Int} {t2 : List (List Da)} {r : AV} {O : List (Nat × Ob)} (h : (∃ (b : Bool), (XC Try.prog 123 [(.dat [(.int .i64 t), (.int .i64 t1), (.sl t2)])] [] (B b) [] ∧ ifB b
  (ifB (decide ((↑(List.length t2) : Int) = (0 : Int)))
  ((∃ (n : Int), (∃ (n1 : Int), (∃ (xs : List (List Da)), (XC Try.prog 124 [(L u), (Z t1)] [] (.agg [(.d (.int .i64 n)), (.d (.int .i64 n1)), (.ol 0)]) [(0, (.tr 31 3 xs))] ∧ ((.agg [(.d (.int .i64 n)), (.d (.int .i64 n1)), (.ol 0)]) = r ∧ [(0, (.tr 31 3 xs))] = O))))))
  (p2q r O u t2 ((↑(List.length t2) : Int)) ((0 : Int)) t t1 t2 ((0 : Int)) ((0 : Int)) []))
  (p2q r O u t2 ((↑(List.length t2) : Int)) ((0 : Int)) t t1 t2 ((0 : Int)) ((0 : Int)) [])))) : XC Try.prog 113 [(L u), (.dat [(.int .i64 t), (.int .i64 t1), (.sl t2)])] [] r O :=
  c7q (E := env) (hs := B1q) (c := (a0q Try.f113)) (n := 38) (res := [.cell 4 31]) (rs := .s [.k (.i .i64), .k (.i .i64), .o 31 3]) (ks := []) (dir := []) envOk a9q rfl Try.func113 (by kernel_rfl) (by kernel_rfl) (by kernel_rfl) (by kernel_rfl) (a8q (by kernel_rfl) h)
def H4q : c4q := ⟨[(3, ⟨[0, 3, 4, 5, 10, 11, 12], [], [], [], [], [], []⟩)], []⟩
def p5q (r : AV) (O : List (Nat × Ob)) (s : List (List Da)) (s10 : List (List Da)) (s11 : Int) (s12 : Int) (t : Int) (t1 : Int) (t2 : List (List Da)) (s4 : Int) (s41 : Int) (kids : List (List Da)) : Prop := CL 48 Try.prog (e8q (a0q Try.f65) [1, 1, 0, 1, 0, 0]) (b6q Try.prog env H4q 48 (a0q Try.f65) [1, 1, 0, 1, 0, 0] (a3q env [.cell 4 31] (.s [.k (.i .i64), .k (.i .i64), .o 31 3]) [] [] r O) (b4q (a3q env [.cell 4 31] (.s [.k (.i .i64), .k (.i .i64), .o 31 3]) [] [] r O))).1 (b6q Try.prog env H4q 48 (a0q Try.f65) [1, 1, 0, 1, 0, 0] (a3q env [.cell 4 31] (.s [.k (.i .i64), .k (.i .i64), .o 31 3]) [] [] r O) (b4q (a3q env [.cell 4 31] (.s [.k (.i .i64), .k (.i .i64), .o 31 3]) [] [] r O))).2 ⟨[(0, (L s)), (3, (.one (.op 1900 0))), (4, (.one (.op 1901 0))), (5, (.one (.ol 1902))), (10, (L s10)), (11, (Z s11)), (12, (Z s12))], [(1900, (.var [(.d (.int .i64 t)), (.d (.int .i64 t1)), (.d (.sl t2))])), (1901, (.var [(.d (.int .i64 s4)), (.d (.int .i64 s41)), .e0])), (1902, (.tr 31 3 kids))]⟩
theorem O7q {r : AV} {O : List (Nat × Ob)} {s : List (List Da)} {s10 : List (List Da)} {s11 : Int} {s12 : Int} {t : Int} {t1 : Int} {t2 : List (List Da)} {s4 : Int} {s41 : Int} {kids : List (List Da)} (h : ifB (decide (s12 < s11))
  ((∃ (m : Nat), (s12 = ((↑m : Int)) ∧ (∃ (n : Int), (∃ (n1 : Int), (∃ (xs : List (List Da)), ((s10[m]?) = some [(.int .i64 n), (.int .i64 n1), (.sl xs)] ∧ (∃ (n2 : Int), (∃ (n3 : Int), (∃ (xs1 : List (List Da)), (XC Try.prog 65 [(L s), (.dat [(.int .i64 n), (.int .i64 n1), (.sl xs)])] [] (.agg [(.d (.int .i64 n2)), (.d (.int .i64 n3)), (.ol 0)]) [(0, (.tr 31 3 xs1))] ∧ (∃ (b : Bool), (XC Try.prog 75 [(L s), (Z t)] [] (B b) [] ∧ ifB b
  (ifB (decide (n2 = t))
  ((Do ((List.length kids + List.length xs1) * (40 : Nat) ≤ (140737488355328 : Nat)) ∧ p5q r O s s10 s11 (IntKind.wrap IntKind.i64 (s12 + (1 : Int))) t t1 t2 s4 s41 (kids ++ xs1)))
  ((Do ((List.length kids + List.length [[Da.int IntKind.i64 n2, Da.int IntKind.i64 n3, Da.sl xs1]]) * (40 : Nat) ≤ (140737488355328 : Nat)) ∧ p5q r O s s10 s11 (IntKind.wrap IntKind.i64 (s12 + (1 : Int))) t t1 t2 s4 s41 (kids ++ [[Da.int IntKind.i64 n2, Da.int IntKind.i64 n3, Da.sl xs1]]))))
  ((Do ((List.length kids + List.length [[Da.int IntKind.i64 n2, Da.int IntKind.i64 n3, Da.sl xs1]]) * (40 : Nat) ≤ (140737488355328 : Nat)) ∧ p5q r O s s10 s11 (IntKind.wrap IntKind.i64 (s12 + (1 : Int))) t t1 t2 s4 s41 (kids ++ [[Da.int IntKind.i64 n2, Da.int IntKind.i64 n3, Da.sl xs1]]))))))))))))))))
  ((∃ (b1 : Bool), (XC Try.prog 75 [(L s), (Z t)] [] (B b1) [] ∧ ifB b1
  ((∃ (xs2 : List (List Da)), (XC Try.prog 104 [(.one (.ol 2000)), (.one (.d (.fn 105)))] [(2000, (.tr 31 3 kids))] (.tup []) [(2000, (.tr 31 3 xs2))] ∧ ((.agg [(.d (.int .i64 t)), (.d (.int .i64 t1)), (.ol 0)]) = r ∧ [(0, (.tr 31 3 xs2))] = O))))
  (((.agg [(.d (.int .i64 t)), (.d (.int .i64 t1)), (.ol 0)]) = r ∧ [(0, (.tr 31 3 kids))] = O)))))) : p5q r O s s10 s11 s12 t t1 t2 s4 s41 kids := by
  unfold p5q
  refine d6q (E := env) (hs := H4q) envOk a9q ?_
  exact a8q (by kernel_rfl) h
theorem a59q {s : List (List Da)} {t : Int} {t1 : Int} {t2 : List (List Da)} {r : AV} {O : List (Nat × Ob)} (h : p5q r O s t2 ((↑(List.length t2) : Int)) ((0 : Int)) t t1 t2 ((0 : Int)) ((0 : Int)) []) : XC Try.prog 65 [(L s), (.dat [(.int .i64 t), (.int .i64 t1), (.sl t2)])] [] r O :=
  c7q (E := env) (hs := H4q) (c := (a0q Try.f65)) (n := 48) (res := [.cell 4 31]) (rs := .s [.k (.i .i64), .k (.i .i64), .o 31 3]) (ks := []) (dir := []) envOk a9q rfl Try.func65 (by kernel_rfl) (by kernel_rfl) (by kernel_rfl) (by kernel_rfl) (a8q (by kernel_rfl) h)
def a4Cq : c4q := ⟨[], []⟩
theorem a2Zq {a : Int} {a1 : Int} {a2 : List (List Da)} {b : Int} {b1 : Int} {b2 : List (List Da)} {r : AV} {O : List (Nat × Ob)} (h : (∃ (n : Int), (XC Try.prog 105 [(.dat [(.int .i64 a), (.int .i64 a1), (.sl a2)]), (.dat [(.int .i64 b), (.int .i64 b1), (.sl b2)])] [] (Z n) [] ∧ ((B (decide (n < (0 : Int)))) = r ∧ [] = O)))) : XC Try.prog 112 [(.dat [(.int .i64 a), (.int .i64 a1), (.sl a2)]), (.dat [(.int .i64 b), (.int .i64 b1), (.sl b2)])] [] r O :=
  c7q (E := env) (hs := a4Cq) (c := (a0q Try.f112)) (n := 9) (res := [.tmp 4]) (rs := .c .b) (ks := []) (dir := []) envOk a9q rfl Try.func112 (by kernel_rfl) (by kernel_rfl) (by kernel_rfl) (by kernel_rfl) (a8q (by kernel_rfl) h)
def c3q : c4q := ⟨[(2, ⟨[0, 1, 2, 6, 7, 8], [], [], [], [], [], []⟩), (7, ⟨[0, 1, 2, 6], [], [], [], [], [], []⟩), (9, ⟨[0, 1, 2, 6, 7, 8], [], [], [], [], [], []⟩)], []⟩
def f5q (r : AV) (O : List (Nat × Ob)) (n : Int) (blockSize : Int) (a : Int) (b : Int) (data : List (List Da)) : Prop := CL 63 Try.prog (e8q (a0q Try.f115) [1, 1, 0, 0, 0]) (b6q Try.prog a5q c3q 63 (a0q Try.f115) [1, 1, 0, 0, 0] (a3q a5q [] (.t []) [(2000, (false))] [2000] r O) (b4q (a3q a5q [] (.t []) [(2000, (false))] [2000] r O))).1 (b6q Try.prog a5q c3q 63 (a0q Try.f115) [1, 1, 0, 0, 0] (a3q a5q [] (.t []) [(2000, (false))] [2000] r O) (b4q (a3q a5q [] (.t []) [(2000, (false))] [2000] r O))).2 ⟨[(0, (.one (.ol 2000))), (1, (Z n)), (2, (.one (.d (.fn 89)))), (6, (Z blockSize)), (7, (Z a)), (8, (Z b))], [(2000, (.lst 61 7 data))]⟩
def d0q (r : AV) (O : List (Nat × Ob)) (n : Int) (blockSize : Int) (data : List (List Da)) : Prop := CL 63 Try.prog (e8q (a0q Try.f115) [1, 1, 1, 1, 0, 0]) (b6q Try.prog a5q c3q 63 (a0q Try.f115) [1, 1, 1, 1, 0, 0] (a3q a5q [] (.t []) [(2000, (false))] [2000] r O) (b4q (a3q a5q [] (.t []) [(2000, (false))] [2000] r O))).1 (b6q Try.prog a5q c3q 63 (a0q Try.f115) [1, 1, 1, 1, 0, 0] (a3q a5q [] (.t []) [(2000, (false))] [2000] r O) (b4q (a3q a5q [] (.t []) [(2000, (false))] [2000] r O))).2 ⟨[(0, (.one (.ol 2000))), (1, (Z n)), (2, (.one (.d (.fn 89)))), (6, (Z blockSize))], [(2000, (.lst 61 7 data))]⟩
def f4q (r : AV) (O : List (Nat × Ob)) (n : Int) (blockSize : Int) (a : Int) (b : Int) (data : List (List Da)) : Prop := CL 63 Try.prog (e8q (a0q Try.f115) [1, 1, 1, 1, 0, 0, 1, 0, 1, 0, 0, 0]) (b6q Try.prog a5q c3q 63 (a0q Try.f115) [1, 1, 1, 1, 0, 0, 1, 0, 1, 0, 0, 0] (a3q a5q [] (.t []) [(2000, (false))] [2000] r O) (b4q (a3q a5q [] (.t []) [(2000, (false))] [2000] r O))).1 (b6q Try.prog a5q c3q 63 (a0q Try.f115) [1, 1, 1, 1, 0, 0, 1, 0, 1, 0, 0, 0] (a3q a5q [] (.t []) [(2000, (false))] [2000] r O) (b4q (a3q a5q [] (.t []) [(2000, (false))] [2000] r O))).2 ⟨[(0, (.one (.ol 2000))), (1, (Z n)), (2, (.one (.d (.fn 89)))), (6, (Z blockSize)), (7, (Z a)), (8, (Z b))], [(2000, (.lst 61 7 data))]⟩
theorem i3q {r : AV} {O : List (Nat × Ob)} {n : Int} {blockSize : Int} {a : Int} {b : Int} {data : List (List Da)} (h : ifB (decide (b ≤ n))
  ((∃ (xs : List (List Da)), (XC Try.prog 125 [(.one (.ol 2000)), (Z a), (Z b), (.one (.d (.fn 89)))] [(2000, (.lst 61 7 data))] (.tup []) [(2000, (.lst 61 7 xs))] ∧ f5q r O n blockSize b (IntKind.wrap IntKind.i64 (b + blockSize)) xs)))
  ((∃ (xs1 : List (List Da)), (XC Try.prog 125 [(.one (.ol 2000)), (Z a), (Z n), (.one (.d (.fn 89)))] [(2000, (.lst 61 7 data))] (.tup []) [(2000, (.lst 61 7 xs1))] ∧ d0q r O n blockSize xs1)))) : f5q r O n blockSize a b data := by
  unfold f5q
  refine d6q (E := a5q) (hs := c3q) g0q a9q ?_
  exact a8q (by kernel_rfl) h
theorem i4q {r : AV} {O : List (Nat × Ob)} {n : Int} {blockSize : Int} {data : List (List Da)} (h : ifB (decide (blockSize < n))
  (f4q r O n blockSize ((0 : Int)) (IntKind.wrap IntKind.i64 ((2 : Int) * blockSize)) data)
  (((.tup []) = r ∧ [(2000, (.lst 61 7 data))] = O))) : d0q r O n blockSize data := by
  unfold d0q
  refine d6q (E := a5q) (hs := c3q) g0q a9q ?_
  exact a8q (by kernel_rfl) h
theorem g2q {r : AV} {O : List (Nat × Ob)} {n : Int} {blockSize : Int} {a : Int} {b : Int} {data : List (List Da)} (h : ifB (decide (b ≤ n))
  ((∃ (xs : List (List Da)), (XC Try.prog 126 [(.one (.ol 2000)), (Z a), (Z (IntKind.wrap IntKind.i64 (a + blockSize))), (Z b), (.one (.d (.fn 89)))] [(2000, (.lst 61 7 data))] (.tup []) [(2000, (.lst 61 7 xs))] ∧ f4q r O n blockSize b (IntKind.wrap IntKind.i64 (b + IntKind.wrap IntKind.i64 ((2 : Int) * blockSize))) xs)))
  (ifB (decide (IntKind.wrap IntKind.i64 (a + blockSize) < n))
  ((∃ (xs1 : List (List Da)), (XC Try.prog 126 [(.one (.ol 2000)), (Z a), (Z (IntKind.wrap IntKind.i64 (a + blockSize))), (Z n), (.one (.d (.fn 89)))] [(2000, (.lst 61 7 data))] (.tup []) [(2000, (.lst 61 7 xs1))] ∧ d0q r O n (IntKind.wrap IntKind.i64 (blockSize * (2 : Int))) xs1)))
  (d0q r O n (IntKind.wrap IntKind.i64 (blockSize * (2 : Int))) data))) : f4q r O n blockSize a b data := by
  unfold f4q
  refine d6q (E := a5q) (hs := c3q) g0q a9q ?_
  exact a8q (by kernel_rfl) h
theorem s8q {n : Int} {o2000 : List (List Da)} {r : AV} {O : List (Nat × Ob)} (h : f5q r O n ((20 : Int)) ((0 : Int)) ((20 : Int)) o2000) : XC Try.prog 115 [(.one (.ol 2000)), (Z n), (.one (.d (.fn 89)))] [(2000, (.lst 61 7 o2000))] r O :=
  c7q (E := a5q) (hs := c3q) (c := (a0q Try.f115)) (n := 63) (res := []) (rs := .t []) (ks := [(2000, (false))]) (dir := [2000]) g0q a9q rfl Try.func115 (by kernel_rfl) (by kernel_rfl) (by kernel_rfl) (by kernel_rfl) (a8q (by kernel_rfl) h)
def z6q : c4q := ⟨[(4, ⟨[0, 1, 5], [], [], [], [], [], []⟩)], []⟩
def r5q (r : AV) (O : List (Nat × Ob)) (a : List (List Da)) (b : List (List Da)) (i : Int) : Prop := CL 27 Try.prog (e8q (a0q Try.f66) [1, 1, 0, 1, 0, 0]) (b6q Try.prog env z6q 27 (a0q Try.f66) [1, 1, 0, 1, 0, 0] (a3q env [.tmp 4] (.c .b) [] [] r O) (b4q (a3q env [.tmp 4] (.c .b) [] [] r O))).1 (b6q Try.prog env z6q 27 (a0q Try.f66) [1, 1, 0, 1, 0, 0] (a3q env [.tmp 4] (.c .b) [] [] r O) (b4q (a3q env [.tmp 4] (.c .b) [] [] r O))).2 ⟨[(0, (L a)), (1, (L b)), (5, (Z i))], []⟩
theorem I8q {r : AV} {O : List (Nat × Ob)} {a : List (List Da)} {b : List (List Da)} {i : Int} (h : ifB (decide (i < (↑(List.length a) : Int)))
  ((∃ (m : Nat), (i = ((↑m : Int)) ∧ (∃ (n : Int), (∃ (n1 : Int), (∃ (xs : List (List Da)), ((a[m]?) = some [(.int .i64 n), (.int .i64 n1), (.sl xs)] ∧ (∃ (m1 : Nat), (i = ((↑m1 : Int)) ∧ (∃ (n2 : Int), (∃ (n3 : Int), (∃ (xs1 : List (List Da)), ((b[m1]?) = some [(.int .i64 n2), (.int .i64 n3), (.sl xs1)] ∧ (∃ (b2 : Bool), (XC Try.prog 16 [(.dat [(.int .i64 n), (.int .i64 n1), (.sl xs)]), (.dat [(.int .i64 n2), (.int .i64 n3), (.sl xs1)])] [] (B b2) [] ∧ ifB (!b2)
  (((B (false)) = r ∧ [] = O))
  (r5q r O a b (IntKind.wrap IntKind.i64 (i + (1 : Int)))))))))))))))))))
  (((B (true)) = r ∧ [] = O))) : r5q r O a b i := by
  unfold r5q
  refine d6q (E := env) (hs := z6q) envOk a9q ?_
  exact a8q (by kernel_rfl) h
theorem a22q {a : List (List Da)} {b : List (List Da)} {r : AV} {O : List (Nat × Ob)} (h : ifB (decide ((↑(List.length a) : Int) ≠ (↑(List.length b) : Int)))
  (((B (false)) = r ∧ [] = O))
  (r5q r O a b ((0 : Int)))) : XC Try.prog 66 [(L a), (L b)] [] r O :=
  c7q (E := env) (hs := z6q) (c := (a0q Try.f66)) (n := 27) (res := [.tmp 4]) (rs := .c .b) (ks := []) (dir := []) envOk a9q rfl Try.func66 (by kernel_rfl) (by kernel_rfl) (by kernel_rfl) (by kernel_rfl) (a8q (by kernel_rfl) h)
def H7q : c4q := ⟨[(2, ⟨[0, 1, 4, 5], [], [], [], [], [], []⟩)], []⟩
def y2q (r : AV) (O : List (Nat × Ob)) (u : List (List Da)) (v : Int) (i : Int) (s4 : Int) (s41 : Int) : Prop := CL 27 Try.prog (e8q (a0q Try.f122) [1, 0, 1, 0, 0]) (b6q Try.prog env H7q 27 (a0q Try.f122) [1, 0, 1, 0, 0] (a3q env [.cell 4 31] (.d [(.i .i64), (.i .i64), .l]) [] [] r O) (b4q (a3q env [.cell 4 31] (.d [(.i .i64), (.i .i64), .l]) [] [] r O))).1 (b6q Try.prog env H7q 27 (a0q Try.f122) [1, 0, 1, 0, 0] (a3q env [.cell 4 31] (.d [(.i .i64), (.i .i64), .l]) [] [] r O) (b4q (a3q env [.cell 4 31] (.d [(.i .i64), (.i .i64), .l]) [] [] r O))).2 ⟨[(0, (L u)), (1, (Z v)), (4, (.one (.op 1900 0))), (5, (Z i))], [(1900, (.var [(.d (.int .i64 s4)), (.d (.int .i64 s41)), .e0]))]⟩
theorem Q4q {r : AV} {O : List (Nat × Ob)} {u : List (List Da)} {v : Int} {i : Int} {s4 : Int} {s41 : Int} (h : ifB (decide (i < (↑(List.length u) : Int)))
  ((∃ (m : Nat), (i = ((↑m : Int)) ∧ (∃ (n : Int), (∃ (n1 : Int), (∃ (n2 : Int), (∃ (xs : List (List Da)), ((u[m]?) = some [(.int .i64 n), (.int .i64 n1), (.int .i64 n2), (.sl xs)] ∧ ifB (decide (n = v))
  ((∃ (m1 : Nat), (i = ((↑m1 : Int)) ∧ (∃ (n3 : Int), (∃ (n4 : Int), (∃ (n5 : Int), (∃ (xs1 : List (List Da)), ((u[m1]?) = some [(.int .i64 n3), (.int .i64 n4), (.int .i64 n5), (.sl xs1)] ∧ (∃ (n6 : Int), (∃ (n7 : Int), (∃ (xs2 : List (List Da)), (XC Try.prog 100 [(.dat [(.int .i64 n4), (.int .i64 n5), (.sl xs1)])] [] (.dat [(.int .i64 n6), (.int .i64 n7), (.sl xs2)]) [] ∧ ((.dat [(.int .i64 n6), (.int .i64 n7), (.sl xs2)]) = r ∧ [] = O)))))))))))))
  (y2q r O u v (IntKind.wrap IntKind.i64 (i + (1 : Int))) s4 s41)))))))))
  ((∃ (n8 : Int), (∃ (n9 : Int), (∃ (xs3 : List (List Da)), (XC Try.prog 74 [(Z v)] [] (.dat [(.int .i64 n8), (.int .i64 n9), (.sl xs3)]) [] ∧ ((.dat [(.int .i64 n8), (.int .i64 n9), (.sl xs3)]) = r ∧ [] = O))))))) : y2q r O u v i s4 s41 := by
  unfold y2q
  refine d6q (E := env) (hs := H7q) envOk a9q ?_
  exact a8q (by kernel_rfl) h
theorem a5Rq {u : List (List Da)} {v : Int} {r : AV} {O : List (Nat × Ob)} (h : y2q r O u v ((0 : Int)) ((0 : Int)) ((0 : Int))) : XC Try.prog 122 [(L u), (Z v)] [] r O :=
  c7q (E := env) (hs := H7q) (c := (a0q Try.f122)) (n := 27) (res := [.cell 4 31]) (rs := .d [(.i .i64), (.i .i64), .l]) (ks := []) (dir := []) envOk a9q rfl Try.func122 (by kernel_rfl) (by kernel_rfl) (by kernel_rfl) (by kernel_rfl) (a8q (by kernel_rfl) h)
def a5bq : c4q := ⟨[], []⟩
theorem a48q {s : List (List Da)} {f : Int} {r : AV} {O : List (Nat × Ob)} (h : (∃ (b : Bool), (XC Try.prog 99 [(Z f), (Z ((0 : Int))), (Z (IntKind.wrap IntKind.i64 ((↑(List.length s) : Int) - (1 : Int))))] [] (B b) [] ∧ ifB b
  ((∃ (m : Nat), (f = ((↑m : Int)) ∧ (∃ (q : ByteArray), (∃ (n : Int), (∃ (b1 : Bool), ((s[m]?) = some [(.str q), (.int .i64 n), (.bool b1)] ∧ ((B b1) = r ∧ [] = O))))))))
  (((B (false)) = r ∧ [] = O))))) : XC Try.prog 71 [(L s), (Z f)] [] r O :=
  c7q (E := env) (hs := a5bq) (c := (a0q Try.f71)) (n := 17) (res := [.tmp 4]) (rs := .c .b) (ks := []) (dir := []) envOk a9q rfl Try.func71 (by kernel_rfl) (by kernel_rfl) (by kernel_rfl) (by kernel_rfl) (a8q (by kernel_rfl) h)
def F3q : c4q := ⟨[(2, ⟨[0, 3, 5], [], [], [], [], [], []⟩)], []⟩
def v9q (r : AV) (O : List (Nat × Ob)) (list : List (List Da)) (at_ : Int) (t : Int) (t1 : Int) (t2 : List (List Da)) : Prop := CL 36 Try.prog (e8q (a0q Try.f101) [1, 1, 0, 0, 0]) (b6q Try.prog env F3q 36 (a0q Try.f101) [1, 1, 0, 0, 0] (a3q env [.tmp 4] (.b 31 3) [] [] r O) (b4q (a3q env [.tmp 4] (.b 31 3) [] [] r O))).1 (b6q Try.prog env F3q 36 (a0q Try.f101) [1, 1, 0, 0, 0] (a3q env [.tmp 4] (.b 31 3) [] [] r O) (b4q (a3q env [.tmp 4] (.b 31 3) [] [] r O))).2 ⟨[(0, (L list)), (3, (.one (.op 1900 0))), (5, (Z at_))], [(1900, (.var [(.d (.int .i64 t)), (.d (.int .i64 t1)), (.d (.sl t2))]))]⟩
theorem O1q {r : AV} {O : List (Nat × Ob)} {list : List (List Da)} {at_ : Int} {t : Int} {t1 : Int} {t2 : List (List Da)} (h : ifB (decide (at_ < (↑(List.length list) : Int)))
  ((∃ (m : Nat), (at_ = ((↑m : Int)) ∧ (∃ (n : Int), (∃ (n1 : Int), (∃ (xs : List (List Da)), ((list[m]?) = some [(.int .i64 n), (.int .i64 n1), (.sl xs)] ∧ (∃ (b : Bool), (XC Try.prog 110 [(.dat [(.int .i64 t), (.int .i64 t1), (.sl t2)]), (.dat [(.int .i64 n), (.int .i64 n1), (.sl xs)])] [] (B b) [] ∧ ifB (!b)
  (v9q r O list (IntKind.wrap IntKind.i64 (at_ + (1 : Int))) t t1 t2)
  ((∃ (n2 : Nat), (at_ = ((↑n2 : Int)) ∧ (Do ((0 : Nat) ≤ n2 ∧ n2 ≤ List.length list) ∧ (Do (∀ (c : List Da), c ∈ list → List.length c = TI.n { agg := true, n := (3 : Nat), b := (40 : Nat), el := none, fs := [some ((0 : Nat), (1 : Nat), false), some ((1 : Nat), (1 : Nat), false), some ((2 : Nat), (1 : Nat), false)], pr := (5 : Nat), ik := none }) ∧ (Do (∀ (y : List Da), y ∈ List.drop (0 : Nat) (List.take n2 list) → List.length y = Prod.fst ((3 : Nat), (40 : Nat), [At.d (Da.int IntKind.i64 (0 : Int)), At.d (Da.int IntKind.i64 (0 : Int)), At.e0])) ∧ (Do ((List.length ([] : List (List Da)) + List.length (List.drop (0 : Nat) (List.take n2 list))) * (40 : Nat) ≤ (140737488355328 : Nat)) ∧ (Do ((List.length ([] ++ List.drop (0 : Nat) (List.take n2 list)) + List.length [[Da.int IntKind.i64 t, Da.int IntKind.i64 t1, Da.sl t2]]) * (40 : Nat) ≤ (140737488355328 : Nat)) ∧ (∃ (n3 : Nat), (at_ = ((↑n3 : Int)) ∧ (Do (n3 ≤ List.length list ∧ List.length list ≤ List.length list) ∧ (Do (∀ (c : List Da), c ∈ list → List.length c = TI.n { agg := true, n := (3 : Nat), b := (40 : Nat), el := none, fs := [some ((0 : Nat), (1 : Nat), false), some ((1 : Nat), (1 : Nat), false), some ((2 : Nat), (1 : Nat), false)], pr := (5 : Nat), ik := none }) ∧ (Do (∀ (y : List Da), y ∈ List.drop n3 (List.take (List.length list) list) → List.length y = Prod.fst ((3 : Nat), (40 : Nat), [At.d (Da.int IntKind.i64 (0 : Int)), At.d (Da.int IntKind.i64 (0 : Int)), At.e0])) ∧ (Do ((List.length ([] ++ List.drop (0 : Nat) (List.take n2 list) ++ [[Da.int IntKind.i64 t, Da.int IntKind.i64 t1, Da.sl t2]]) + List.length (List.drop n3 (List.take (List.length list) list))) * (40 : Nat) ≤ (140737488355328 : Nat)) ∧ ((.one (.ol 0)) = r ∧ [(0, (.lst 31 3 ([] ++ List.drop (0 : Nat) (List.take n2 list) ++ [[Da.int IntKind.i64 t, Da.int IntKind.i64 t1, Da.sl t2]] ++ List.drop n3 (List.take (List.length list) list))))] = O))))))))))))))))))))))))
  ((∃ (n4 : Nat), (at_ = ((↑n4 : Int)) ∧ (Do ((0 : Nat) ≤ n4 ∧ n4 ≤ List.length list) ∧ (Do (∀ (c : List Da), c ∈ list → List.length c = TI.n { agg := true, n := (3 : Nat), b := (40 : Nat), el := none, fs := [some ((0 : Nat), (1 : Nat), false), some ((1 : Nat), (1 : Nat), false), some ((2 : Nat), (1 : Nat), false)], pr := (5 : Nat), ik := none }) ∧ (Do (∀ (y : List Da), y ∈ List.drop (0 : Nat) (List.take n4 list) → List.length y = Prod.fst ((3 : Nat), (40 : Nat), [At.d (Da.int IntKind.i64 (0 : Int)), At.d (Da.int IntKind.i64 (0 : Int)), At.e0])) ∧ (Do ((List.length ([] : List (List Da)) + List.length (List.drop (0 : Nat) (List.take n4 list))) * (40 : Nat) ≤ (140737488355328 : Nat)) ∧ (Do ((List.length ([] ++ List.drop (0 : Nat) (List.take n4 list)) + List.length [[Da.int IntKind.i64 t, Da.int IntKind.i64 t1, Da.sl t2]]) * (40 : Nat) ≤ (140737488355328 : Nat)) ∧ (∃ (n5 : Nat), (at_ = ((↑n5 : Int)) ∧ (Do (n5 ≤ List.length list ∧ List.length list ≤ List.length list) ∧ (Do (∀ (c : List Da), c ∈ list → List.length c = TI.n { agg := true, n := (3 : Nat), b := (40 : Nat), el := none, fs := [some ((0 : Nat), (1 : Nat), false), some ((1 : Nat), (1 : Nat), false), some ((2 : Nat), (1 : Nat), false)], pr := (5 : Nat), ik := none }) ∧ (Do (∀ (y : List Da), y ∈ List.drop n5 (List.take (List.length list) list) → List.length y = Prod.fst ((3 : Nat), (40 : Nat), [At.d (Da.int IntKind.i64 (0 : Int)), At.d (Da.int IntKind.i64 (0 : Int)), At.e0])) ∧ (Do ((List.length ([] ++ List.drop (0 : Nat) (List.take n4 list) ++ [[Da.int IntKind.i64 t, Da.int IntKind.i64 t1, Da.sl t2]]) + List.length (List.drop n5 (List.take (List.length list) list))) * (40 : Nat) ≤ (140737488355328 : Nat)) ∧ ((.one (.ol 0)) = r ∧ [(0, (.lst 31 3 ([] ++ List.drop (0 : Nat) (List.take n4 list) ++ [[Da.int IntKind.i64 t, Da.int IntKind.i64 t1, Da.sl t2]] ++ List.drop n5 (List.take (List.length list) list))))] = O)))))))))))))))) : v9q r O list at_ t t1 t2 := by
  unfold v9q
  refine d6q (E := env) (hs := F3q) envOk a9q ?_
  exact a8q (by kernel_rfl) h
theorem a47q {list : List (List Da)} {t : Int} {t1 : Int} {t2 : List (List Da)} {r : AV} {O : List (Nat × Ob)} (h : v9q r O list ((0 : Int)) t t1 t2) : XC Try.prog 101 [(L list), (.dat [(.int .i64 t), (.int .i64 t1), (.sl t2)])] [] r O :=
  c7q (E := env) (hs := F3q) (c := (a0q Try.f101)) (n := 36) (res := [.tmp 4]) (rs := .b 31 3) (ks := []) (dir := []) envOk a9q rfl Try.func101 (by kernel_rfl) (by kernel_rfl) (by kernel_rfl) (by kernel_rfl) (a8q (by kernel_rfl) h)
def a63q : c4q := ⟨[], []⟩
theorem a4zq {t : Int} {t1 : Int} {t2 : List (List Da)} {r : AV} {O : List (Nat × Ob)} (h : ((B (decide (t = (-1 : Int)))) = r ∧ [] = O)) : XC Try.prog 123 [(.dat [(.int .i64 t), (.int .i64 t1), (.sl t2)])] [] r O :=
  c7q (E := env) (hs := a63q) (c := (a0q Try.f123)) (n := 6) (res := [.tmp 2]) (rs := .c .b) (ks := []) (dir := []) envOk a9q rfl Try.func123 (by kernel_rfl) (by kernel_rfl) (by kernel_rfl) (by kernel_rfl) (a8q (by kernel_rfl) h)
def a6Kq : c4q := ⟨[], []⟩
theorem a0sq {u : List (List Da)} {v : Int} {r : AV} {O : List (Nat × Ob)} (h : (∃ (n : Int), (∃ (n1 : Int), (∃ (xs : List (List Da)), (∃ (b : Bool), (XC Try.prog 138 [(L u), (Z v)] [] (.tup [(.dat [(.int .i64 n), (.int .i64 n1), (.sl xs)]), (B b)]) [] ∧ ifB (!b)
  ((∃ (n2 : Int), (∃ (n3 : Int), (XC Try.prog 78 [(Z v)] [] (.agg [(.d (.int .i64 n2)), (.d (.int .i64 n3)), .e0]) [] ∧ ((.agg [(.d (.int .i64 n2)), (.d (.int .i64 n3)), (.ol 0)]) = r ∧ [(0, (.tr 31 3 []))] = O)))))
  ((∃ (n4 : Int), (∃ (n5 : Int), (∃ (xs1 : List (List Da)), (XC Try.prog 76 [(.dat [(.int .i64 n), (.int .i64 n1), (.sl xs)])] [] (.agg [(.d (.int .i64 n4)), (.d (.int .i64 n5)), (.ol 0)]) [(0, (.tr 31 3 xs1))] ∧ ((.agg [(.d (.int .i64 n4)), (.d (.int .i64 n5)), (.ol 0)]) = r ∧ [(0, (.tr 31 3 xs1))] = O)))))))))))) : XC Try.prog 124 [(L u), (Z v)] [] r O :=
  c7q (E := env) (hs := a6Kq) (c := (a0q Try.f124)) (n := 19) (res := [.cell 4 31]) (rs := .s [.k (.i .i64), .k (.i .i64), .o 31 3]) (ks := []) (dir := []) envOk a9q rfl Try.func124 (by kernel_rfl) (by kernel_rfl) (by kernel_rfl) (by kernel_rfl) (a8q (by kernel_rfl) h)
def a5qq : c4q := ⟨[], []⟩
theorem a3Yq {s : List (List Da)} {f : Int} {r : AV} {O : List (Nat × Ob)} (h : (∃ (b : Bool), (XC Try.prog 108 [(L s), (Z f)] [] (B b) [] ∧ ifB b
  ((∃ (m : Nat), (f = ((↑m : Int)) ∧ (∃ (q : ByteArray), (∃ (n : Int), (∃ (b1 : Bool), ((s[m]?) = some [(.str q), (.int .i64 n), (.bool b1)] ∧ ((B b1) = r ∧ [] = O))))))))
  (((B (false)) = r ∧ [] = O))))) : XC Try.prog 75 [(L s), (Z f)] [] r O :=
  c7q (E := env) (hs := a5qq) (c := (a0q Try.f75)) (n := 15) (res := [.tmp 4]) (rs := .c .b) (ks := []) (dir := []) envOk a9q rfl Try.func75 (by kernel_rfl) (by kernel_rfl) (by kernel_rfl) (by kernel_rfl) (a8q (by kernel_rfl) h)
def u8q : c4q := ⟨[], []⟩
theorem u6q {o2000 : List (List Da)} {r : AV} {O : List (Nat × Ob)} (h : (∃ (xs : List (List Da)), (XC Try.prog 121 [(.one (.ol 2000)), (Z ((↑(List.length o2000) : Int))), (.one (.d (.fn 105)))] [(2000, (.lst 31 3 o2000))] (.tup []) [(2000, (.lst 31 3 xs))] ∧ ((.tup []) = r ∧ [(2000, (.lst 31 3 xs))] = O)))) : XC Try.prog 104 [(.one (.ol 2000)), (.one (.d (.fn 105)))] [(2000, (.lst 31 3 o2000))] r O :=
  c7q (E := a5q) (hs := u8q) (c := (a0q Try.f104)) (n := 9) (res := []) (rs := .t []) (ks := [(2000, (false))]) (dir := [2000]) g0q a9q rfl Try.func104 (by kernel_rfl) (by kernel_rfl) (by kernel_rfl) (by kernel_rfl) (a8q (by kernel_rfl) h)
def c9q : c4q := ⟨[(1, ⟨[0, 1, 2, 3, 8], [], [], [], [], [], []⟩), (4, ⟨[0, 1, 2, 3, 8, 9], [], [], [], [], [], []⟩)], []⟩
def c8q (r : AV) (O : List (Nat × Ob)) (a : Int) (b : Int) (i : Int) (data : List (List Da)) : Prop := CL 53 Try.prog (e8q (a0q Try.f125) [1, 0, 0]) (b6q Try.prog a5q c9q 53 (a0q Try.f125) [1, 0, 0] (a3q a5q [] (.t []) [(2000, (false))] [2000] r O) (b4q (a3q a5q [] (.t []) [(2000, (false))] [2000] r O))).1 (b6q Try.prog a5q c9q 53 (a0q Try.f125) [1, 0, 0] (a3q a5q [] (.t []) [(2000, (false))] [2000] r O) (b4q (a3q a5q [] (.t []) [(2000, (false))] [2000] r O))).2 ⟨[(0, (.one (.ol 2000))), (1, (Z a)), (2, (Z b)), (3, (.one (.d (.fn 89)))), (8, (Z i))], [(2000, (.lst 61 7 data))]⟩
def e1q (r : AV) (O : List (Nat × Ob)) (a : Int) (b : Int) (i : Int) (j : Int) (data : List (List Da)) : Prop := CL 53 Try.prog (e8q (a0q Try.f125) [1, 0, 0, 1, 0, 0, 1, 0, 0]) (b6q Try.prog a5q c9q 53 (a0q Try.f125) [1, 0, 0, 1, 0, 0, 1, 0, 0] (a3q a5q [] (.t []) [(2000, (false))] [2000] r O) (b4q (a3q a5q [] (.t []) [(2000, (false))] [2000] r O))).1 (b6q Try.prog a5q c9q 53 (a0q Try.f125) [1, 0, 0, 1, 0, 0, 1, 0, 0] (a3q a5q [] (.t []) [(2000, (false))] [2000] r O) (b4q (a3q a5q [] (.t []) [(2000, (false))] [2000] r O))).2 ⟨[(0, (.one (.ol 2000))), (1, (Z a)), (2, (Z b)), (3, (.one (.d (.fn 89)))), (8, (Z i)), (9, (Z j))], [(2000, (.lst 61 7 data))]⟩
theorem h2q {r : AV} {O : List (Nat × Ob)} {a : Int} {b : Int} {i : Int} {data : List (List Da)} (h : ifB (decide (i < b))
  (e1q r O a b i i data)
  (((.tup []) = r ∧ [(2000, (.lst 61 7 data))] = O))) : c8q r O a b i data := by
  unfold c8q
  refine d6q (E := a5q) (hs := c9q) g0q a9q ?_
  exact a8q (by kernel_rfl) h
theorem h1q {r : AV} {O : List (Nat × Ob)} {a : Int} {b : Int} {i : Int} {j : Int} {data : List (List Da)} (h : ifB (decide (a < j))
  ((∃ (m : Nat), (j = ((↑m : Int)) ∧ (Do (m < List.length data) ∧ (∃ (n : Nat), ((m * (7 : Nat)) = (n * (7 : Nat)) ∧ (∃ (b2 : Bool), (∃ (n1 : Int), (∃ (n2 : Int), (∃ (d : Da), (∃ (n3 : Int), (∃ (n4 : Int), (∃ (d1 : Da), ((data[n]?) = some [(.bool b2), (.int .i64 n1), (.int .i64 n2), d, (.int .i64 n3), (.int .i64 n4), d1] ∧ (∃ (m1 : Nat), ((IntKind.wrap IntKind.i64 (j - (1 : Int))) = ((↑m1 : Int)) ∧ (Do (m1 < List.length data) ∧ (∃ (n5 : Nat), ((m1 * (7 : Nat)) = (n5 * (7 : Nat)) ∧ (∃ (b3 : Bool), (∃ (n6 : Int), (∃ (n7 : Int), (∃ (d2 : Da), (∃ (n8 : Int), (∃ (n9 : Int), (∃ (d3 : Da), ((data[n5]?) = some [(.bool b3), (.int .i64 n6), (.int .i64 n7), d2, (.int .i64 n8), (.int .i64 n9), d3] ∧ (∃ (n10 : Int), (XC Try.prog 89 [(.dat [(.bool b2), (.int .i64 n1), (.int .i64 n2), d, (.int .i64 n3), (.int .i64 n4), d1]), (.dat [(.bool b3), (.int .i64 n6), (.int .i64 n7), d2, (.int .i64 n8), (.int .i64 n9), d3])] [] (Z n10) [] ∧ ifB (decide (n10 < (0 : Int)))
  ((∃ (m2 : Nat), ((IntKind.wrap IntKind.i64 (j - (1 : Int))) = ((↑m2 : Int)) ∧ (Do (m2 < List.length data) ∧ (∃ (n11 : Nat), ((m2 * (7 : Nat)) = (n11 * (7 : Nat)) ∧ (∃ (b4 : Bool), (∃ (n12 : Int), (∃ (n13 : Int), (∃ (d4 : Da), (∃ (n14 : Int), (∃ (n15 : Int), (∃ (d5 : Da), ((data[n11]?) = some [(.bool b4), (.int .i64 n12), (.int .i64 n13), d4, (.int .i64 n14), (.int .i64 n15), d5] ∧ (∃ (m3 : Nat), (j = ((↑m3 : Int)) ∧ (Do (m3 < List.length data) ∧ (∃ (n16 : Nat), ((m3 * (7 : Nat)) = (n16 * (7 : Nat)) ∧ (∃ (b5 : Bool), (∃ (n17 : Int), (∃ (n18 : Int), (∃ (d6 : Da), (∃ (n19 : Int), (∃ (n20 : Int), (∃ (d7 : Da), ((data[n16]?) = some [(.bool b5), (.int .i64 n17), (.int .i64 n18), d6, (.int .i64 n19), (.int .i64 n20), d7] ∧ (∃ (m4 : Nat), (j = ((↑m4 : Int)) ∧ (Do (m4 < List.length data) ∧ (∃ (m5 : Nat), ((m4 * (7 : Nat)) = (m5 * (7 : Nat) + (0 : Nat)) ∧ (∃ (b6 : Bool), (∃ (n21 : Int), (∃ (n22 : Int), (∃ (d8 : Da), (∃ (n23 : Int), (∃ (n24 : Int), (∃ (d9 : Da), ((data[m5]?) = some [(.bool b6), (.int .i64 n21), (.int .i64 n22), d8, (.int .i64 n23), (.int .i64 n24), d9] ∧ (∃ (m6 : Nat), ((IntKind.wrap IntKind.i64 (j - (1 : Int))) = ((↑m6 : Int)) ∧ (Do (m6 < List.length (List.set data m5 ([] ++ [Da.bool b4, Da.int IntKind.i64 n12, Da.int IntKind.i64 n13, d4, Da.int IntKind.i64 n14, Da.int IntKind.i64 n15, d5] ++ []))) ∧ (∃ (m7 : Nat), ((m6 * (7 : Nat)) = (m7 * (7 : Nat) + (0 : Nat)) ∧ (∃ (b7 : Bool), (∃ (n25 : Int), (∃ (n26 : Int), (∃ (d10 : Da), (∃ (n27 : Int), (∃ (n28 : Int), (∃ (d11 : Da), (((List.set data m5 ([] ++ [Da.bool b4, Da.int IntKind.i64 n12, Da.int IntKind.i64 n13, d4, Da.int IntKind.i64 n14, Da.int IntKind.i64 n15, d5] ++ []))[m7]?) = some [(.bool b7), (.int .i64 n25), (.int .i64 n26), d10, (.int .i64 n27), (.int .i64 n28), d11] ∧ e1q r O a b i (IntKind.wrap IntKind.i64 (j - (1 : Int))) (List.set (List.set data m5 ([] ++ [Da.bool b4, Da.int IntKind.i64 n12, Da.int IntKind.i64 n13, d4, Da.int IntKind.i64 n14, Da.int IntKind.i64 n15, d5] ++ [])) m7 ([] ++ [Da.bool b5, Da.int IntKind.i64 n17, Da.int IntKind.i64 n18, d6, Da.int IntKind.i64 n19, Da.int IntKind.i64 n20, d7] ++ [])))))))))))))))))))))))))))))))))))))))))))))))))))))))
  (c8q r O a b (IntKind.wrap IntKind.i64 (i + (1 : Int))) data))))))))))))))))))))))))))))))
  (c8q r O a b (IntKind.wrap IntKind.i64 (i + (1 : Int))) data)) : e1q r O a b i j data := by
  unfold e1q
  refine d6q (E := a5q) (hs := c9q) g0q a9q ?_
  exact a8q (by kernel_rfl) h
theorem j4q {a : Int} {b : Int} {o2000 : List (List Da)} {r : AV} {O : List (Nat × Ob)} (h : c8q r O a b (IntKind.wrap IntKind.i64 (a + (1 : Int))) o2000) : XC Try.prog 125 [(.one (.ol 2000)), (Z a), (Z b), (.one (.d (.fn 89)))] [(2000, (.lst 61 7 o2000))] r O :=
  c7q (E := a5q) (hs := c9q) (c := (a0q Try.f125)) (n := 53) (res := []) (rs := .t []) (ks := [(2000, (false))]) (dir := [2000]) g0q a9q rfl Try.func125 (by kernel_rfl) (by kernel_rfl) (by kernel_rfl) (by kernel_rfl) (a8q (by kernel_rfl) h)
def a7q : c4q := ⟨[(3, ⟨[0, 1, 4, 10, 11], [], [], [], [], [], []⟩), (9, ⟨[0, 10, 13], [], [], [], [], [], []⟩), (15, ⟨[0, 2, 4, 14, 15], [], [], [], [], [], []⟩), (21, ⟨[0, 14, 17], [], [], [], [], [], []⟩), (33, ⟨[0, 1, 2, 3, 4, 18, 19, 20, 21, 22], [], [], [], [], [], []⟩)], []⟩
def b9q (r : AV) (O : List (Nat × Ob)) (s1 : Int) (s10 : Int) (s11 : Int) (s0 : List (List Da)) : Prop := CL 220 Try.prog (e8q (a0q Try.f126) [0, 1, 0, 1, 1, 0, 0, 0]) (b6q Try.prog a5q a7q 220 (a0q Try.f126) [0, 1, 0, 1, 1, 0, 0, 0] (a3q a5q [] (.t []) [(2000, (false))] [2000] r O) (b4q (a3q a5q [] (.t []) [(2000, (false))] [2000] r O))).1 (b6q Try.prog a5q a7q 220 (a0q Try.f126) [0, 1, 0, 1, 1, 0, 0, 0] (a3q a5q [] (.t []) [(2000, (false))] [2000] r O) (b4q (a3q a5q [] (.t []) [(2000, (false))] [2000] r O))).2 ⟨[(0, (.one (.ol 2000))), (1, (Z s1)), (4, (.one (.d (.fn 89)))), (10, (Z s10)), (11, (Z s11))], [(2000, (.lst 61 7 s0))]⟩
def b8q (r : AV) (O : List (Nat × Ob)) (s2 : Int) (s14 : Int) (s15 : Int) (s0 : List (List Da)) : Prop := CL 220 Try.prog (e8q (a0q Try.f126) [1, 0, 1, 0, 1, 1, 0, 0, 0]) (b6q Try.prog a5q a7q 220 (a0q Try.f126) [1, 0, 1, 0, 1, 1, 0, 0, 0] (a3q a5q [] (.t []) [(2000, (false))] [2000] r O) (b4q (a3q a5q [] (.t []) [(2000, (false))] [2000] r O))).1 (b6q Try.prog a5q a7q 220 (a0q Try.f126) [1, 0, 1, 0, 1, 1, 0, 0, 0] (a3q a5q [] (.t []) [(2000, (false))] [2000] r O) (b4q (a3q a5q [] (.t []) [(2000, (false))] [2000] r O))).2 ⟨[(0, (.one (.ol 2000))), (2, (Z s2)), (4, (.one (.d (.fn 89)))), (14, (Z s14)), (15, (Z s15))], [(2000, (.lst 61 7 s0))]⟩
def b0q (r : AV) (O : List (Nat × Ob)) (s1 : Int) (s2 : Int) (s3 : Int) (s18 : Int) (s19 : Int) (s20 : Int) (s21 : Int) (s22 : Int) (s0 : List (List Da)) : Prop := CL 220 Try.prog (e8q (a0q Try.f126) [1, 1, 1, 1, 1, 1, 1, 0, 0, 0]) (b6q Try.prog a5q a7q 220 (a0q Try.f126) [1, 1, 1, 1, 1, 1, 1, 0, 0, 0] (a3q a5q [] (.t []) [(2000, (false))] [2000] r O) (b4q (a3q a5q [] (.t []) [(2000, (false))] [2000] r O))).1 (b6q Try.prog a5q a7q 220 (a0q Try.f126) [1, 1, 1, 1, 1, 1, 1, 0, 0, 0] (a3q a5q [] (.t []) [(2000, (false))] [2000] r O) (b4q (a3q a5q [] (.t []) [(2000, (false))] [2000] r O))).2 ⟨[(0, (.one (.ol 2000))), (1, (Z s1)), (2, (Z s2)), (3, (Z s3)), (4, (.one (.d (.fn 89)))), (18, (Z s18)), (19, (Z s19)), (20, (Z s20)), (21, (Z s21)), (22, (Z s22))], [(2000, (.lst 61 7 s0))]⟩
def d7q (r : AV) (O : List (Nat × Ob)) (s10 : Int) (s13 : Int) (s0 : List (List Da)) : Prop := CL 220 Try.prog (e8q (a0q Try.f126) [0, 1, 0, 1, 1, 1, 0, 1, 0, 0]) (b6q Try.prog a5q a7q 220 (a0q Try.f126) [0, 1, 0, 1, 1, 1, 0, 1, 0, 0] (a3q a5q [] (.t []) [(2000, (false))] [2000] r O) (b4q (a3q a5q [] (.t []) [(2000, (false))] [2000] r O))).1 (b6q Try.prog a5q a7q 220 (a0q Try.f126) [0, 1, 0, 1, 1, 1, 0, 1, 0, 0] (a3q a5q [] (.t []) [(2000, (false))] [2000] r O) (b4q (a3q a5q [] (.t []) [(2000, (false))] [2000] r O))).2 ⟨[(0, (.one (.ol 2000))), (10, (Z s10)), (13, (Z s13))], [(2000, (.lst 61 7 s0))]⟩
def d5q (r : AV) (O : List (Nat × Ob)) (s14 : Int) (s17 : Int) (s0 : List (List Da)) : Prop := CL 220 Try.prog (e8q (a0q Try.f126) [1, 0, 1, 0, 1, 1, 1, 0, 1, 0, 0]) (b6q Try.prog a5q a7q 220 (a0q Try.f126) [1, 0, 1, 0, 1, 1, 1, 0, 1, 0, 0] (a3q a5q [] (.t []) [(2000, (false))] [2000] r O) (b4q (a3q a5q [] (.t []) [(2000, (false))] [2000] r O))).1 (b6q Try.prog a5q a7q 220 (a0q Try.f126) [1, 0, 1, 0, 1, 1, 1, 0, 1, 0, 0] (a3q a5q [] (.t []) [(2000, (false))] [2000] r O) (b4q (a3q a5q [] (.t []) [(2000, (false))] [2000] r O))).2 ⟨[(0, (.one (.ol 2000))), (14, (Z s14)), (17, (Z s17))], [(2000, (.lst 61 7 s0))]⟩
theorem j9q {r : AV} {O : List (Nat × Ob)} {s1 : Int} {s10 : Int} {s11 : Int} {s0 : List (List Da)} (h : ifB (decide (s10 < s11))
  ((Do ((0 : Int) ≤ (1 : Int) ∧ (1 : Int) ≤ (↑(IntKind.bits IntKind.u64) : Int)) ∧ (∃ (m : Nat), ((IntKind.wrap IntKind.i64 (IntKind.wrap IntKind.u64 (IntKind.wrap IntKind.i64 (s10 + s11)) / (2 : Int) ^ Int.toNat (1 : Int))) = ((↑m : Int)) ∧ (Do (m < List.length s0) ∧ (∃ (n : Nat), ((m * (7 : Nat)) = (n * (7 : Nat)) ∧ (∃ (b : Bool), (∃ (n1 : Int), (∃ (n2 : Int), (∃ (d : Da), (∃ (n3 : Int), (∃ (n4 : Int), (∃ (d1 : Da), ((s0[n]?) = some [(.bool b), (.int .i64 n1), (.int .i64 n2), d, (.int .i64 n3), (.int .i64 n4), d1] ∧ (∃ (m1 : Nat), (s1 = ((↑m1 : Int)) ∧ (Do (m1 < List.length s0) ∧ (∃ (n5 : Nat), ((m1 * (7 : Nat)) = (n5 * (7 : Nat)) ∧ (∃ (b1 : Bool), (∃ (n6 : Int), (∃ (n7 : Int), (∃ (d2 : Da), (∃ (n8 : Int), (∃ (n9 : Int), (∃ (d3 : Da), ((s0[n5]?) = some [(.bool b1), (.int .i64 n6), (.int .i64 n7), d2, (.int .i64 n8), (.int .i64 n9), d3] ∧ (∃ (n10 : Int), (XC Try.prog 89 [(.dat [(.bool b), (.int .i64 n1), (.int .i64 n2), d, (.int .i64 n3), (.int .i64 n4), d1]), (.dat [(.bool b1), (.int .i64 n6), (.int .i64 n7), d2, (.int .i64 n8), (.int .i64 n9), d3])] [] (Z n10) [] ∧ ifB (decide (n10 < (0 : Int)))
  (b9q r O s1 (IntKind.wrap IntKind.i64 (IntKind.wrap IntKind.i64 (IntKind.wrap IntKind.u64 (IntKind.wrap IntKind.i64 (s10 + s11)) / (2 : Int) ^ Int.toNat (1 : Int)) + (1 : Int))) s11 s0)
  (b9q r O s1 s10 (IntKind.wrap IntKind.i64 (IntKind.wrap IntKind.u64 (IntKind.wrap IntKind.i64 (s10 + s11)) / (2 : Int) ^ Int.toNat (1 : Int))) s0)))))))))))))))))))))))))))))))
  (d7q r O s10 s1 s0)) : b9q r O s1 s10 s11 s0 := by
  unfold b9q
  refine d6q (E := a5q) (hs := a7q) g0q a9q ?_
  exact a8q (by kernel_rfl) h
theorem j7q {r : AV} {O : List (Nat × Ob)} {s2 : Int} {s14 : Int} {s15 : Int} {s0 : List (List Da)} (h : ifB (decide (s14 < s15))
  ((Do ((0 : Int) ≤ (1 : Int) ∧ (1 : Int) ≤ (↑(IntKind.bits IntKind.u64) : Int)) ∧ (∃ (m : Nat), (s2 = ((↑m : Int)) ∧ (Do (m < List.length s0) ∧ (∃ (n : Nat), ((m * (7 : Nat)) = (n * (7 : Nat)) ∧ (∃ (b : Bool), (∃ (n1 : Int), (∃ (n2 : Int), (∃ (d : Da), (∃ (n3 : Int), (∃ (n4 : Int), (∃ (d1 : Da), ((s0[n]?) = some [(.bool b), (.int .i64 n1), (.int .i64 n2), d, (.int .i64 n3), (.int .i64 n4), d1] ∧ (∃ (m1 : Nat), ((IntKind.wrap IntKind.i64 (IntKind.wrap IntKind.u64 (IntKind.wrap IntKind.i64 (s14 + s15)) / (2 : Int) ^ Int.toNat (1 : Int))) = ((↑m1 : Int)) ∧ (Do (m1 < List.length s0) ∧ (∃ (n5 : Nat), ((m1 * (7 : Nat)) = (n5 * (7 : Nat)) ∧ (∃ (b1 : Bool), (∃ (n6 : Int), (∃ (n7 : Int), (∃ (d2 : Da), (∃ (n8 : Int), (∃ (n9 : Int), (∃ (d3 : Da), ((s0[n5]?) = some [(.bool b1), (.int .i64 n6), (.int .i64 n7), d2, (.int .i64 n8), (.int .i64 n9), d3] ∧ (∃ (n10 : Int), (XC Try.prog 89 [(.dat [(.bool b), (.int .i64 n1), (.int .i64 n2), d, (.int .i64 n3), (.int .i64 n4), d1]), (.dat [(.bool b1), (.int .i64 n6), (.int .i64 n7), d2, (.int .i64 n8), (.int .i64 n9), d3])] [] (Z n10) [] ∧ ifB (!decide (n10 < (0 : Int)))
  (b8q r O s2 (IntKind.wrap IntKind.i64 (IntKind.wrap IntKind.i64 (IntKind.wrap IntKind.u64 (IntKind.wrap IntKind.i64 (s14 + s15)) / (2 : Int) ^ Int.toNat (1 : Int)) + (1 : Int))) s15 s0)
  (b8q r O s2 s14 (IntKind.wrap IntKind.i64 (IntKind.wrap IntKind.u64 (IntKind.wrap IntKind.i64 (s14 + s15)) / (2 : Int) ^ Int.toNat (1 : Int))) s0)))))))))))))))))))))))))))))))
  (d5q r O s14 s2 s0)) : b8q r O s2 s14 s15 s0 := by
  unfold b8q
  refine d6q (E := a5q) (hs := a7q) g0q a9q ?_
  exact a8q (by kernel_rfl) h
theorem j5q {r : AV} {O : List (Nat × Ob)} {s1 : Int} {s2 : Int} {s3 : Int} {s18 : Int} {s19 : Int} {s20 : Int} {s21 : Int} {s22 : Int} {s0 : List (List Da)} (h : ifB (decide (s20 < s21))
  ((Do ((0 : Int) ≤ (1 : Int) ∧ (1 : Int) ≤ (↑(IntKind.bits IntKind.u64) : Int)) ∧ (∃ (m : Nat), ((IntKind.wrap IntKind.i64 (s22 - IntKind.wrap IntKind.i64 (IntKind.wrap IntKind.u64 (IntKind.wrap IntKind.i64 (s20 + s21)) / (2 : Int) ^ Int.toNat (1 : Int)))) = ((↑m : Int)) ∧ (Do (m < List.length s0) ∧ (∃ (n : Nat), ((m * (7 : Nat)) = (n * (7 : Nat)) ∧ (∃ (b : Bool), (∃ (n1 : Int), (∃ (n2 : Int), (∃ (d : Da), (∃ (n3 : Int), (∃ (n4 : Int), (∃ (d1 : Da), ((s0[n]?) = some [(.bool b), (.int .i64 n1), (.int .i64 n2), d, (.int .i64 n3), (.int .i64 n4), d1] ∧ (∃ (m1 : Nat), ((IntKind.wrap IntKind.i64 (IntKind.wrap IntKind.u64 (IntKind.wrap IntKind.i64 (s20 + s21)) / (2 : Int) ^ Int.toNat (1 : Int))) = ((↑m1 : Int)) ∧ (Do (m1 < List.length s0) ∧ (∃ (n5 : Nat), ((m1 * (7 : Nat)) = (n5 * (7 : Nat)) ∧ (∃ (b1 : Bool), (∃ (n6 : Int), (∃ (n7 : Int), (∃ (d2 : Da), (∃ (n8 : Int), (∃ (n9 : Int), (∃ (d3 : Da), ((s0[n5]?) = some [(.bool b1), (.int .i64 n6), (.int .i64 n7), d2, (.int .i64 n8), (.int .i64 n9), d3] ∧ (∃ (n10 : Int), (XC Try.prog 89 [(.dat [(.bool b), (.int .i64 n1), (.int .i64 n2), d, (.int .i64 n3), (.int .i64 n4), d1]), (.dat [(.bool b1), (.int .i64 n6), (.int .i64 n7), d2, (.int .i64 n8), (.int .i64 n9), d3])] [] (Z n10) [] ∧ ifB (!decide (n10 < (0 : Int)))
  (b0q r O s1 s2 s3 s18 s19 (IntKind.wrap IntKind.i64 (IntKind.wrap IntKind.i64 (IntKind.wrap IntKind.u64 (IntKind.wrap IntKind.i64 (s20 + s21)) / (2 : Int) ^ Int.toNat (1 : Int)) + (1 : Int))) s21 s22 s0)
  (b0q r O s1 s2 s3 s18 s19 s20 (IntKind.wrap IntKind.i64 (IntKind.wrap IntKind.u64 (IntKind.wrap IntKind.i64 (s20 + s21)) / (2 : Int) ^ Int.toNat (1 : Int))) s22 s0)))))))))))))))))))))))))))))))
  (ifB (decide (s20 < s2))
  (ifB (decide (s2 < IntKind.wrap IntKind.i64 (s19 - s20)))
  ((∃ (xs : List (List Da)), (XC Try.prog 139 [(.one (.ol 2000)), (Z s20), (Z s2), (Z (IntKind.wrap IntKind.i64 (s19 - s20))), (.one (.d (.fn 89)))] [(2000, (.lst 61 7 s0))] (.tup []) [(2000, (.lst 61 7 xs))] ∧ ifB (decide (s1 < s20))
  (ifB (decide (s20 < s18))
  ((∃ (xs1 : List (List Da)), (XC Try.prog 126 [(.one (.ol 2000)), (Z s1), (Z s20), (Z s18), (.one (.d (.fn 89)))] [(2000, (.lst 61 7 xs))] (.tup []) [(2000, (.lst 61 7 xs1))] ∧ ifB (decide (s18 < IntKind.wrap IntKind.i64 (s19 - s20)))
  (ifB (decide (IntKind.wrap IntKind.i64 (s19 - s20) < s3))
  ((∃ (xs2 : List (List Da)), (XC Try.prog 126 [(.one (.ol 2000)), (Z s18), (Z (IntKind.wrap IntKind.i64 (s19 - s20))), (Z s3), (.one (.d (.fn 89)))] [(2000, (.lst 61 7 xs1))] (.tup []) [(2000, (.lst 61 7 xs2))] ∧ ((.tup []) = r ∧ [(2000, (.lst 61 7 xs2))] = O))))
  (((.tup []) = r ∧ [(2000, (.lst 61 7 xs1))] = O)))
  (((.tup []) = r ∧ [(2000, (.lst 61 7 xs1))] = O)))))
  (ifB (decide (s18 < IntKind.wrap IntKind.i64 (s19 - s20)))
  (ifB (decide (IntKind.wrap IntKind.i64 (s19 - s20) < s3))
  ((∃ (xs3 : List (List Da)), (XC Try.prog 126 [(.one (.ol 2000)), (Z s18), (Z (IntKind.wrap IntKind.i64 (s19 - s20))), (Z s3), (.one (.d (.fn 89)))] [(2000, (.lst 61 7 xs))] (.tup []) [(2000, (.lst 61 7 xs3))] ∧ ((.tup []) = r ∧ [(2000, (.lst 61 7 xs3))] = O))))
  (((.tup []) = r ∧ [(2000, (.lst 61 7 xs))] = O)))
  (((.tup []) = r ∧ [(2000, (.lst 61 7 xs))] = O))))
  (ifB (decide (s18 < IntKind.wrap IntKind.i64 (s19 - s20)))
  (ifB (decide (IntKind.wrap IntKind.i64 (s19 - s20) < s3))
  ((∃ (xs4 : List (List Da)), (XC Try.prog 126 [(.one (.ol 2000)), (Z s18), (Z (IntKind.wrap IntKind.i64 (s19 - s20))), (Z s3), (.one (.d (.fn 89)))] [(2000, (.lst 61 7 xs))] (.tup []) [(2000, (.lst 61 7 xs4))] ∧ ((.tup []) = r ∧ [(2000, (.lst 61 7 xs4))] = O))))
  (((.tup []) = r ∧ [(2000, (.lst 61 7 xs))] = O)))
  (((.tup []) = r ∧ [(2000, (.lst 61 7 xs))] = O))))))
  (ifB (decide (s1 < s20))
  (ifB (decide (s20 < s18))
  ((∃ (xs5 : List (List Da)), (XC Try.prog 126 [(.one (.ol 2000)), (Z s1), (Z s20), (Z s18), (.one (.d (.fn 89)))] [(2000, (.lst 61 7 s0))] (.tup []) [(2000, (.lst 61 7 xs5))] ∧ ifB (decide (s18 < IntKind.wrap IntKind.i64 (s19 - s20)))
  (ifB (decide (IntKind.wrap IntKind.i64 (s19 - s20) < s3))
  ((∃ (xs6 : List (List Da)), (XC Try.prog 126 [(.one (.ol 2000)), (Z s18), (Z (IntKind.wrap IntKind.i64 (s19 - s20))), (Z s3), (.one (.d (.fn 89)))] [(2000, (.lst 61 7 xs5))] (.tup []) [(2000, (.lst 61 7 xs6))] ∧ ((.tup []) = r ∧ [(2000, (.lst 61 7 xs6))] = O))))
  (((.tup []) = r ∧ [(2000, (.lst 61 7 xs5))] = O)))
  (((.tup []) = r ∧ [(2000, (.lst 61 7 xs5))] = O)))))
  (ifB (decide (s18 < IntKind.wrap IntKind.i64 (s19 - s20)))
  (ifB (decide (IntKind.wrap IntKind.i64 (s19 - s20) < s3))
  ((∃ (xs7 : List (List Da)), (XC Try.prog 126 [(.one (.ol 2000)), (Z s18), (Z (IntKind.wrap IntKind.i64 (s19 - s20))), (Z s3), (.one (.d (.fn 89)))] [(2000, (.lst 61 7 s0))] (.tup []) [(2000, (.lst 61 7 xs7))] ∧ ((.tup []) = r ∧ [(2000, (.lst 61 7 xs7))] = O))))
  (((.tup []) = r ∧ [(2000, (.lst 61 7 s0))] = O)))
  (((.tup []) = r ∧ [(2000, (.lst 61 7 s0))] = O))))
  (ifB (decide (s18 < IntKind.wrap IntKind.i64 (s19 - s20)))
  (ifB (decide (IntKind.wrap IntKind.i64 (s19 - s20) < s3))
  ((∃ (xs8 : List (List Da)), (XC Try.prog 126 [(.one (.ol 2000)), (Z s18), (Z (IntKind.wrap IntKind.i64 (s19 - s20))), (Z s3), (.one (.d (.fn 89)))] [(2000, (.lst 61 7 s0))] (.tup []) [(2000, (.lst 61 7 xs8))] ∧ ((.tup []) = r ∧ [(2000, (.lst 61 7 xs8))] = O))))
  (((.tup []) = r ∧ [(2000, (.lst 61 7 s0))] = O)))
  (((.tup []) = r ∧ [(2000, (.lst 61 7 s0))] = O)))))
  (ifB (decide (s1 < s20))
  (ifB (decide (s20 < s18))
  ((∃ (xs9 : List (List Da)), (XC Try.prog 126 [(.one (.ol 2000)), (Z s1), (Z s20), (Z s18), (.one (.d (.fn 89)))] [(2000, (.lst 61 7 s0))] (.tup []) [(2000, (.lst 61 7 xs9))] ∧ ifB (decide (s18 < IntKind.wrap IntKind.i64 (s19 - s20)))
  (ifB (decide (IntKind.wrap IntKind.i64 (s19 - s20) < s3))
  ((∃ (xs10 : List (List Da)), (XC Try.prog 126 [(.one (.ol 2000)), (Z s18), (Z (IntKind.wrap IntKind.i64 (s19 - s20))), (Z s3), (.one (.d (.fn 89)))] [(2000, (.lst 61 7 xs9))] (.tup []) [(2000, (.lst 61 7 xs10))] ∧ ((.tup []) = r ∧ [(2000, (.lst 61 7 xs10))] = O))))
  (((.tup []) = r ∧ [(2000, (.lst 61 7 xs9))] = O)))
  (((.tup []) = r ∧ [(2000, (.lst 61 7 xs9))] = O)))))
  (ifB (decide (s18 < IntKind.wrap IntKind.i64 (s19 - s20)))
  (ifB (decide (IntKind.wrap IntKind.i64 (s19 - s20) < s3))
  ((∃ (xs11 : List (List Da)), (XC Try.prog 126 [(.one (.ol 2000)), (Z s18), (Z (IntKind.wrap IntKind.i64 (s19 - s20))), (Z s3), (.one (.d (.fn 89)))] [(2000, (.lst 61 7 s0))] (.tup []) [(2000, (.lst 61 7 xs11))] ∧ ((.tup []) = r ∧ [(2000, (.lst 61 7 xs11))] = O))))
  (((.tup []) = r ∧ [(2000, (.lst 61 7 s0))] = O)))
  (((.tup []) = r ∧ [(2000, (.lst 61 7 s0))] = O))))
  (ifB (decide (s18 < IntKind.wrap IntKind.i64 (s19 - s20)))
  (ifB (decide (IntKind.wrap IntKind.i64 (s19 - s20) < s3))
  ((∃ (xs12 : List (List Da)), (XC Try.prog 126 [(.one (.ol 2000)), (Z s18), (Z (IntKind.wrap IntKind.i64 (s19 - s20))), (Z s3), (.one (.d (.fn 89)))] [(2000, (.lst 61 7 s0))] (.tup []) [(2000, (.lst 61 7 xs12))] ∧ ((.tup []) = r ∧ [(2000, (.lst 61 7 xs12))] = O))))
  (((.tup []) = r ∧ [(2000, (.lst 61 7 s0))] = O)))
  (((.tup []) = r ∧ [(2000, (.lst 61 7 s0))] = O)))))) : b0q r O s1 s2 s3 s18 s19 s20 s21 s22 s0 := by
  unfold b0q
  refine d6q (E := a5q) (hs := a7q) g0q a9q ?_
  exact a8q (by kernel_rfl) h
theorem k0q {r : AV} {O : List (Nat × Ob)} {s10 : Int} {s13 : Int} {s0 : List (List Da)} (h : ifB (decide (s13 < IntKind.wrap IntKind.i64 (s10 - (1 : Int))))
  ((∃ (m : Nat), ((IntKind.wrap IntKind.i64 (s13 + (1 : Int))) = ((↑m : Int)) ∧ (Do (m < List.length s0) ∧ (∃ (n : Nat), ((m * (7 : Nat)) = (n * (7 : Nat)) ∧ (∃ (b : Bool), (∃ (n1 : Int), (∃ (n2 : Int), (∃ (d : Da), (∃ (n3 : Int), (∃ (n4 : Int), (∃ (d1 : Da), ((s0[n]?) = some [(.bool b), (.int .i64 n1), (.int .i64 n2), d, (.int .i64 n3), (.int .i64 n4), d1] ∧ (∃ (m1 : Nat), (s13 = ((↑m1 : Int)) ∧ (Do (m1 < List.length s0) ∧ (∃ (n5 : Nat), ((m1 * (7 : Nat)) = (n5 * (7 : Nat)) ∧ (∃ (b1 : Bool), (∃ (n6 : Int), (∃ (n7 : Int), (∃ (d2 : Da), (∃ (n8 : Int), (∃ (n9 : Int), (∃ (d3 : Da), ((s0[n5]?) = some [(.bool b1), (.int .i64 n6), (.int .i64 n7), d2, (.int .i64 n8), (.int .i64 n9), d3] ∧ (∃ (m2 : Nat), (s13 = ((↑m2 : Int)) ∧ (Do (m2 < List.length s0) ∧ (∃ (m3 : Nat), ((m2 * (7 : Nat)) = (m3 * (7 : Nat) + (0 : Nat)) ∧ (∃ (b2 : Bool), (∃ (n10 : Int), (∃ (n11 : Int), (∃ (d4 : Da), (∃ (n12 : Int), (∃ (n13 : Int), (∃ (d5 : Da), ((s0[m3]?) = some [(.bool b2), (.int .i64 n10), (.int .i64 n11), d4, (.int .i64 n12), (.int .i64 n13), d5] ∧ (∃ (m4 : Nat), ((IntKind.wrap IntKind.i64 (s13 + (1 : Int))) = ((↑m4 : Int)) ∧ (Do (m4 < List.length (List.set s0 m3 ([] ++ [Da.bool b, Da.int IntKind.i64 n1, Da.int IntKind.i64 n2, d, Da.int IntKind.i64 n3, Da.int IntKind.i64 n4, d1] ++ []))) ∧ (∃ (m5 : Nat), ((m4 * (7 : Nat)) = (m5 * (7 : Nat) + (0 : Nat)) ∧ (∃ (b3 : Bool), (∃ (n14 : Int), (∃ (n15 : Int), (∃ (d6 : Da), (∃ (n16 : Int), (∃ (n17 : Int), (∃ (d7 : Da), (((List.set s0 m3 ([] ++ [Da.bool b, Da.int IntKind.i64 n1, Da.int IntKind.i64 n2, d, Da.int IntKind.i64 n3, Da.int IntKind.i64 n4, d1] ++ []))[m5]?) = some [(.bool b3), (.int .i64 n14), (.int .i64 n15), d6, (.int .i64 n16), (.int .i64 n17), d7] ∧ d7q r O s10 (IntKind.wrap IntKind.i64 (s13 + (1 : Int))) (List.set (List.set s0 m3 ([] ++ [Da.bool b, Da.int IntKind.i64 n1, Da.int IntKind.i64 n2, d, Da.int IntKind.i64 n3, Da.int IntKind.i64 n4, d1] ++ [])) m5 ([] ++ [Da.bool b1, Da.int IntKind.i64 n6, Da.int IntKind.i64 n7, d2, Da.int IntKind.i64 n8, Da.int IntKind.i64 n9, d3] ++ [])))))))))))))))))))))))))))))))))))))))))))))))))))))))
  (((.tup []) = r ∧ [(2000, (.lst 61 7 s0))] = O))) : d7q r O s10 s13 s0 := by
  unfold d7q
  refine d6q (E := a5q) (hs := a7q) g0q a9q ?_
  exact a8q (by kernel_rfl) h
theorem j8q {r : AV} {O : List (Nat × Ob)} {s14 : Int} {s17 : Int} {s0 : List (List Da)} (h : ifB (decide (s14 < s17))
  ((∃ (m : Nat), ((IntKind.wrap IntKind.i64 (s17 - (1 : Int))) = ((↑m : Int)) ∧ (Do (m < List.length s0) ∧ (∃ (n : Nat), ((m * (7 : Nat)) = (n * (7 : Nat)) ∧ (∃ (b : Bool), (∃ (n1 : Int), (∃ (n2 : Int), (∃ (d : Da), (∃ (n3 : Int), (∃ (n4 : Int), (∃ (d1 : Da), ((s0[n]?) = some [(.bool b), (.int .i64 n1), (.int .i64 n2), d, (.int .i64 n3), (.int .i64 n4), d1] ∧ (∃ (m1 : Nat), (s17 = ((↑m1 : Int)) ∧ (Do (m1 < List.length s0) ∧ (∃ (n5 : Nat), ((m1 * (7 : Nat)) = (n5 * (7 : Nat)) ∧ (∃ (b1 : Bool), (∃ (n6 : Int), (∃ (n7 : Int), (∃ (d2 : Da), (∃ (n8 : Int), (∃ (n9 : Int), (∃ (d3 : Da), ((s0[n5]?) = some [(.bool b1), (.int .i64 n6), (.int .i64 n7), d2, (.int .i64 n8), (.int .i64 n9), d3] ∧ (∃ (m2 : Nat), (s17 = ((↑m2 : Int)) ∧ (Do (m2 < List.length s0) ∧ (∃ (m3 : Nat), ((m2 * (7 : Nat)) = (m3 * (7 : Nat) + (0 : Nat)) ∧ (∃ (b2 : Bool), (∃ (n10 : Int), (∃ (n11 : Int), (∃ (d4 : Da), (∃ (n12 : Int), (∃ (n13 : Int), (∃ (d5 : Da), ((s0[m3]?) = some [(.bool b2), (.int .i64 n10), (.int .i64 n11), d4, (.int .i64 n12), (.int .i64 n13), d5] ∧ (∃ (m4 : Nat), ((IntKind.wrap IntKind.i64 (s17 - (1 : Int))) = ((↑m4 : Int)) ∧ (Do (m4 < List.length (List.set s0 m3 ([] ++ [Da.bool b, Da.int IntKind.i64 n1, Da.int IntKind.i64 n2, d, Da.int IntKind.i64 n3, Da.int IntKind.i64 n4, d1] ++ []))) ∧ (∃ (m5 : Nat), ((m4 * (7 : Nat)) = (m5 * (7 : Nat) + (0 : Nat)) ∧ (∃ (b3 : Bool), (∃ (n14 : Int), (∃ (n15 : Int), (∃ (d6 : Da), (∃ (n16 : Int), (∃ (n17 : Int), (∃ (d7 : Da), (((List.set s0 m3 ([] ++ [Da.bool b, Da.int IntKind.i64 n1, Da.int IntKind.i64 n2, d, Da.int IntKind.i64 n3, Da.int IntKind.i64 n4, d1] ++ []))[m5]?) = some [(.bool b3), (.int .i64 n14), (.int .i64 n15), d6, (.int .i64 n16), (.int .i64 n17), d7] ∧ d5q r O s14 (IntKind.wrap IntKind.i64 (s17 - (1 : Int))) (List.set (List.set s0 m3 ([] ++ [Da.bool b, Da.int IntKind.i64 n1, Da.int IntKind.i64 n2, d, Da.int IntKind.i64 n3, Da.int IntKind.i64 n4, d1] ++ [])) m5 ([] ++ [Da.bool b1, Da.int IntKind.i64 n6, Da.int IntKind.i64 n7, d2, Da.int IntKind.i64 n8, Da.int IntKind.i64 n9, d3] ++ [])))))))))))))))))))))))))))))))))))))))))))))))))))))))
  (((.tup []) = r ∧ [(2000, (.lst 61 7 s0))] = O))) : d5q r O s14 s17 s0 := by
  unfold d5q
  refine d6q (E := a5q) (hs := a7q) g0q a9q ?_
  exact a8q (by kernel_rfl) h
theorem g5q {p : Int} {p1 : Int} {p2 : Int} {o2000 : List (List Da)} {r : AV} {O : List (Nat × Ob)} (h : ifB (decide (IntKind.wrap IntKind.i64 (p1 - p) = (1 : Int)))
  (b9q r O p p1 p2 o2000)
  (ifB (decide (IntKind.wrap IntKind.i64 (p2 - p1) = (1 : Int)))
  (b8q r O p1 p p1 o2000)
  ((Do ((0 : Int) ≤ (1 : Int) ∧ (1 : Int) ≤ (↑(IntKind.bits IntKind.u64) : Int)) ∧ ifB (decide (IntKind.wrap IntKind.i64 (IntKind.wrap IntKind.u64 (IntKind.wrap IntKind.i64 (p + p2)) / (2 : Int) ^ Int.toNat (1 : Int)) < p1))
  (b0q r O p p1 p2 (IntKind.wrap IntKind.i64 (IntKind.wrap IntKind.u64 (IntKind.wrap IntKind.i64 (p + p2)) / (2 : Int) ^ Int.toNat (1 : Int))) (IntKind.wrap IntKind.i64 (IntKind.wrap IntKind.i64 (IntKind.wrap IntKind.u64 (IntKind.wrap IntKind.i64 (p + p2)) / (2 : Int) ^ Int.toNat (1 : Int)) + p1)) (IntKind.wrap IntKind.i64 (IntKind.wrap IntKind.i64 (IntKind.wrap IntKind.i64 (IntKind.wrap IntKind.u64 (IntKind.wrap IntKind.i64 (p + p2)) / (2 : Int) ^ Int.toNat (1 : Int)) + p1) - p2)) (IntKind.wrap IntKind.i64 (IntKind.wrap IntKind.u64 (IntKind.wrap IntKind.i64 (p + p2)) / (2 : Int) ^ Int.toNat (1 : Int))) (IntKind.wrap IntKind.i64 (IntKind.wrap IntKind.i64 (IntKind.wrap IntKind.i64 (IntKind.wrap IntKind.u64 (IntKind.wrap IntKind.i64 (p + p2)) / (2 : Int) ^ Int.toNat (1 : Int)) + p1) - (1 : Int))) o2000)
  (b0q r O p p1 p2 (IntKind.wrap IntKind.i64 (IntKind.wrap IntKind.u64 (IntKind.wrap IntKind.i64 (p + p2)) / (2 : Int) ^ Int.toNat (1 : Int))) (IntKind.wrap IntKind.i64 (IntKind.wrap IntKind.i64 (IntKind.wrap IntKind.u64 (IntKind.wrap IntKind.i64 (p + p2)) / (2 : Int) ^ Int.toNat (1 : Int)) + p1)) p p1 (IntKind.wrap IntKind.i64 (IntKind.wrap IntKind.i64 (IntKind.wrap IntKind.i64 (IntKind.wrap IntKind.u64 (IntKind.wrap IntKind.i64 (p + p2)) / (2 : Int) ^ Int.toNat (1 : Int)) + p1) - (1 : Int))) o2000))))) : XC Try.prog 126 [(.one (.ol 2000)), (Z p), (Z p1), (Z p2), (.one (.d (.fn 89)))] [(2000, (.lst 61 7 o2000))] r O :=
  c7q (E := a5q) (hs := a7q) (c := (a0q Try.f126)) (n := 220) (res := []) (rs := .t []) (ks := [(2000, (false))]) (dir := [2000]) g0q a9q rfl Try.func126 (by kernel_rfl) (by kernel_rfl) (by kernel_rfl) (by kernel_rfl) (a8q (by kernel_rfl) h)
def B7q : c4q := ⟨[(3, ⟨[1, 2, 3, 4], [], [], [(3, (2, (31, 3)))], [], [3], []⟩)], []⟩
def t7q (r : AV) (O : List (Nat × Ob)) (i : Int) (t : Int) (t1 : Int) (t2 : List (List Da)) (s2 : Int) (s21 : Int) (out : Int) (out1 : Int) (out2 : List (List Da)) : Prop := CL 29 Try.prog (e8q (a0q Try.f100) [1, 1, 0, 1, 0, 0]) (b6q Try.prog env B7q 29 (a0q Try.f100) [1, 1, 0, 1, 0, 0] (a3q env [.cell 2 31] (.d [(.i .i64), (.i .i64), .l]) [] [] r O) (b4q (a3q env [.cell 2 31] (.d [(.i .i64), (.i .i64), .l]) [] [] r O))).1 (b6q Try.prog env B7q 29 (a0q Try.f100) [1, 1, 0, 1, 0, 0] (a3q env [.cell 2 31] (.d [(.i .i64), (.i .i64), .l]) [] [] r O) (b4q (a3q env [.cell 2 31] (.d [(.i .i64), (.i .i64), .l]) [] [] r O))).2 ⟨[(1, (.one (.op 1900 0))), (2, (.one (.op 1901 0))), (3, (.one (.op 1902 0))), (4, (Z i))], [(1900, (.var [(.d (.int .i64 t)), (.d (.int .i64 t1)), (.d (.sl t2))])), (1901, (.var [(.d (.int .i64 s2)), (.d (.int .i64 s21)), .e0])), (1902, (.var [(.d (.int .i64 out)), (.d (.int .i64 out1)), (.ol 1903)])), (1903, (.lst 31 3 out2))]⟩
theorem K4q {r : AV} {O : List (Nat × Ob)} {i : Int} {t : Int} {t1 : Int} {t2 : List (List Da)} {s2 : Int} {s21 : Int} {out : Int} {out1 : Int} {out2 : List (List Da)} (h : ifB (decide (i < (↑(List.length t2) : Int)))
  ((∃ (m : Nat), (i = ((↑m : Int)) ∧ (∃ (n : Int), (∃ (n1 : Int), (∃ (xs : List (List Da)), ((t2[m]?) = some [(.int .i64 n), (.int .i64 n1), (.sl xs)] ∧ (∃ (n2 : Int), (∃ (n3 : Int), (∃ (xs1 : List (List Da)), (XC Try.prog 100 [(.dat [(.int .i64 n), (.int .i64 n1), (.sl xs)])] [] (.dat [(.int .i64 n2), (.int .i64 n3), (.sl xs1)]) [] ∧ (Do ((List.length out2 + List.length [[Da.int IntKind.i64 n2, Da.int IntKind.i64 n3, Da.sl xs1]]) * (40 : Nat) ≤ (140737488355328 : Nat)) ∧ t7q r O (IntKind.wrap IntKind.i64 (i + (1 : Int))) t t1 t2 s2 s21 out out1 (out2 ++ [[Da.int IntKind.i64 n2, Da.int IntKind.i64 n3, Da.sl xs1]])))))))))))))
  (((.dat [(.int .i64 out), (.int .i64 out1), (.sl out2)]) = r ∧ [] = O))) : t7q r O i t t1 t2 s2 s21 out out1 out2 := by
  unfold t7q
  refine d6q (E := env) (hs := B7q) envOk a9q ?_
  exact a8q (by kernel_rfl) h
theorem a3fq {t : Int} {t1 : Int} {t2 : List (List Da)} {r : AV} {O : List (Nat × Ob)} (h : t7q r O ((0 : Int)) t t1 t2 ((0 : Int)) ((0 : Int)) t t1 []) : XC Try.prog 100 [(.dat [(.int .i64 t), (.int .i64 t1), (.sl t2)])] [] r O :=
  c7q (E := env) (hs := B7q) (c := (a0q Try.f100)) (n := 29) (res := [.cell 2 31]) (rs := .d [(.i .i64), (.i .i64), .l]) (ks := []) (dir := []) envOk a9q rfl Try.func100 (by kernel_rfl) (by kernel_rfl) (by kernel_rfl) (by kernel_rfl) (a8q (by kernel_rfl) h)
def a5Hq : c4q := ⟨[], []⟩
theorem a4eq {v : Int} {r : AV} {O : List (Nat × Ob)} (h : ((.dat [(.int .i64 ((-1 : Int))), (.int .i64 v), (.sl [])]) = r ∧ [] = O)) : XC Try.prog 74 [(Z v)] [] r O :=
  c7q (E := env) (hs := a5Hq) (c := (a0q Try.f74)) (n := 5) (res := [.cell 2 31]) (rs := .d [(.i .i64), (.i .i64), .l]) (ks := []) (dir := []) envOk a9q rfl Try.func74 (by kernel_rfl) (by kernel_rfl) (by kernel_rfl) (by kernel_rfl) (a8q (by kernel_rfl) h)
def a6tq : c4q := ⟨[], []⟩
theorem a4Uq {x : Int} {lo : Int} {hi : Int} {r : AV} {O : List (Nat × Ob)} (h : ifB (decide (lo ≤ x))
  (((B (decide (x ≤ hi))) = r ∧ [] = O))
  (((B (false)) = r ∧ [] = O))) : XC Try.prog 99 [(Z x), (Z lo), (Z hi)] [] r O :=
  c7q (E := env) (hs := a6tq) (c := (a0q Try.f99)) (n := 15) (res := [.tmp 6]) (rs := .c .b) (ks := []) (dir := []) envOk a9q rfl Try.func99 (by kernel_rfl) (by kernel_rfl) (by kernel_rfl) (by kernel_rfl) (a8q (by kernel_rfl) h)
def E1q : c4q := ⟨[(2, ⟨[1, 4, 8, 9, 10], [], [], [], [], [], []⟩)], []⟩
def w0q (r : AV) (O : List (Nat × Ob)) (v : Int) (s8 : List (List Da)) (s9 : Int) (s10 : Int) (s4 : Int) (s41 : Int) : Prop := CL 22 Try.prog (e8q (a0q Try.f138) [1, 0, 1, 0, 0]) (b6q Try.prog env E1q 22 (a0q Try.f138) [1, 0, 1, 0, 0] (a3q env [.cell 4 31, .tmp 5] (.t [.d [(.i .i64), (.i .i64), .l], .c .b]) [] [] r O) (b4q (a3q env [.cell 4 31, .tmp 5] (.t [.d [(.i .i64), (.i .i64), .l], .c .b]) [] [] r O))).1 (b6q Try.prog env E1q 22 (a0q Try.f138) [1, 0, 1, 0, 0] (a3q env [.cell 4 31, .tmp 5] (.t [.d [(.i .i64), (.i .i64), .l], .c .b]) [] [] r O) (b4q (a3q env [.cell 4 31, .tmp 5] (.t [.d [(.i .i64), (.i .i64), .l], .c .b]) [] [] r O))).2 ⟨[(1, (Z v)), (4, (.one (.op 1900 0))), (8, (L s8)), (9, (Z s9)), (10, (Z s10))], [(1900, (.var [(.d (.int .i64 s4)), (.d (.int .i64 s41)), .e0]))]⟩
theorem N4q {r : AV} {O : List (Nat × Ob)} {v : Int} {s8 : List (List Da)} {s9 : Int} {s10 : Int} {s4 : Int} {s41 : Int} (h : ifB (decide (s10 < s9))
  ((∃ (m : Nat), (s10 = ((↑m : Int)) ∧ (∃ (n : Int), (∃ (n1 : Int), (∃ (n2 : Int), (∃ (xs : List (List Da)), ((s8[m]?) = some [(.int .i64 n), (.int .i64 n1), (.int .i64 n2), (.sl xs)] ∧ ifB (decide (n = v))
  (((.tup [(.dat [(.int .i64 n1), (.int .i64 n2), (.sl xs)]), (B (true))]) = r ∧ [] = O))
  (w0q r O v s8 s9 (IntKind.wrap IntKind.i64 (s10 + (1 : Int))) s4 s41)))))))))
  (((.tup [(.dat [(.int .i64 ((0 : Int))), (.int .i64 ((0 : Int))), (.sl [])]), (B (false))]) = r ∧ [] = O))) : w0q r O v s8 s9 s10 s4 s41 := by
  unfold w0q
  refine d6q (E := env) (hs := E1q) envOk a9q ?_
  exact a8q (by kernel_rfl) h
theorem a4rq {u : List (List Da)} {v : Int} {r : AV} {O : List (Nat × Ob)} (h : w0q r O v u ((↑(List.length u) : Int)) ((0 : Int)) ((0 : Int)) ((0 : Int))) : XC Try.prog 138 [(L u), (Z v)] [] r O :=
  c7q (E := env) (hs := E1q) (c := (a0q Try.f138)) (n := 22) (res := [.cell 4 31, .tmp 5]) (rs := .t [.d [(.i .i64), (.i .i64), .l], .c .b]) (ks := []) (dir := []) envOk a9q rfl Try.func138 (by kernel_rfl) (by kernel_rfl) (by kernel_rfl) (by kernel_rfl) (a8q (by kernel_rfl) h)
def a2xq : c4q := ⟨[], []⟩
theorem a1yq {v : Int} {r : AV} {O : List (Nat × Ob)} (h : ((.agg [(.d (.int .i64 ((-1 : Int)))), (.d (.int .i64 v)), .e0]) = r ∧ [] = O)) : XC Try.prog 78 [(Z v)] [] r O :=
  c7q (E := env) (hs := a2xq) (c := (a0q Try.f78)) (n := 5) (res := [.cell 2 31]) (rs := .s [.k (.i .i64), .k (.i .i64), .e]) (ks := []) (dir := []) envOk a9q rfl Try.func78 (by kernel_rfl) (by kernel_rfl) (by kernel_rfl) (by kernel_rfl) (a8q (by kernel_rfl) h)
def a20q : c4q := ⟨[], []⟩
theorem a1Pq {t : Int} {t1 : Int} {t2 : List (List Da)} {r : AV} {O : List (Nat × Ob)} (h : (∃ (xs : List (List Da)), (XC Try.prog 109 [(L t2)] [] (.one (.ol 0)) [(0, (.tr 31 3 xs))] ∧ ((.agg [(.d (.int .i64 t)), (.d (.int .i64 t1)), (.ol 0)]) = r ∧ [(0, (.tr 31 3 xs))] = O)))) : XC Try.prog 76 [(.dat [(.int .i64 t), (.int .i64 t1), (.sl t2)])] [] r O :=
  c7q (E := env) (hs := a20q) (c := (a0q Try.f76)) (n := 8) (res := [.cell 2 31]) (rs := .s [.k (.i .i64), .k (.i .i64), .o 31 3]) (ks := []) (dir := []) envOk a9q rfl Try.func76 (by kernel_rfl) (by kernel_rfl) (by kernel_rfl) (by kernel_rfl) (a8q (by kernel_rfl) h)
def a5pq : c4q := ⟨[], []⟩
theorem a4Bq {s : List (List Da)} {f : Int} {r : AV} {O : List (Nat × Ob)} (h : (∃ (b : Bool), (XC Try.prog 102 [(Z f), (Z ((0 : Int))), (Z (IntKind.wrap IntKind.i64 ((↑(List.length s) : Int) - (1 : Int))))] [] (B b) [] ∧ ((B b) = r ∧ [] = O)))) : XC Try.prog 108 [(L s), (Z f)] [] r O :=
  c7q (E := env) (hs := a5pq) (c := (a0q Try.f108)) (n := 10) (res := [.tmp 4]) (rs := .c .b) (ks := []) (dir := []) envOk a9q rfl Try.func108 (by kernel_rfl) (by kernel_rfl) (by kernel_rfl) (by kernel_rfl) (a8q (by kernel_rfl) h)
def c6q : c4q := ⟨[(2, ⟨[0, 1, 2, 6, 7, 8], [], [], [], [], [], []⟩), (7, ⟨[0, 1, 2, 6], [], [], [], [], [], []⟩), (9, ⟨[0, 1, 2, 6, 7, 8], [], [], [], [], [], []⟩)], []⟩
def f8q (r : AV) (O : List (Nat × Ob)) (n : Int) (blockSize : Int) (a : Int) (b : Int) (data : List (List Da)) : Prop := CL 63 Try.prog (e8q (a0q Try.f121) [1, 1, 0, 0, 0]) (b6q Try.prog a5q c6q 63 (a0q Try.f121) [1, 1, 0, 0, 0] (a3q a5q [] (.t []) [(2000, (false))] [2000] r O) (b4q (a3q a5q [] (.t []) [(2000, (false))] [2000] r O))).1 (b6q Try.prog a5q c6q 63 (a0q Try.f121) [1, 1, 0, 0, 0] (a3q a5q [] (.t []) [(2000, (false))] [2000] r O) (b4q (a3q a5q [] (.t []) [(2000, (false))] [2000] r O))).2 ⟨[(0, (.one (.ol 2000))), (1, (Z n)), (2, (.one (.d (.fn 105)))), (6, (Z blockSize)), (7, (Z a)), (8, (Z b))], [(2000, (.lst 31 3 data))]⟩
def d3q (r : AV) (O : List (Nat × Ob)) (n : Int) (blockSize : Int) (data : List (List Da)) : Prop := CL 63 Try.prog (e8q (a0q Try.f121) [1, 1, 1, 1, 0, 0]) (b6q Try.prog a5q c6q 63 (a0q Try.f121) [1, 1, 1, 1, 0, 0] (a3q a5q [] (.t []) [(2000, (false))] [2000] r O) (b4q (a3q a5q [] (.t []) [(2000, (false))] [2000] r O))).1 (b6q Try.prog a5q c6q 63 (a0q Try.f121) [1, 1, 1, 1, 0, 0] (a3q a5q [] (.t []) [(2000, (false))] [2000] r O) (b4q (a3q a5q [] (.t []) [(2000, (false))] [2000] r O))).2 ⟨[(0, (.one (.ol 2000))), (1, (Z n)), (2, (.one (.d (.fn 105)))), (6, (Z blockSize))], [(2000, (.lst 31 3 data))]⟩
def f7q (r : AV) (O : List (Nat × Ob)) (n : Int) (blockSize : Int) (a : Int) (b : Int) (data : List (List Da)) : Prop := CL 63 Try.prog (e8q (a0q Try.f121) [1, 1, 1, 1, 0, 0, 1, 0, 1, 0, 0, 0]) (b6q Try.prog a5q c6q 63 (a0q Try.f121) [1, 1, 1, 1, 0, 0, 1, 0, 1, 0, 0, 0] (a3q a5q [] (.t []) [(2000, (false))] [2000] r O) (b4q (a3q a5q [] (.t []) [(2000, (false))] [2000] r O))).1 (b6q Try.prog a5q c6q 63 (a0q Try.f121) [1, 1, 1, 1, 0, 0, 1, 0, 1, 0, 0, 0] (a3q a5q [] (.t []) [(2000, (false))] [2000] r O) (b4q (a3q a5q [] (.t []) [(2000, (false))] [2000] r O))).2 ⟨[(0, (.one (.ol 2000))), (1, (Z n)), (2, (.one (.d (.fn 105)))), (6, (Z blockSize)), (7, (Z a)), (8, (Z b))], [(2000, (.lst 31 3 data))]⟩
theorem i6q {r : AV} {O : List (Nat × Ob)} {n : Int} {blockSize : Int} {a : Int} {b : Int} {data : List (List Da)} (h : ifB (decide (b ≤ n))
  ((∃ (xs : List (List Da)), (XC Try.prog 136 [(.one (.ol 2000)), (Z a), (Z b), (.one (.d (.fn 105)))] [(2000, (.lst 31 3 data))] (.tup []) [(2000, (.lst 31 3 xs))] ∧ f8q r O n blockSize b (IntKind.wrap IntKind.i64 (b + blockSize)) xs)))
  ((∃ (xs1 : List (List Da)), (XC Try.prog 136 [(.one (.ol 2000)), (Z a), (Z n), (.one (.d (.fn 105)))] [(2000, (.lst 31 3 data))] (.tup []) [(2000, (.lst 31 3 xs1))] ∧ d3q r O n blockSize xs1)))) : f8q r O n blockSize a b data := by
  unfold f8q
  refine d6q (E := a5q) (hs := c6q) g0q a9q ?_
  exact a8q (by kernel_rfl) h
theorem i7q {r : AV} {O : List (Nat × Ob)} {n : Int} {blockSize : Int} {data : List (List Da)} (h : ifB (decide (blockSize < n))
  (f7q r O n blockSize ((0 : Int)) (IntKind.wrap IntKind.i64 ((2 : Int) * blockSize)) data)
  (((.tup []) = r ∧ [(2000, (.lst 31 3 data))] = O))) : d3q r O n blockSize data := by
  unfold d3q
  refine d6q (E := a5q) (hs := c6q) g0q a9q ?_
  exact a8q (by kernel_rfl) h
theorem g9q {r : AV} {O : List (Nat × Ob)} {n : Int} {blockSize : Int} {a : Int} {b : Int} {data : List (List Da)} (h : ifB (decide (b ≤ n))
  ((∃ (xs : List (List Da)), (XC Try.prog 137 [(.one (.ol 2000)), (Z a), (Z (IntKind.wrap IntKind.i64 (a + blockSize))), (Z b), (.one (.d (.fn 105)))] [(2000, (.lst 31 3 data))] (.tup []) [(2000, (.lst 31 3 xs))] ∧ f7q r O n blockSize b (IntKind.wrap IntKind.i64 (b + IntKind.wrap IntKind.i64 ((2 : Int) * blockSize))) xs)))
  (ifB (decide (IntKind.wrap IntKind.i64 (a + blockSize) < n))
  ((∃ (xs1 : List (List Da)), (XC Try.prog 137 [(.one (.ol 2000)), (Z a), (Z (IntKind.wrap IntKind.i64 (a + blockSize))), (Z n), (.one (.d (.fn 105)))] [(2000, (.lst 31 3 data))] (.tup []) [(2000, (.lst 31 3 xs1))] ∧ d3q r O n (IntKind.wrap IntKind.i64 (blockSize * (2 : Int))) xs1)))
  (d3q r O n (IntKind.wrap IntKind.i64 (blockSize * (2 : Int))) data))) : f7q r O n blockSize a b data := by
  unfold f7q
  refine d6q (E := a5q) (hs := c6q) g0q a9q ?_
  exact a8q (by kernel_rfl) h
theorem u9q {n : Int} {o2000 : List (List Da)} {r : AV} {O : List (Nat × Ob)} (h : f8q r O n ((20 : Int)) ((0 : Int)) ((20 : Int)) o2000) : XC Try.prog 121 [(.one (.ol 2000)), (Z n), (.one (.d (.fn 105)))] [(2000, (.lst 31 3 o2000))] r O :=
  c7q (E := a5q) (hs := c6q) (c := (a0q Try.f121)) (n := 63) (res := []) (rs := .t []) (ks := [(2000, (false))]) (dir := [2000]) g0q a9q rfl Try.func121 (by kernel_rfl) (by kernel_rfl) (by kernel_rfl) (by kernel_rfl) (a8q (by kernel_rfl) h)
def h3q : c4q := ⟨[(2, ⟨[0, 2, 4, 10, 11], [], [], [], [], [], []⟩)], []⟩
def d9q (r : AV) (O : List (Nat × Ob)) (m : Int) (i : Int) (j : Int) (data : List (List Da)) : Prop := CL 58 Try.prog (e8q (a0q Try.f139) [1, 1, 0, 0, 0]) (b6q Try.prog a5q h3q 58 (a0q Try.f139) [1, 1, 0, 0, 0] (a3q a5q [] (.t []) [(2000, (false))] [2000] r O) (b4q (a3q a5q [] (.t []) [(2000, (false))] [2000] r O))).1 (b6q Try.prog a5q h3q 58 (a0q Try.f139) [1, 1, 0, 0, 0] (a3q a5q [] (.t []) [(2000, (false))] [2000] r O) (b4q (a3q a5q [] (.t []) [(2000, (false))] [2000] r O))).2 ⟨[(0, (.one (.ol 2000))), (2, (Z m)), (4, (.one (.d (.fn 89)))), (10, (Z i)), (11, (Z j))], [(2000, (.lst 61 7 data))]⟩
theorem q7q {r : AV} {O : List (Nat × Ob)} {m : Int} {i : Int} {j : Int} {data : List (List Da)} (h : ifB (decide (i ≠ j))
  (ifB (decide (j < i))
  ((∃ (xs : List (List Da)), (XC Try.prog 145 [(.one (.ol 2000)), (Z (IntKind.wrap IntKind.i64 (m - i))), (Z m), (Z j), (.one (.d (.fn 89)))] [(2000, (.lst 61 7 data))] (.tup []) [(2000, (.lst 61 7 xs))] ∧ d9q r O m (IntKind.wrap IntKind.i64 (i - j)) j xs)))
  ((∃ (xs1 : List (List Da)), (XC Try.prog 145 [(.one (.ol 2000)), (Z (IntKind.wrap IntKind.i64 (m - i))), (Z (IntKind.wrap IntKind.i64 (IntKind.wrap IntKind.i64 (m + j) - i))), (Z i), (.one (.d (.fn 89)))] [(2000, (.lst 61 7 data))] (.tup []) [(2000, (.lst 61 7 xs1))] ∧ d9q r O m i (IntKind.wrap IntKind.i64 (j - i)) xs1))))
  ((∃ (xs2 : List (List Da)), (XC Try.prog 145 [(.one (.ol 2000)), (Z (IntKind.wrap IntKind.i64 (m - i))), (Z m), (Z i), (.one (.d (.fn 89)))] [(2000, (.lst 61 7 data))] (.tup []) [(2000, (.lst 61 7 xs2))] ∧ ((.tup []) = r ∧ [(2000, (.lst 61 7 xs2))] = O))))) : d9q r O m i j data := by
  unfold d9q
  refine d6q (E := a5q) (hs := h3q) g0q a9q ?_
  exact a8q (by kernel_rfl) h
theorem s2q {a : Int} {m : Int} {b : Int} {o2000 : List (List Da)} {r : AV} {O : List (Nat × Ob)} (h : d9q r O m (IntKind.wrap IntKind.i64 (m - a)) (IntKind.wrap IntKind.i64 (b - m)) o2000) : XC Try.prog 139 [(.one (.ol 2000)), (Z a), (Z m), (Z b), (.one (.d (.fn 89)))] [(2000, (.lst 61 7 o2000))] r O :=
  c7q (E := a5q) (hs := h3q) (c := (a0q Try.f139)) (n := 58) (res := []) (rs := .t []) (ks := [(2000, (false))]) (dir := [2000]) g0q a9q rfl Try.func139 (by kernel_rfl) (by kernel_rfl) (by kernel_rfl) (by kernel_rfl) (a8q (by kernel_rfl) h)
def v1q : c4q := ⟨[(3, ⟨[3, 7, 8, 9], [], [], [], [], [], []⟩)], []⟩
def o6q (r : AV) (O : List (Nat × Ob)) (s7 : List (List Da)) (s8 : Int) (s9 : Int) (out : List (List Da)) : Prop := CL 20 Try.prog (e8q (a0q Try.f109) [1, 1, 0, 1, 0, 0]) (b6q Try.prog env v1q 20 (a0q Try.f109) [1, 1, 0, 1, 0, 0] (a3q env [.tmp 2] (.o 31 3) [] [] r O) (b4q (a3q env [.tmp 2] (.o 31 3) [] [] r O))).1 (b6q Try.prog env v1q 20 (a0q Try.f109) [1, 1, 0, 1, 0, 0] (a3q env [.tmp 2] (.o 31 3) [] [] r O) (b4q (a3q env [.tmp 2] (.o 31 3) [] [] r O))).2 ⟨[(3, (.one (.ol 1900))), (7, (L s7)), (8, (Z s8)), (9, (Z s9))], [(1900, (.tr 31 3 out))]⟩
theorem F5q {r : AV} {O : List (Nat × Ob)} {s7 : List (List Da)} {s8 : Int} {s9 : Int} {out : List (List Da)} (h : ifB (decide (s9 < s8))
  ((∃ (m : Nat), (s9 = ((↑m : Int)) ∧ (∃ (n : Int), (∃ (n1 : Int), (∃ (xs : List (List Da)), ((s7[m]?) = some [(.int .i64 n), (.int .i64 n1), (.sl xs)] ∧ (∃ (n2 : Int), (∃ (n3 : Int), (∃ (xs1 : List (List Da)), (XC Try.prog 76 [(.dat [(.int .i64 n), (.int .i64 n1), (.sl xs)])] [] (.agg [(.d (.int .i64 n2)), (.d (.int .i64 n3)), (.ol 0)]) [(0, (.tr 31 3 xs1))] ∧ (Do ((List.length out + List.length [[Da.int IntKind.i64 n2, Da.int IntKind.i64 n3, Da.sl xs1]]) * (40 : Nat) ≤ (140737488355328 : Nat)) ∧ o6q r O s7 s8 (IntKind.wrap IntKind.i64 (s9 + (1 : Int))) (out ++ [[Da.int IntKind.i64 n2, Da.int IntKind.i64 n3, Da.sl xs1]])))))))))))))
  (((.one (.ol 0)) = r ∧ [(0, (.tr 31 3 out))] = O))) : o6q r O s7 s8 s9 out := by
  unfold o6q
  refine d6q (E := env) (hs := v1q) envOk a9q ?_
  exact a8q (by kernel_rfl) h
theorem a12q {list : List (List Da)} {r : AV} {O : List (Nat × Ob)} (h : o6q r O list ((↑(List.length list) : Int)) ((0 : Int)) []) : XC Try.prog 109 [(L list)] [] r O :=
  c7q (E := env) (hs := v1q) (c := (a0q Try.f109)) (n := 20) (res := [.tmp 2]) (rs := .o 31 3) (ks := []) (dir := []) envOk a9q rfl Try.func109 (by kernel_rfl) (by kernel_rfl) (by kernel_rfl) (by kernel_rfl) (a8q (by kernel_rfl) h)
def a6Bq : c4q := ⟨[], []⟩
theorem a5Sq {n : Int} {low : Int} {high : Int} {r : AV} {O : List (Nat × Ob)} (h : ifB (decide (low ≤ n))
  (((B (decide (n ≤ high))) = r ∧ [] = O))
  (((B (false)) = r ∧ [] = O))) : XC Try.prog 102 [(Z n), (Z low), (Z high)] [] r O :=
  c7q (E := env) (hs := a6Bq) (c := (a0q Try.f102)) (n := 15) (res := [.tmp 6]) (rs := .c .b) (ks := []) (dir := []) envOk a9q rfl Try.func102 (by kernel_rfl) (by kernel_rfl) (by kernel_rfl) (by kernel_rfl) (a8q (by kernel_rfl) h)
def d2q : c4q := ⟨[(1, ⟨[0, 1, 2, 3, 8], [], [], [], [], [], []⟩), (4, ⟨[0, 1, 2, 3, 8, 9], [], [], [], [], [], []⟩)], []⟩
def d1q (r : AV) (O : List (Nat × Ob)) (a : Int) (b : Int) (i : Int) (data : List (List Da)) : Prop := CL 53 Try.prog (e8q (a0q Try.f136) [1, 0, 0]) (b6q Try.prog a5q d2q 53 (a0q Try.f136) [1, 0, 0] (a3q a5q [] (.t []) [(2000, (false))] [2000] r O) (b4q (a3q a5q [] (.t []) [(2000, (false))] [2000] r O))).1 (b6q Try.prog a5q d2q 53 (a0q Try.f136) [1, 0, 0] (a3q a5q [] (.t []) [(2000, (false))] [2000] r O) (b4q (a3q a5q [] (.t []) [(2000, (false))] [2000] r O))).2 ⟨[(0, (.one (.ol 2000))), (1, (Z a)), (2, (Z b)), (3, (.one (.d (.fn 105)))), (8, (Z i))], [(2000, (.lst 31 3 data))]⟩
def e4q (r : AV) (O : List (Nat × Ob)) (a : Int) (b : Int) (i : Int) (j : Int) (data : List (List Da)) : Prop := CL 53 Try.prog (e8q (a0q Try.f136) [1, 0, 0, 1, 0, 0, 1, 0, 0]) (b6q Try.prog a5q d2q 53 (a0q Try.f136) [1, 0, 0, 1, 0, 0, 1, 0, 0] (a3q a5q [] (.t []) [(2000, (false))] [2000] r O) (b4q (a3q a5q [] (.t []) [(2000, (false))] [2000] r O))).1 (b6q Try.prog a5q d2q 53 (a0q Try.f136) [1, 0, 0, 1, 0, 0, 1, 0, 0] (a3q a5q [] (.t []) [(2000, (false))] [2000] r O) (b4q (a3q a5q [] (.t []) [(2000, (false))] [2000] r O))).2 ⟨[(0, (.one (.ol 2000))), (1, (Z a)), (2, (Z b)), (3, (.one (.d (.fn 105)))), (8, (Z i)), (9, (Z j))], [(2000, (.lst 31 3 data))]⟩
theorem h8q {r : AV} {O : List (Nat × Ob)} {a : Int} {b : Int} {i : Int} {data : List (List Da)} (h : ifB (decide (i < b))
  (e4q r O a b i i data)
  (((.tup []) = r ∧ [(2000, (.lst 31 3 data))] = O))) : d1q r O a b i data := by
  unfold d1q
  refine d6q (E := a5q) (hs := d2q) g0q a9q ?_
  exact a8q (by kernel_rfl) h
theorem h7q {r : AV} {O : List (Nat × Ob)} {a : Int} {b : Int} {i : Int} {j : Int} {data : List (List Da)} (h : ifB (decide (a < j))
  ((∃ (m : Nat), (j = ((↑m : Int)) ∧ (Do (m < List.length data) ∧ (∃ (n : Nat), ((m * (3 : Nat)) = (n * (3 : Nat)) ∧ (∃ (n1 : Int), (∃ (n2 : Int), (∃ (d : Da), ((data[n]?) = some [(.int .i64 n1), (.int .i64 n2), d] ∧ (∃ (m1 : Nat), ((IntKind.wrap IntKind.i64 (j - (1 : Int))) = ((↑m1 : Int)) ∧ (Do (m1 < List.length data) ∧ (∃ (n3 : Nat), ((m1 * (3 : Nat)) = (n3 * (3 : Nat)) ∧ (∃ (n4 : Int), (∃ (n5 : Int), (∃ (d1 : Da), ((data[n3]?) = some [(.int .i64 n4), (.int .i64 n5), d1] ∧ (∃ (n6 : Int), (XC Try.prog 105 [(.dat [(.int .i64 n1), (.int .i64 n2), d]), (.dat [(.int .i64 n4), (.int .i64 n5), d1])] [] (Z n6) [] ∧ ifB (decide (n6 < (0 : Int)))
  ((∃ (m2 : Nat), ((IntKind.wrap IntKind.i64 (j - (1 : Int))) = ((↑m2 : Int)) ∧ (Do (m2 < List.length data) ∧ (∃ (n7 : Nat), ((m2 * (3 : Nat)) = (n7 * (3 : Nat)) ∧ (∃ (n8 : Int), (∃ (n9 : Int), (∃ (d2 : Da), ((data[n7]?) = some [(.int .i64 n8), (.int .i64 n9), d2] ∧ (∃ (m3 : Nat), (j = ((↑m3 : Int)) ∧ (Do (m3 < List.length data) ∧ (∃ (n10 : Nat), ((m3 * (3 : Nat)) = (n10 * (3 : Nat)) ∧ (∃ (n11 : Int), (∃ (n12 : Int), (∃ (d3 : Da), ((data[n10]?) = some [(.int .i64 n11), (.int .i64 n12), d3] ∧ (∃ (m4 : Nat), (j = ((↑m4 : Int)) ∧ (Do (m4 < List.length data) ∧ (∃ (m5 : Nat), ((m4 * (3 : Nat)) = (m5 * (3 : Nat) + (0 : Nat)) ∧ (∃ (n13 : Int), (∃ (n14 : Int), (∃ (d4 : Da), ((data[m5]?) = some [(.int .i64 n13), (.int .i64 n14), d4] ∧ (∃ (m6 : Nat), ((IntKind.wrap IntKind.i64 (j - (1 : Int))) = ((↑m6 : Int)) ∧ (Do (m6 < List.length (List.set data m5 ([] ++ [Da.int IntKind.i64 n8, Da.int IntKind.i64 n9, d2] ++ []))) ∧ (∃ (m7 : Nat), ((m6 * (3 : Nat)) = (m7 * (3 : Nat) + (0 : Nat)) ∧ (∃ (n15 : Int), (∃ (n16 : Int), (∃ (d5 : Da), (((List.set data m5 ([] ++ [Da.int IntKind.i64 n8, Da.int IntKind.i64 n9, d2] ++ []))[m7]?) = some [(.int .i64 n15), (.int .i64 n16), d5] ∧ e4q r O a b i (IntKind.wrap IntKind.i64 (j - (1 : Int))) (List.set (List.set data m5 ([] ++ [Da.int IntKind.i64 n8, Da.int IntKind.i64 n9, d2] ++ [])) m7 ([] ++ [Da.int IntKind.i64 n11, Da.int IntKind.i64 n12, d3] ++ [])))))))))))))))))))))))))))))))))))))))
  (d1q r O a b (IntKind.wrap IntKind.i64 (i + (1 : Int))) data))))))))))))))))))))))
  (d1q r O a b (IntKind.wrap IntKind.i64 (i + (1 : Int))) data)) : e4q r O a b i j data := by
  unfold e4q
  refine d6q (E := a5q) (hs := d2q) g0q a9q ?_
  exact a8q (by kernel_rfl) h
theorem k1q {a : Int} {b : Int} {o2000 : List (List Da)} {r : AV} {O : List (Nat × Ob)} (h : d1q r O a b (IntKind.wrap IntKind.i64 (a + (1 : Int))) o2000) : XC Try.prog 136 [(.one (.ol 2000)), (Z a), (Z b), (.one (.d (.fn 105)))] [(2000, (.lst 31 3 o2000))] r O :=
  c7q (E := a5q) (hs := d2q) (c := (a0q Try.f136)) (n := 53) (res := []) (rs := .t []) (ks := [(2000, (false))]) (dir := [2000]) g0q a9q rfl Try.func136 (by kernel_rfl) (by kernel_rfl) (by kernel_rfl) (by kernel_rfl) (a8q (by kernel_rfl) h)
end AM
end Go.Proofs.Ytajcoogpmockiaa
set_option linter.unusedVariables false
set_option maxRecDepth 100000
namespace Go.Proofs.Ytajcoogpmockiaa
namespace AM
open Go
attribute [local irreducible] vC
def b1q : c4q := ⟨[(3, ⟨[0, 1, 4, 10, 11], [], [], [], [], [], []⟩), (9, ⟨[0, 10, 13], [], [], [], [], [], []⟩), (15, ⟨[0, 2, 4, 14, 15], [], [], [], [], [], []⟩), (21, ⟨[0, 14, 17], [], [], [], [], [], []⟩), (33, ⟨[0, 1, 2, 3, 4, 18, 19, 20, 21, 22], [], [], [], [], [], []⟩)], []⟩
def c2q (r : AV) (O : List (Nat × Ob)) (s1 : Int) (s10 : Int) (s11 : Int) (s0 : List (List Da)) : Prop := CL 220 Try.prog (e8q (a0q Try.f137) [0, 1, 0, 1, 1, 0, 0, 0]) (b6q Try.prog a5q b1q 220 (a0q Try.f137) [0, 1, 0, 1, 1, 0, 0, 0] (a3q a5q [] (.t []) [(2000, (false))] [2000] r O) (b4q (a3q a5q [] (.t []) [(2000, (false))] [2000] r O))).1 (b6q Try.prog a5q b1q 220 (a0q Try.f137) [0, 1, 0, 1, 1, 0, 0, 0] (a3q a5q [] (.t []) [(2000, (false))] [2000] r O) (b4q (a3q a5q [] (.t []) [(2000, (false))] [2000] r O))).2 ⟨[(0, (.one (.ol 2000))), (1, (Z s1)), (4, (.one (.d (.fn 105)))), (10, (Z s10)), (11, (Z s11))], [(2000, (.lst 31 3 s0))]⟩
def c0q (r : AV) (O : List (Nat × Ob)) (s2 : Int) (s14 : Int) (s15 : Int) (s0 : List (List Da)) : Prop := CL 220 Try.prog (e8q (a0q Try.f137) [1, 0, 1, 0, 1, 1, 0, 0, 0]) (b6q Try.prog a5q b1q 220 (a0q Try.f137) [1, 0, 1, 0, 1, 1, 0, 0, 0] (a3q a5q [] (.t []) [(2000, (false))] [2000] r O) (b4q (a3q a5q [] (.t []) [(2000, (false))] [2000] r O))).1 (b6q Try.prog a5q b1q 220 (a0q Try.f137) [1, 0, 1, 0, 1, 1, 0, 0, 0] (a3q a5q [] (.t []) [(2000, (false))] [2000] r O) (b4q (a3q a5q [] (.t []) [(2000, (false))] [2000] r O))).2 ⟨[(0, (.one (.ol 2000))), (2, (Z s2)), (4, (.one (.d (.fn 105)))), (14, (Z s14)), (15, (Z s15))], [(2000, (.lst 31 3 s0))]⟩
def b2q (r : AV) (O : List (Nat × Ob)) (s1 : Int) (s2 : Int) (s3 : Int) (s18 : Int) (s19 : Int) (s20 : Int) (s21 : Int) (s22 : Int) (s0 : List (List Da)) : Prop := CL 220 Try.prog (e8q (a0q Try.f137) [1, 1, 1, 1, 1, 1, 1, 0, 0, 0]) (b6q Try.prog a5q b1q 220 (a0q Try.f137) [1, 1, 1, 1, 1, 1, 1, 0, 0, 0] (a3q a5q [] (.t []) [(2000, (false))] [2000] r O) (b4q (a3q a5q [] (.t []) [(2000, (false))] [2000] r O))).1 (b6q Try.prog a5q b1q 220 (a0q Try.f137) [1, 1, 1, 1, 1, 1, 1, 0, 0, 0] (a3q a5q [] (.t []) [(2000, (false))] [2000] r O) (b4q (a3q a5q [] (.t []) [(2000, (false))] [2000] r O))).2 ⟨[(0, (.one (.ol 2000))), (1, (Z s1)), (2, (Z s2)), (3, (Z s3)), (4, (.one (.d (.fn 105)))), (18, (Z s18)), (19, (Z s19)), (20, (Z s20)), (21, (Z s21)), (22, (Z s22))], [(2000, (.lst 31 3 s0))]⟩
def e2q (r : AV) (O : List (Nat × Ob)) (s10 : Int) (s13 : Int) (s0 : List (List Da)) : Prop := CL 220 Try.prog (e8q (a0q Try.f137) [0, 1, 0, 1, 1, 1, 0, 1, 0, 0]) (b6q Try.prog a5q b1q 220 (a0q Try.f137) [0, 1, 0, 1, 1, 1, 0, 1, 0, 0] (a3q a5q [] (.t []) [(2000, (false))] [2000] r O) (b4q (a3q a5q [] (.t []) [(2000, (false))] [2000] r O))).1 (b6q Try.prog a5q b1q 220 (a0q Try.f137) [0, 1, 0, 1, 1, 1, 0, 1, 0, 0] (a3q a5q [] (.t []) [(2000, (false))] [2000] r O) (b4q (a3q a5q [] (.t []) [(2000, (false))] [2000] r O))).2 ⟨[(0, (.one (.ol 2000))), (10, (Z s10)), (13, (Z s13))], [(2000, (.lst 31 3 s0))]⟩
def e0q (r : AV) (O : List (Nat × Ob)) (s14 : Int) (s17 : Int) (s0 : List (List Da)) : Prop := CL 220 Try.prog (e8q (a0q Try.f137) [1, 0, 1, 0, 1, 1, 1, 0, 1, 0, 0]) (b6q Try.prog a5q b1q 220 (a0q Try.f137) [1, 0, 1, 0, 1, 1, 1, 0, 1, 0, 0] (a3q a5q [] (.t []) [(2000, (false))] [2000] r O) (b4q (a3q a5q [] (.t []) [(2000, (false))] [2000] r O))).1 (b6q Try.prog a5q b1q 220 (a0q Try.f137) [1, 0, 1, 0, 1, 1, 1, 0, 1, 0, 0] (a3q a5q [] (.t []) [(2000, (false))] [2000] r O) (b4q (a3q a5q [] (.t []) [(2000, (false))] [2000] r O))).2 ⟨[(0, (.one (.ol 2000))), (14, (Z s14)), (17, (Z s17))], [(2000, (.lst 31 3 s0))]⟩
theorem k8q {r : AV} {O : List (Nat × Ob)} {s1 : Int} {s10 : Int} {s11 : Int} {s0 : List (List Da)} (h : ifB (decide (s10 < s11))
  ((Do ((0 : Int) ≤ (1 : Int) ∧ (1 : Int) ≤ (↑(IntKind.bits IntKind.u64) : Int)) ∧ (∃ (m : Nat), ((IntKind.wrap IntKind.i64 (IntKind.wrap IntKind.u64 (IntKind.wrap IntKind.i64 (s10 + s11)) / (2 : Int) ^ Int.toNat (1 : Int))) = ((↑m : Int)) ∧ (Do (m < List.length s0) ∧ (∃ (n : Nat), ((m * (3 : Nat)) = (n * (3 : Nat)) ∧ (∃ (n1 : Int), (∃ (n2 : Int), (∃ (d : Da), ((s0[n]?) = some [(.int .i64 n1), (.int .i64 n2), d] ∧ (∃ (m1 : Nat), (s1 = ((↑m1 : Int)) ∧ (Do (m1 < List.length s0) ∧ (∃ (n3 : Nat), ((m1 * (3 : Nat)) = (n3 * (3 : Nat)) ∧ (∃ (n4 : Int), (∃ (n5 : Int), (∃ (d1 : Da), ((s0[n3]?) = some [(.int .i64 n4), (.int .i64 n5), d1] ∧ (∃ (n6 : Int), (XC Try.prog 105 [(.dat [(.int .i64 n1), (.int .i64 n2), d]), (.dat [(.int .i64 n4), (.int .i64 n5), d1])] [] (Z n6) [] ∧ ifB (decide (n6 < (0 : Int)))
  (c2q r O s1 (IntKind.wrap IntKind.i64 (IntKind.wrap IntKind.i64 (IntKind.wrap IntKind.u64 (IntKind.wrap IntKind.i64 (s10 + s11)) / (2 : Int) ^ Int.toNat (1 : Int)) + (1 : Int))) s11 s0)
  (c2q r O s1 s10 (IntKind.wrap IntKind.i64 (IntKind.wrap IntKind.u64 (IntKind.wrap IntKind.i64 (s10 + s11)) / (2 : Int) ^ Int.toNat (1 : Int))) s0)))))))))))))))))))))))
  (e2q r O s10 s1 s0)) : c2q r O s1 s10 s11 s0 := by
  unfold c2q
  refine d6q (E := a5q) (hs := b1q) g0q a9q ?_
  exact a8q (by kernel_rfl) h
theorem k5q {r : AV} {O : List (Nat × Ob)} {s2 : Int} {s14 : Int} {s15 : Int} {s0 : List (List Da)} (h : ifB (decide (s14 < s15))
  ((Do ((0 : Int) ≤ (1 : Int) ∧ (1 : Int) ≤ (↑(IntKind.bits IntKind.u64) : Int)) ∧ (∃ (m : Nat), (s2 = ((↑m : Int)) ∧ (Do (m < List.length s0) ∧ (∃ (n : Nat), ((m * (3 : Nat)) = (n * (3 : Nat)) ∧ (∃ (n1 : Int), (∃ (n2 : Int), (∃ (d : Da), ((s0[n]?) = some [(.int .i64 n1), (.int .i64 n2), d] ∧ (∃ (m1 : Nat), ((IntKind.wrap IntKind.i64 (IntKind.wrap IntKind.u64 (IntKind.wrap IntKind.i64 (s14 + s15)) / (2 : Int) ^ Int.toNat (1 : Int))) = ((↑m1 : Int)) ∧ (Do (m1 < List.length s0) ∧ (∃ (n3 : Nat), ((m1 * (3 : Nat)) = (n3 * (3 : Nat)) ∧ (∃ (n4 : Int), (∃ (n5 : Int), (∃ (d1 : Da), ((s0[n3]?) = some [(.int .i64 n4), (.int .i64 n5), d1] ∧ (∃ (n6 : Int), (XC Try.prog 105 [(.dat [(.int .i64 n1), (.int .i64 n2), d]), (.dat [(.int .i64 n4), (.int .i64 n5), d1])] [] (Z n6) [] ∧ ifB (!decide (n6 < (0 : Int)))
  (c0q r O s2 (IntKind.wrap IntKind.i64 (IntKind.wrap IntKind.i64 (IntKind.wrap IntKind.u64 (IntKind.wrap IntKind.i64 (s14 + s15)) / (2 : Int) ^ Int.toNat (1 : Int)) + (1 : Int))) s15 s0)
  (c0q r O s2 s14 (IntKind.wrap IntKind.i64 (IntKind.wrap IntKind.u64 (IntKind.wrap IntKind.i64 (s14 + s15)) / (2 : Int) ^ Int.toNat (1 : Int))) s0)))))))))))))))))))))))
  (e0q r O s14 s2 s0)) : c0q r O s2 s14 s15 s0 := by
  unfold c0q
  refine d6q (E := a5q) (hs := b1q) g0q a9q ?_
  exact a8q (by kernel_rfl) h
theorem k6q {r : AV} {O : List (Nat × Ob)} {s1 : Int} {s2 : Int} {s3 : Int} {s18 : Int} {s19 : Int} {s20 : Int} {s21 : Int} {s22 : Int} {s0 : List (List Da)} (h : ifB (decide (s20 < s21))
  ((Do ((0 : Int) ≤ (1 : Int) ∧ (1 : Int) ≤ (↑(IntKind.bits IntKind.u64) : Int)) ∧ (∃ (m : Nat), ((IntKind.wrap IntKind.i64 (s22 - IntKind.wrap IntKind.i64 (IntKind.wrap IntKind.u64 (IntKind.wrap IntKind.i64 (s20 + s21)) / (2 : Int) ^ Int.toNat (1 : Int)))) = ((↑m : Int)) ∧ (Do (m < List.length s0) ∧ (∃ (n : Nat), ((m * (3 : Nat)) = (n * (3 : Nat)) ∧ (∃ (n1 : Int), (∃ (n2 : Int), (∃ (d : Da), ((s0[n]?) = some [(.int .i64 n1), (.int .i64 n2), d] ∧ (∃ (m1 : Nat), ((IntKind.wrap IntKind.i64 (IntKind.wrap IntKind.u64 (IntKind.wrap IntKind.i64 (s20 + s21)) / (2 : Int) ^ Int.toNat (1 : Int))) = ((↑m1 : Int)) ∧ (Do (m1 < List.length s0) ∧ (∃ (n3 : Nat), ((m1 * (3 : Nat)) = (n3 * (3 : Nat)) ∧ (∃ (n4 : Int), (∃ (n5 : Int), (∃ (d1 : Da), ((s0[n3]?) = some [(.int .i64 n4), (.int .i64 n5), d1] ∧ (∃ (n6 : Int), (XC Try.prog 105 [(.dat [(.int .i64 n1), (.int .i64 n2), d]), (.dat [(.int .i64 n4), (.int .i64 n5), d1])] [] (Z n6) [] ∧ ifB (!decide (n6 < (0 : Int)))
  (b2q r O s1 s2 s3 s18 s19 (IntKind.wrap IntKind.i64 (IntKind.wrap IntKind.i64 (IntKind.wrap IntKind.u64 (IntKind.wrap IntKind.i64 (s20 + s21)) / (2 : Int) ^ Int.toNat (1 : Int)) + (1 : Int))) s21 s22 s0)
  (b2q r O s1 s2 s3 s18 s19 s20 (IntKind.wrap IntKind.i64 (IntKind.wrap IntKind.u64 (IntKind.wrap IntKind.i64 (s20 + s21)) / (2 : Int) ^ Int.toNat (1 : Int))) s22 s0)))))))))))))))))))))))
  (ifB (decide (s20 < s2))
  (ifB (decide (s2 < IntKind.wrap IntKind.i64 (s19 - s20)))
  ((∃ (xs : List (List Da)), (XC Try.prog 144 [(.one (.ol 2000)), (Z s20), (Z s2), (Z (IntKind.wrap IntKind.i64 (s19 - s20))), (.one (.d (.fn 105)))] [(2000, (.lst 31 3 s0))] (.tup []) [(2000, (.lst 31 3 xs))] ∧ ifB (decide (s1 < s20))
  (ifB (decide (s20 < s18))
  ((∃ (xs1 : List (List Da)), (XC Try.prog 137 [(.one (.ol 2000)), (Z s1), (Z s20), (Z s18), (.one (.d (.fn 105)))] [(2000, (.lst 31 3 xs))] (.tup []) [(2000, (.lst 31 3 xs1))] ∧ ifB (decide (s18 < IntKind.wrap IntKind.i64 (s19 - s20)))
  (ifB (decide (IntKind.wrap IntKind.i64 (s19 - s20) < s3))
  ((∃ (xs2 : List (List Da)), (XC Try.prog 137 [(.one (.ol 2000)), (Z s18), (Z (IntKind.wrap IntKind.i64 (s19 - s20))), (Z s3), (.one (.d (.fn 105)))] [(2000, (.lst 31 3 xs1))] (.tup []) [(2000, (.lst 31 3 xs2))] ∧ ((.tup []) = r ∧ [(2000, (.lst 31 3 xs2))] = O))))
  (((.tup []) = r ∧ [(2000, (.lst 31 3 xs1))] = O)))
  (((.tup []) = r ∧ [(2000, (.lst 31 3 xs1))] = O)))))
  (ifB (decide (s18 < IntKind.wrap IntKind.i64 (s19 - s20)))
  (ifB (decide (IntKind.wrap IntKind.i64 (s19 - s20) < s3))
  ((∃ (xs3 : List (List Da)), (XC Try.prog 137 [(.one (.ol 2000)), (Z s18), (Z (IntKind.wrap IntKind.i64 (s19 - s20))), (Z s3), (.one (.d (.fn 105)))] [(2000, (.lst 31 3 xs))] (.tup []) [(2000, (.lst 31 3 xs3))] ∧ ((.tup []) = r ∧ [(2000, (.lst 31 3 xs3))] = O))))
  (((.tup []) = r ∧ [(2000, (.lst 31 3 xs))] = O)))
  (((.tup []) = r ∧ [(2000, (.lst 31 3 xs))] = O))))
  (ifB (decide (s18 < IntKind.wrap IntKind.i64 (s19 - s20)))
  (ifB (decide (IntKind.wrap IntKind.i64 (s19 - s20) < s3))
  ((∃ (xs4 : List (List Da)), (XC Try.prog 137 [(.one (.ol 2000)), (Z s18), (Z (IntKind.wrap IntKind.i64 (s19 - s20))), (Z s3), (.one (.d (.fn 105)))] [(2000, (.lst 31 3 xs))] (.tup []) [(2000, (.lst 31 3 xs4))] ∧ ((.tup []) = r ∧ [(2000, (.lst 31 3 xs4))] = O))))
  (((.tup []) = r ∧ [(2000, (.lst 31 3 xs))] = O)))
  (((.tup []) = r ∧ [(2000, (.lst 31 3 xs))] = O))))))
  (ifB (decide (s1 < s20))
  (ifB (decide (s20 < s18))
  ((∃ (xs5 : List (List Da)), (XC Try.prog 137 [(.one (.ol 2000)), (Z s1), (Z s20), (Z s18), (.one (.d (.fn 105)))] [(2000, (.lst 31 3 s0))] (.tup []) [(2000, (.lst 31 3 xs5))] ∧ ifB (decide (s18 < IntKind.wrap IntKind.i64 (s19 - s20)))
  (ifB (decide (IntKind.wrap IntKind.i64 (s19 - s20) < s3))
  ((∃ (xs6 : List (List Da)), (XC Try.prog 137 [(.one (.ol 2000)), (Z s18), (Z (IntKind.wrap IntKind.i64 (s19 - s20))), (Z s3), (.one (.d (.fn 105)))] [(2000, (.lst 31 3 xs5))] (.tup []) [(2000, (.lst 31 3 xs6))] ∧ ((.tup []) = r ∧ [(2000, (.lst 31 3 xs6))] = O))))
  (((.tup []) = r ∧ [(2000, (.lst 31 3 xs5))] = O)))
  (((.tup []) = r ∧ [(2000, (.lst 31 3 xs5))] = O)))))
  (ifB (decide (s18 < IntKind.wrap IntKind.i64 (s19 - s20)))
  (ifB (decide (IntKind.wrap IntKind.i64 (s19 - s20) < s3))
  ((∃ (xs7 : List (List Da)), (XC Try.prog 137 [(.one (.ol 2000)), (Z s18), (Z (IntKind.wrap IntKind.i64 (s19 - s20))), (Z s3), (.one (.d (.fn 105)))] [(2000, (.lst 31 3 s0))] (.tup []) [(2000, (.lst 31 3 xs7))] ∧ ((.tup []) = r ∧ [(2000, (.lst 31 3 xs7))] = O))))
  (((.tup []) = r ∧ [(2000, (.lst 31 3 s0))] = O)))
  (((.tup []) = r ∧ [(2000, (.lst 31 3 s0))] = O))))
  (ifB (decide (s18 < IntKind.wrap IntKind.i64 (s19 - s20)))
  (ifB (decide (IntKind.wrap IntKind.i64 (s19 - s20) < s3))
  ((∃ (xs8 : List (List Da)), (XC Try.prog 137 [(.one (.ol 2000)), (Z s18), (Z (IntKind.wrap IntKind.i64 (s19 - s20))), (Z s3), (.one (.d (.fn 105)))] [(2000, (.lst 31 3 s0))] (.tup []) [(2000, (.lst 31 3 xs8))] ∧ ((.tup []) = r ∧ [(2000, (.lst 31 3 xs8))] = O))))
  (((.tup []) = r ∧ [(2000, (.lst 31 3 s0))] = O)))
  (((.tup []) = r ∧ [(2000, (.lst 31 3 s0))] = O)))))
  (ifB (decide (s1 < s20))
  (ifB (decide (s20 < s18))
  ((∃ (xs9 : List (List Da)), (XC Try.prog 137 [(.one (.ol 2000)), (Z s1), (Z s20), (Z s18), (.one (.d (.fn 105)))] [(2000, (.lst 31 3 s0))] (.tup []) [(2000, (.lst 31 3 xs9))] ∧ ifB (decide (s18 < IntKind.wrap IntKind.i64 (s19 - s20)))
  (ifB (decide (IntKind.wrap IntKind.i64 (s19 - s20) < s3))
  ((∃ (xs10 : List (List Da)), (XC Try.prog 137 [(.one (.ol 2000)), (Z s18), (Z (IntKind.wrap IntKind.i64 (s19 - s20))), (Z s3), (.one (.d (.fn 105)))] [(2000, (.lst 31 3 xs9))] (.tup []) [(2000, (.lst 31 3 xs10))] ∧ ((.tup []) = r ∧ [(2000, (.lst 31 3 xs10))] = O))))
  (((.tup []) = r ∧ [(2000, (.lst 31 3 xs9))] = O)))
  (((.tup []) = r ∧ [(2000, (.lst 31 3 xs9))] = O)))))
  (ifB (decide (s18 < IntKind.wrap IntKind.i64 (s19 - s20)))
  (ifB (decide (IntKind.wrap IntKind.i64 (s19 - s20) < s3))
  ((∃ (xs11 : List (List Da)), (XC Try.prog 137 [(.one (.ol 2000)), (Z s18), (Z (IntKind.wrap IntKind.i64 (s19 - s20))), (Z s3), (.one (.d (.fn 105)))] [(2000, (.lst 31 3 s0))] (.tup []) [(2000, (.lst 31 3 xs11))] ∧ ((.tup []) = r ∧ [(2000, (.lst 31 3 xs11))] = O))))
  (((.tup []) = r ∧ [(2000, (.lst 31 3 s0))] = O)))
  (((.tup []) = r ∧ [(2000, (.lst 31 3 s0))] = O))))
  (ifB (decide (s18 < IntKind.wrap IntKind.i64 (s19 - s20)))
  (ifB (decide (IntKind.wrap IntKind.i64 (s19 - s20) < s3))
  ((∃ (xs12 : List (List Da)), (XC Try.prog 137 [(.one (.ol 2000)), (Z s18), (Z (IntKind.wrap IntKind.i64 (s19 - s20))), (Z s3), (.one (.d (.fn 105)))] [(2000, (.lst 31 3 s0))] (.tup []) [(2000, (.lst 31 3 xs12))] ∧ ((.tup []) = r ∧ [(2000, (.lst 31 3 xs12))] = O))))
  (((.tup []) = r ∧ [(2000, (.lst 31 3 s0))] = O)))
  (((.tup []) = r ∧ [(2000, (.lst 31 3 s0))] = O)))))) : b2q r O s1 s2 s3 s18 s19 s20 s21 s22 s0 := by
  unfold b2q
  refine d6q (E := a5q) (hs := b1q) g0q a9q ?_
  exact a8q (by kernel_rfl) h
theorem k9q {r : AV} {O : List (Nat × Ob)} {s10 : Int} {s13 : Int} {s0 : List (List Da)} (h : ifB (decide (s13 < IntKind.wrap IntKind.i64 (s10 - (1 : Int))))
  ((∃ (m : Nat), ((IntKind.wrap IntKind.i64 (s13 + (1 : Int))) = ((↑m : Int)) ∧ (Do (m < List.length s0) ∧ (∃ (n : Nat), ((m * (3 : Nat)) = (n * (3 : Nat)) ∧ (∃ (n1 : Int), (∃ (n2 : Int), (∃ (d : Da), ((s0[n]?) = some [(.int .i64 n1), (.int .i64 n2), d] ∧ (∃ (m1 : Nat), (s13 = ((↑m1 : Int)) ∧ (Do (m1 < List.length s0) ∧ (∃ (n3 : Nat), ((m1 * (3 : Nat)) = (n3 * (3 : Nat)) ∧ (∃ (n4 : Int), (∃ (n5 : Int), (∃ (d1 : Da), ((s0[n3]?) = some [(.int .i64 n4), (.int .i64 n5), d1] ∧ (∃ (m2 : Nat), (s13 = ((↑m2 : Int)) ∧ (Do (m2 < List.length s0) ∧ (∃ (m3 : Nat), ((m2 * (3 : Nat)) = (m3 * (3 : Nat) + (0 : Nat)) ∧ (∃ (n6 : Int), (∃ (n7 : Int), (∃ (d2 : Da), ((s0[m3]?) = some [(.int .i64 n6), (.int .i64 n7), d2] ∧ (∃ (m4 : Nat), ((IntKind.wrap IntKind.i64 (s13 + (1 : Int))) = ((↑m4 : Int)) ∧ (Do (m4 < List.length (List.set s0 m3 ([] ++ [Da.int IntKind.i64 n1, Da.int IntKind.i64 n2, d] ++ []))) ∧ (∃ (m5 : Nat), ((m4 * (3 : Nat)) = (m5 * (3 : Nat) + (0 : Nat)) ∧ (∃ (n8 : Int), (∃ (n9 : Int), (∃ (d3 : Da), (((List.set s0 m3 ([] ++ [Da.int IntKind.i64 n1, Da.int IntKind.i64 n2, d] ++ []))[m5]?) = some [(.int .i64 n8), (.int .i64 n9), d3] ∧ e2q r O s10 (IntKind.wrap IntKind.i64 (s13 + (1 : Int))) (List.set (List.set s0 m3 ([] ++ [Da.int IntKind.i64 n1, Da.int IntKind.i64 n2, d] ++ [])) m5 ([] ++ [Da.int IntKind.i64 n4, Da.int IntKind.i64 n5, d1] ++ [])))))))))))))))))))))))))))))))))))))))
  (((.tup []) = r ∧ [(2000, (.lst 31 3 s0))] = O))) : e2q r O s10 s13 s0 := by
  unfold e2q
  refine d6q (E := a5q) (hs := b1q) g0q a9q ?_
  exact a8q (by kernel_rfl) h
theorem k3q {r : AV} {O : List (Nat × Ob)} {s14 : Int} {s17 : Int} {s0 : List (List Da)} (h : ifB (decide (s14 < s17))
  ((∃ (m : Nat), ((IntKind.wrap IntKind.i64 (s17 - (1 : Int))) = ((↑m : Int)) ∧ (Do (m < List.length s0) ∧ (∃ (n : Nat), ((m * (3 : Nat)) = (n * (3 : Nat)) ∧ (∃ (n1 : Int), (∃ (n2 : Int), (∃ (d : Da), ((s0[n]?) = some [(.int .i64 n1), (.int .i64 n2), d] ∧ (∃ (m1 : Nat), (s17 = ((↑m1 : Int)) ∧ (Do (m1 < List.length s0) ∧ (∃ (n3 : Nat), ((m1 * (3 : Nat)) = (n3 * (3 : Nat)) ∧ (∃ (n4 : Int), (∃ (n5 : Int), (∃ (d1 : Da), ((s0[n3]?) = some [(.int .i64 n4), (.int .i64 n5), d1] ∧ (∃ (m2 : Nat), (s17 = ((↑m2 : Int)) ∧ (Do (m2 < List.length s0) ∧ (∃ (m3 : Nat), ((m2 * (3 : Nat)) = (m3 * (3 : Nat) + (0 : Nat)) ∧ (∃ (n6 : Int), (∃ (n7 : Int), (∃ (d2 : Da), ((s0[m3]?) = some [(.int .i64 n6), (.int .i64 n7), d2] ∧ (∃ (m4 : Nat), ((IntKind.wrap IntKind.i64 (s17 - (1 : Int))) = ((↑m4 : Int)) ∧ (Do (m4 < List.length (List.set s0 m3 ([] ++ [Da.int IntKind.i64 n1, Da.int IntKind.i64 n2, d] ++ []))) ∧ (∃ (m5 : Nat), ((m4 * (3 : Nat)) = (m5 * (3 : Nat) + (0 : Nat)) ∧ (∃ (n8 : Int), (∃ (n9 : Int), (∃ (d3 : Da), (((List.set s0 m3 ([] ++ [Da.int IntKind.i64 n1, Da.int IntKind.i64 n2, d] ++ []))[m5]?) = some [(.int .i64 n8), (.int .i64 n9), d3] ∧ e0q r O s14 (IntKind.wrap IntKind.i64 (s17 - (1 : Int))) (List.set (List.set s0 m3 ([] ++ [Da.int IntKind.i64 n1, Da.int IntKind.i64 n2, d] ++ [])) m5 ([] ++ [Da.int IntKind.i64 n4, Da.int IntKind.i64 n5, d1] ++ [])))))))))))))))))))))))))))))))))))))))
  (((.tup []) = r ∧ [(2000, (.lst 31 3 s0))] = O))) : e0q r O s14 s17 s0 := by
  unfold e0q
  refine d6q (E := a5q) (hs := b1q) g0q a9q ?_
  exact a8q (by kernel_rfl) h
theorem h5q {p : Int} {p1 : Int} {p2 : Int} {o2000 : List (List Da)} {r : AV} {O : List (Nat × Ob)} (h : ifB (decide (IntKind.wrap IntKind.i64 (p1 - p) = (1 : Int)))
  (c2q r O p p1 p2 o2000)
  (ifB (decide (IntKind.wrap IntKind.i64 (p2 - p1) = (1 : Int)))
  (c0q r O p1 p p1 o2000)
  ((Do ((0 : Int) ≤ (1 : Int) ∧ (1 : Int) ≤ (↑(IntKind.bits IntKind.u64) : Int)) ∧ ifB (decide (IntKind.wrap IntKind.i64 (IntKind.wrap IntKind.u64 (IntKind.wrap IntKind.i64 (p + p2)) / (2 : Int) ^ Int.toNat (1 : Int)) < p1))
  (b2q r O p p1 p2 (IntKind.wrap IntKind.i64 (IntKind.wrap IntKind.u64 (IntKind.wrap IntKind.i64 (p + p2)) / (2 : Int) ^ Int.toNat (1 : Int))) (IntKind.wrap IntKind.i64 (IntKind.wrap IntKind.i64 (IntKind.wrap IntKind.u64 (IntKind.wrap IntKind.i64 (p + p2)) / (2 : Int) ^ Int.toNat (1 : Int)) + p1)) (IntKind.wrap IntKind.i64 (IntKind.wrap IntKind.i64 (IntKind.wrap IntKind.i64 (IntKind.wrap IntKind.u64 (IntKind.wrap IntKind.i64 (p + p2)) / (2 : Int) ^ Int.toNat (1 : Int)) + p1) - p2)) (IntKind.wrap IntKind.i64 (IntKind.wrap IntKind.u64 (IntKind.wrap IntKind.i64 (p + p2)) / (2 : Int) ^ Int.toNat (1 : Int))) (IntKind.wrap IntKind.i64 (IntKind.wrap IntKind.i64 (IntKind.wrap IntKind.i64 (IntKind.wrap IntKind.u64 (IntKind.wrap IntKind.i64 (p + p2)) / (2 : Int) ^ Int.toNat (1 : Int)) + p1) - (1 : Int))) o2000)
  (b2q r O p p1 p2 (IntKind.wrap IntKind.i64 (IntKind.wrap IntKind.u64 (IntKind.wrap IntKind.i64 (p + p2)) / (2 : Int) ^ Int.toNat (1 : Int))) (IntKind.wrap IntKind.i64 (IntKind.wrap IntKind.i64 (IntKind.wrap IntKind.u64 (IntKind.wrap IntKind.i64 (p + p2)) / (2 : Int) ^ Int.toNat (1 : Int)) + p1)) p p1 (IntKind.wrap IntKind.i64 (IntKind.wrap IntKind.i64 (IntKind.wrap IntKind.i64 (IntKind.wrap IntKind.u64 (IntKind.wrap IntKind.i64 (p + p2)) / (2 : Int) ^ Int.toNat (1 : Int)) + p1) - (1 : Int))) o2000))))) : XC Try.prog 137 [(.one (.ol 2000)), (Z p), (Z p1), (Z p2), (.one (.d (.fn 105)))] [(2000, (.lst 31 3 o2000))] r O :=
  c7q (E := a5q) (hs := b1q) (c := (a0q Try.f137)) (n := 220) (res := []) (rs := .t []) (ks := [(2000, (false))]) (dir := [2000]) g0q a9q rfl Try.func137 (by kernel_rfl) (by kernel_rfl) (by kernel_rfl) (by kernel_rfl) (a8q (by kernel_rfl) h)
def g4q : c4q := ⟨[(1, ⟨[0, 1, 2, 3, 10], [], [], [], [], [], []⟩)], []⟩
def e9q (r : AV) (O : List (Nat × Ob)) (a : Int) (b : Int) (n : Int) (i : Int) (data : List (List Da)) : Prop := CL 38 Try.prog (e8q (a0q Try.f145) [1, 0, 0]) (b6q Try.prog a5q g4q 38 (a0q Try.f145) [1, 0, 0] (a3q a5q [] (.t []) [(2000, (false))] [2000] r O) (b4q (a3q a5q [] (.t []) [(2000, (false))] [2000] r O))).1 (b6q Try.prog a5q g4q 38 (a0q Try.f145) [1, 0, 0] (a3q a5q [] (.t []) [(2000, (false))] [2000] r O) (b4q (a3q a5q [] (.t []) [(2000, (false))] [2000] r O))).2 ⟨[(0, (.one (.ol 2000))), (1, (Z a)), (2, (Z b)), (3, (Z n)), (10, (Z i))], [(2000, (.lst 61 7 data))]⟩
theorem j6q {r : AV} {O : List (Nat × Ob)} {a : Int} {b : Int} {n : Int} {i : Int} {data : List (List Da)} (h : ifB (decide (i < n))
  ((∃ (m : Nat), ((IntKind.wrap IntKind.i64 (b + i)) = ((↑m : Int)) ∧ (Do (m < List.length data) ∧ (∃ (n2 : Nat), ((m * (7 : Nat)) = (n2 * (7 : Nat)) ∧ (∃ (b2 : Bool), (∃ (n3 : Int), (∃ (n4 : Int), (∃ (d : Da), (∃ (n5 : Int), (∃ (n6 : Int), (∃ (d1 : Da), ((data[n2]?) = some [(.bool b2), (.int .i64 n3), (.int .i64 n4), d, (.int .i64 n5), (.int .i64 n6), d1] ∧ (∃ (m1 : Nat), ((IntKind.wrap IntKind.i64 (a + i)) = ((↑m1 : Int)) ∧ (Do (m1 < List.length data) ∧ (∃ (n7 : Nat), ((m1 * (7 : Nat)) = (n7 * (7 : Nat)) ∧ (∃ (b3 : Bool), (∃ (n8 : Int), (∃ (n9 : Int), (∃ (d2 : Da), (∃ (n10 : Int), (∃ (n11 : Int), (∃ (d3 : Da), ((data[n7]?) = some [(.bool b3), (.int .i64 n8), (.int .i64 n9), d2, (.int .i64 n10), (.int .i64 n11), d3] ∧ (∃ (m2 : Nat), ((IntKind.wrap IntKind.i64 (a + i)) = ((↑m2 : Int)) ∧ (Do (m2 < List.length data) ∧ (∃ (m3 : Nat), ((m2 * (7 : Nat)) = (m3 * (7 : Nat) + (0 : Nat)) ∧ (∃ (b4 : Bool), (∃ (n12 : Int), (∃ (n13 : Int), (∃ (d4 : Da), (∃ (n14 : Int), (∃ (n15 : Int), (∃ (d5 : Da), ((data[m3]?) = some [(.bool b4), (.int .i64 n12), (.int .i64 n13), d4, (.int .i64 n14), (.int .i64 n15), d5] ∧ (∃ (m4 : Nat), ((IntKind.wrap IntKind.i64 (b + i)) = ((↑m4 : Int)) ∧ (Do (m4 < List.length (List.set data m3 ([] ++ [Da.bool b2, Da.int IntKind.i64 n3, Da.int IntKind.i64 n4, d, Da.int IntKind.i64 n5, Da.int IntKind.i64 n6, d1] ++ []))) ∧ (∃ (m5 : Nat), ((m4 * (7 : Nat)) = (m5 * (7 : Nat) + (0 : Nat)) ∧ (∃ (b5 : Bool), (∃ (n16 : Int), (∃ (n17 : Int), (∃ (d6 : Da), (∃ (n18 : Int), (∃ (n19 : Int), (∃ (d7 : Da), (((List.set data m3 ([] ++ [Da.bool b2, Da.int IntKind.i64 n3, Da.int IntKind.i64 n4, d, Da.int IntKind.i64 n5, Da.int IntKind.i64 n6, d1] ++ []))[m5]?) = some [(.bool b5), (.int .i64 n16), (.int .i64 n17), d6, (.int .i64 n18), (.int .i64 n19), d7] ∧ e9q r O a b n (IntKind.wrap IntKind.i64 (i + (1 : Int))) (List.set (List.set data m3 ([] ++ [Da.bool b2, Da.int IntKind.i64 n3, Da.int IntKind.i64 n4, d, Da.int IntKind.i64 n5, Da.int IntKind.i64 n6, d1] ++ [])) m5 ([] ++ [Da.bool b3, Da.int IntKind.i64 n8, Da.int IntKind.i64 n9, d2, Da.int IntKind.i64 n10, Da.int IntKind.i64 n11, d3] ++ [])))))))))))))))))))))))))))))))))))))))))))))))))))))))
  (((.tup []) = r ∧ [(2000, (.lst 61 7 data))] = O))) : e9q r O a b n i data := by
  unfold e9q
  refine d6q (E := a5q) (hs := g4q) g0q a9q ?_
  exact a8q (by kernel_rfl) h
theorem q6q {a : Int} {b : Int} {n : Int} {o2000 : List (List Da)} {r : AV} {O : List (Nat × Ob)} (h : e9q r O a b n ((0 : Int)) o2000) : XC Try.prog 145 [(.one (.ol 2000)), (Z a), (Z b), (Z n), (.one (.d (.fn 89)))] [(2000, (.lst 61 7 o2000))] r O :=
  c7q (E := a5q) (hs := g4q) (c := (a0q Try.f145)) (n := 38) (res := []) (rs := .t []) (ks := [(2000, (false))]) (dir := [2000]) g0q a9q rfl Try.func145 (by kernel_rfl) (by kernel_rfl) (by kernel_rfl) (by kernel_rfl) (a8q (by kernel_rfl) h)
def h9q : c4q := ⟨[(2, ⟨[0, 2, 4, 10, 11], [], [], [], [], [], []⟩)], []⟩
def e5q (r : AV) (O : List (Nat × Ob)) (m : Int) (i : Int) (j : Int) (data : List (List Da)) : Prop := CL 58 Try.prog (e8q (a0q Try.f144) [1, 1, 0, 0, 0]) (b6q Try.prog a5q h9q 58 (a0q Try.f144) [1, 1, 0, 0, 0] (a3q a5q [] (.t []) [(2000, (false))] [2000] r O) (b4q (a3q a5q [] (.t []) [(2000, (false))] [2000] r O))).1 (b6q Try.prog a5q h9q 58 (a0q Try.f144) [1, 1, 0, 0, 0] (a3q a5q [] (.t []) [(2000, (false))] [2000] r O) (b4q (a3q a5q [] (.t []) [(2000, (false))] [2000] r O))).2 ⟨[(0, (.one (.ol 2000))), (2, (Z m)), (4, (.one (.d (.fn 105)))), (10, (Z i)), (11, (Z j))], [(2000, (.lst 31 3 data))]⟩
theorem s9q {r : AV} {O : List (Nat × Ob)} {m : Int} {i : Int} {j : Int} {data : List (List Da)} (h : ifB (decide (i ≠ j))
  (ifB (decide (j < i))
  ((∃ (xs : List (List Da)), (XC Try.prog 147 [(.one (.ol 2000)), (Z (IntKind.wrap IntKind.i64 (m - i))), (Z m), (Z j), (.one (.d (.fn 105)))] [(2000, (.lst 31 3 data))] (.tup []) [(2000, (.lst 31 3 xs))] ∧ e5q r O m (IntKind.wrap IntKind.i64 (i - j)) j xs)))
  ((∃ (xs1 : List (List Da)), (XC Try.prog 147 [(.one (.ol 2000)), (Z (IntKind.wrap IntKind.i64 (m - i))), (Z (IntKind.wrap IntKind.i64 (IntKind.wrap IntKind.i64 (m + j) - i))), (Z i), (.one (.d (.fn 105)))] [(2000, (.lst 31 3 data))] (.tup []) [(2000, (.lst 31 3 xs1))] ∧ e5q r O m i (IntKind.wrap IntKind.i64 (j - i)) xs1))))
  ((∃ (xs2 : List (List Da)), (XC Try.prog 147 [(.one (.ol 2000)), (Z (IntKind.wrap IntKind.i64 (m - i))), (Z m), (Z i), (.one (.d (.fn 105)))] [(2000, (.lst 31 3 data))] (.tup []) [(2000, (.lst 31 3 xs2))] ∧ ((.tup []) = r ∧ [(2000, (.lst 31 3 xs2))] = O))))) : e5q r O m i j data := by
  unfold e5q
  refine d6q (E := a5q) (hs := h9q) g0q a9q ?_
  exact a8q (by kernel_rfl) h
theorem u7q {a : Int} {m : Int} {b : Int} {o2000 : List (List Da)} {r : AV} {O : List (Nat × Ob)} (h : e5q r O m (IntKind.wrap IntKind.i64 (m - a)) (IntKind.wrap IntKind.i64 (b - m)) o2000) : XC Try.prog 144 [(.one (.ol 2000)), (Z a), (Z m), (Z b), (.one (.d (.fn 105)))] [(2000, (.lst 31 3 o2000))] r O :=
  c7q (E := a5q) (hs := h9q) (c := (a0q Try.f144)) (n := 58) (res := []) (rs := .t []) (ks := [(2000, (false))]) (dir := [2000]) g0q a9q rfl Try.func144 (by kernel_rfl) (by kernel_rfl) (by kernel_rfl) (by kernel_rfl) (a8q (by kernel_rfl) h)
def h4q : c4q := ⟨[(1, ⟨[0, 1, 2, 3, 10], [], [], [], [], [], []⟩)], []⟩
def f3q (r : AV) (O : List (Nat × Ob)) (a : Int) (b : Int) (n : Int) (i : Int) (data : List (List Da)) : Prop := CL 38 Try.prog (e8q (a0q Try.f147) [1, 0, 0]) (b6q Try.prog a5q h4q 38 (a0q Try.f147) [1, 0, 0] (a3q a5q [] (.t []) [(2000, (false))] [2000] r O) (b4q (a3q a5q [] (.t []) [(2000, (false))] [2000] r O))).1 (b6q Try.prog a5q h4q 38 (a0q Try.f147) [1, 0, 0] (a3q a5q [] (.t []) [(2000, (false))] [2000] r O) (b4q (a3q a5q [] (.t []) [(2000, (false))] [2000] r O))).2 ⟨[(0, (.one (.ol 2000))), (1, (Z a)), (2, (Z b)), (3, (Z n)), (10, (Z i))], [(2000, (.lst 31 3 data))]⟩
theorem k4q {r : AV} {O : List (Nat × Ob)} {a : Int} {b : Int} {n : Int} {i : Int} {data : List (List Da)} (h : ifB (decide (i < n))
  ((∃ (m : Nat), ((IntKind.wrap IntKind.i64 (b + i)) = ((↑m : Int)) ∧ (Do (m < List.length data) ∧ (∃ (n2 : Nat), ((m * (3 : Nat)) = (n2 * (3 : Nat)) ∧ (∃ (n3 : Int), (∃ (n4 : Int), (∃ (d : Da), ((data[n2]?) = some [(.int .i64 n3), (.int .i64 n4), d] ∧ (∃ (m1 : Nat), ((IntKind.wrap IntKind.i64 (a + i)) = ((↑m1 : Int)) ∧ (Do (m1 < List.length data) ∧ (∃ (n5 : Nat), ((m1 * (3 : Nat)) = (n5 * (3 : Nat)) ∧ (∃ (n6 : Int), (∃ (n7 : Int), (∃ (d1 : Da), ((data[n5]?) = some [(.int .i64 n6), (.int .i64 n7), d1] ∧ (∃ (m2 : Nat), ((IntKind.wrap IntKind.i64 (a + i)) = ((↑m2 : Int)) ∧ (Do (m2 < List.length data) ∧ (∃ (m3 : Nat), ((m2 * (3 : Nat)) = (m3 * (3 : Nat) + (0 : Nat)) ∧ (∃ (n8 : Int), (∃ (n9 : Int), (∃ (d2 : Da), ((data[m3]?) = some [(.int .i64 n8), (.int .i64 n9), d2] ∧ (∃ (m4 : Nat), ((IntKind.wrap IntKind.i64 (b + i)) = ((↑m4 : Int)) ∧ (Do (m4 < List.length (List.set data m3 ([] ++ [Da.int IntKind.i64 n3, Da.int IntKind.i64 n4, d] ++ []))) ∧ (∃ (m5 : Nat), ((m4 * (3 : Nat)) = (m5 * (3 : Nat) + (0 : Nat)) ∧ (∃ (n10 : Int), (∃ (n11 : Int), (∃ (d3 : Da), (((List.set data m3 ([] ++ [Da.int IntKind.i64 n3, Da.int IntKind.i64 n4, d] ++ []))[m5]?) = some [(.int .i64 n10), (.int .i64 n11), d3] ∧ f3q r O a b n (IntKind.wrap IntKind.i64 (i + (1 : Int))) (List.set (List.set data m3 ([] ++ [Da.int IntKind.i64 n3, Da.int IntKind.i64 n4, d] ++ [])) m5 ([] ++ [Da.int IntKind.i64 n6, Da.int IntKind.i64 n7, d1] ++ [])))))))))))))))))))))))))))))))))))))))
  (((.tup []) = r ∧ [(2000, (.lst 31 3 data))] = O))) : f3q r O a b n i data := by
  unfold f3q
  refine d6q (E := a5q) (hs := h4q) g0q a9q ?_
  exact a8q (by kernel_rfl) h
theorem s7q {a : Int} {b : Int} {n : Int} {o2000 : List (List Da)} {r : AV} {O : List (Nat × Ob)} (h : f3q r O a b n ((0 : Int)) o2000) : XC Try.prog 147 [(.one (.ol 2000)), (Z a), (Z b), (Z n), (.one (.d (.fn 105)))] [(2000, (.lst 31 3 o2000))] r O :=
  c7q (E := a5q) (hs := h4q) (c := (a0q Try.f147)) (n := 38) (res := []) (rs := .t []) (ks := [(2000, (false))]) (dir := [2000]) g0q a9q rfl Try.func147 (by kernel_rfl) (by kernel_rfl) (by kernel_rfl) (by kernel_rfl) (a8q (by kernel_rfl) h)
end AM
end Go.Proofs.Ytajcoogpmockiaa
set_option linter.unusedSimpArgs false
set_option linter.unusedVariables false
namespace Go.Proofs.Ytajcoogpmockiaa
namespace AM
open Go
inductive Tm where
  | mk (f v : Int) (ks : List Tm)
mutual
def Tm.da : Tm → List Da
  | .mk f v ks => [.int .i64 f, .int .i64 v, .sl (Tm.das ks)]
def Tm.das : List Tm → List (List Da)
  | [] => []
  | t :: r => t.da :: Tm.das r
end
def Tm.f : Tm → Int | .mk f _ _ => f
def Tm.v : Tm → Int | .mk _ v _ => v
def Tm.ks : Tm → List Tm | .mk _ _ ks => ks
theorem Tm.das_map (l : List Tm) : Tm.das l = l.map Tm.da := by induction l <;> simp_all [Tm.das]
theorem Tm.da_len (t : Tm) : t.da.length = 3 := by cases t; rfl
theorem Tm.ind {p : Tm → Prop} (h : ∀ f v ks, (∀ t ∈ ks, p t) → p (.mk f v ks)) (t : Tm) : p t := by
  refine Tm.rec (motive_1 := p) (motive_2 := fun l => ∀ t ∈ l, p t) (fun f v ks ih => h f v ks ih) (by simp) (fun t l h1 h2 => ?_) t
  intro u hu
  rcases List.mem_cons.1 hu with rfl | hu
  · exact h1
  · exact h2 u hu
mutual
def Tm.cn : Tm → Nat
  | .mk _ _ ks => Tm.cns ks
def Tm.cns : List Tm → Nat
  | [] => 0
  | t :: r => 1 + t.cn + Tm.cns r
end
structure Li where
  p : Bool
  l : Tm
  r : Tm
def Li.da (x : Li) : List Da := .bool x.p :: (x.l.da ++ x.r.da)
structure Cl where
  ls : List Li
def Cl.da (x : Cl) : List Da := [.sl (x.ls.map Li.da)]
structure Sy where
  nm : ByteArray
  ar : Int
  ac : Bool
def Sy.da (x : Sy) : List Da := [.str x.nm, .int .i64 x.ar, .bool x.ac]
structure Bd where
  v : Int
  t : Tm
def Bd.da (x : Bd) : List Da := .int .i64 x.v :: x.t.da
structure Ru where
  l : Tm
  r : Tm
def Ru.da (x : Ru) : List Da := x.l.da ++ x.r.da
def In.da (n : Int) : List Da := [.int .i64 n]
structure Sp where
  kind : Int
  a : Int
  b : Int
  i : Int
  k : Int
  left : Bool
  side : Bool
  way : List Int
  ext : Bool
  sub : List Bd
  cl : Cl
def Sp.da (x : Sp) : List Da := [.int .i64 x.kind, .int .i64 x.a, .int .i64 x.b, .int .i64 x.i, .int .i64 x.k, .bool x.left, .bool x.side, .sl (x.way.map In.da), .bool x.ext, .sl (x.sub.map Bd.da), .sl (x.cl.ls.map Li.da)]
structure Wk where
  sig : List Sy
  input : List Cl
  log : List Sp
  active : List Int
  passive : List Int
  lost : Bool
def Wk.da (x : Wk) : List Da := [.sl (x.sig.map Sy.da), .sl (x.input.map Cl.da), .sl (x.log.map Sp.da), .sl (x.active.map In.da), .sl (x.passive.map In.da), .bool x.lost]
theorem Li.da_len (x : Li) : x.da.length = 7 := by obtain ⟨p, ⟨f, v, ks⟩, ⟨g, u, ls⟩⟩ := x; rfl
theorem Cl.da_len (x : Cl) : x.da.length = 1 := rfl
theorem Sy.da_len (x : Sy) : x.da.length = 3 := rfl
theorem Bd.da_len (x : Bd) : x.da.length = 4 := by obtain ⟨v, ⟨f, u, ks⟩⟩ := x; rfl
theorem Sp.da_len (x : Sp) : x.da.length = 11 := rfl
def cnL {α : Type} (cn : α → Nat) (l : List α) : Nat := l.length + (l.map cn).sum
def Li.cn (x : Li) : Nat := x.l.cn + x.r.cn
def Cl.cn (x : Cl) : Nat := cnL Li.cn x.ls
def Sy.cn (x : Sy) : Nat := x.nm.size
def Bd.cn (x : Bd) : Nat := x.t.cn
def Ru.cn (x : Ru) : Nat := x.l.cn + x.r.cn
def In.cn (n : Int) : Nat := 0
def Sp.cn (x : Sp) : Nat := x.way.length + cnL Bd.cn x.sub + x.cl.cn
def Wk.cn (x : Wk) : Nat := cnL Sy.cn x.sig + cnL Cl.cn x.input + cnL Sp.cn x.log + x.active.length + x.passive.length
theorem Tm.cns_cnL (l : List Tm) : Tm.cns l = cnL Tm.cn l := by
  induction l with
  | nil => rfl
  | cons t r ih => simp [Tm.cns, cnL, ih]; omega
theorem o1q {α : Type} {cn : α → Nat} {l : List α} {x : α} (h : x ∈ l) : cn x + l.length ≤ cnL cn l := by
  induction l with
  | nil => simp at h
  | cons y r ih =>
    rcases List.mem_cons.1 h with rfl | h
    · simp [cnL]; omega
    · have := ih h; simp [cnL] at this ⊢; omega
theorem i5q {α : Type} (cn : α → Nat) (l : List α) : l.length ≤ cnL cn l := by simp [cnL]
theorem g8q {α : Type} {l : List α} {i : Nat} (h : i < l.length) : ∃ x, l[i]? = some x := ⟨l[i], List.getElem?_eq_getElem h⟩
theorem t3q {α β : Type} {g : α → β} {l : List α} {i : Nat} {x : α} (h : l[i]? = some x) : (l.map g)[i]? = some (g x) := by simp [h]
theorem u1q {l : List Tm} {i : Nat} {x : Tm} (h : l[i]? = some x) : (Tm.das l)[i]? = some x.da := by rw [Tm.das_map]; simp [h]
theorem c5q (l : List Tm) : (Tm.das l).length = l.length := by rw [Tm.das_map]; simp
theorem wrI {x : Int} (h1 : -9223372036854775808 ≤ x) (h2 : x ≤ 9223372036854775807) : IntKind.wrap .i64 x = x := by
  rw [IntKind.wrap_i64]; omega
theorem wr1 {k n : Nat} (h : k < n) (hn : n ≤ 281474976710656) : IntKind.wrap .i64 ((k : Int) + 1) = ((k + 1 : Nat) : Int) := by
  rw [wrI (by omega) (by omega)]; omega
theorem q2q {p : Nat → Prop} (n : Nat) (h1 : p n) (h2 : ∀ i, i < n → p (i + 1) → p i) : ∀ i, i ≤ n → p i := by
  intro i hi
  induction hd : n - i generalizing i with
  | zero => have : i = n := by omega
            subst this; exact h1
  | succ d ih => exact h2 i (by omega) (ih (i + 1) (by omega) (by omega))
theorem l0q {i n : Nat} (h : i < n) : decide ((i : Int) < (n : Int)) = true := by simp; exact h
theorem j0q {i n : Nat} (h : n ≤ i) : decide ((i : Int) < (n : Int)) = false := by simp; exact h
theorem C2q {i : Int} : decide (i ≠ i) = false := by simp
theorem a6Yq {i : Bool} : decide (i ≠ i) = false := by simp
theorem abbq {i : ByteArray} : decide (i ≠ i) = false := by simp
section
variable {P : Program} {f : FuncId} {xs : List AV} {I : List (Nat × Ob)} {r : AV} {O : List (Nat × Ob)}
theorem w1q (h : Fits xs → XC P f xs I r O) : XC P f xs I r O := ⟨fun w S β vs hlt hr hin => (h ⟨w, S, β, vs, hr⟩).h w S β vs hlt hr hin⟩
theorem XC.acall (h : XC P f xs [] r []) : ACall P f xs r [] := XCall.plain h.h
end
def lft (n : Nat) (l : Int) : Int := if l < n then -1 else l - n
theorem a02q {n : Nat} {l : Int} (h : -1 ≤ l) : -1 ≤ lft n l ∧ lft n l ≤ l := by unfold lft; split <;> omega
theorem a0Dq {n : Nat} {l : Int} (h : lft n l < 0) (hl : 0 ≤ l) : lft n l = -1 := by unfold lft at h ⊢; split at h <;> split <;> omega
theorem M6q {m n : Nat} {l : Int} (h : 0 ≤ lft m l) : lft n (lft m l) = lft (m + n) l := by
  unfold lft at h ⊢
  split at h
  · omega
  · rename_i h1
    rw [if_neg h1]
    split <;> split <;> omega
theorem a4Yq {n : Nat} {l : Int} (h : 0 ≤ lft n l) : (n : Int) ≤ l ∧ lft n l = l - n := by unfold lft at h ⊢; split at h <;> split <;> omega
end AM
end Go.Proofs.Ytajcoogpmockiaa
set_option linter.unusedSimpArgs false
set_option linter.unusedVariables false
namespace Go.Proofs.Ytajcoogpmockiaa
namespace AM
open Go Go.ChangeShapes Go.WideShapes Go.RowKit
def D1q (T : TypeId → List Da → Prop) : List TypeId → List Da → Prop
  | [], ds => ds = []
  | t :: ts, ds => ∃ d r, ds = d ++ r ∧ T t d ∧ D1q T ts r
def f0q (P : Program) : Nat → TypeId → List Da → Prop
  | 0, _, _ => False
  | n + 1, t, ds => match P.underlying t with
    | some .bool => ∃ b, ds = [.bool b]
    | some (.int k) => ∃ m, ds = [.int k m] ∧ (Lit.int k m).wf = true
    | some .string => ∃ s, ds = [.str s]
    | some (.slice e) => ∃ xs, ds = [.sl xs] ∧ ∀ x ∈ xs, f0q P n e x
    | some (.struct fs) => D1q (f0q P n) (fs.toList.map (·.type)) ds
    | _ => False
def layB (P : Program) : List Field → Nat → Nat → Bool
  | [], off, n => off == n
  | f :: r, off, n => f.offset == off && layB P r (off + P.cellsOf f.type) n
def U5q (P : Program) (ts : List TypeId) : Bool := ts.all fun t => match P.underlying t with
  | some .bool => true
  | some (.int _) => true
  | some .string => true
  | some (.slice e) => ts.contains e && decide (0 < P.cellsOf e) && decide (0 < P.bytesOf e)
  | some (.struct fs) => layB P fs.toList 0 (P.cellsOf t) && fs.toList.all fun f => ts.contains f.type
  | _ => false
theorem a1bq {H : Type} {P : Program} {e : TypeId} : ∀ {l : List (DataW H)} {d : DataW H}, d ∈ l → ∀ n ∈ d.weights P e, n ∈ DataW.weightsAll P e l
  | a :: l, d, hd, n, hn => by
    simp only [DataW.weightsAll, List.mem_append]
    rcases List.mem_cons.1 hd with rfl | hd
    · exact .inl hn
    · exact .inr (a1bq hd n hn)
section
variable {H : Type} {enc : TypeId × Value → H} {P : Program} {w : World} {held : Bool} {ts : List TypeId}
theorem a9Gq (b off i : Nat) : (⟨b, off, none⟩ : Addr).add i = ⟨b, off + i, none⟩ := by unfold Addr.add; split <;> simp_all
theorem a1dq {n : Nat} (ih : ∀ t cs x, t ∈ ts → DataW.trod enc P w 0 (fun _ => true) held n t cs = some x → (∀ m ∈ x.1.weights P t, m ≤ reachBytes) → ∃ ds, f0q P n t ds ∧ RepDs w (· < w.heap.size) ds cs) :
    ∀ (fs : List Field) (off total : Nat) (cs : List Value) (xs : List (DataW H × List MemPlace)), layB P fs off total = true → (fs.all fun f => ts.contains f.type) = true → cs.length = total → off ≤ total → xs.length = fs.length →
      (∀ (i : Nat) (f : Field), fs[i]? = some f → DataW.trod enc P w 0 (fun _ => true) held n f.type ((cs.drop f.offset).take (P.cellsOf f.type)) = xs[i]?) →
      (∀ m ∈ DataW.weightsEach P (fs.map (·.type)) (xs.map (·.1)), m ≤ reachBytes) →
      ∃ ds, D1q (f0q P n) (fs.map (·.type)) ds ∧ RepDs w (· < w.heap.size) ds (cs.drop off)
  | [], off, total, cs, xs, hl, _, hc, _, _, _, _ => by
    simp only [layB, beq_iff_eq] at hl
    refine ⟨[], rfl, ?_⟩
    rw [List.drop_eq_nil_of_le (by omega)]
    exact .nil
  | f :: r, off, total, cs, [], hl, _, hc, _, hx, _, _ => by simp at hx
  | f :: r, off, total, cs, x :: xs, hl, ht, hc, ho, hx, hr, hw => by
    simp only [layB, Bool.and_eq_true, beq_iff_eq] at hl
    obtain ⟨hl1, hl2⟩ := hl
    simp only [List.all_cons, Bool.and_eq_true] at ht
    have h0 := hr 0 f rfl
    simp only [List.getElem?_cons_zero] at h0
    simp only [List.map_cons, DataW.weightsEach, List.mem_append] at hw
    obtain ⟨d, hd1, hd2⟩ := ih f.type _ x (by simpa using ht.1) h0 fun m hm => hw m (.inl hm)
    have hle : off + P.cellsOf f.type ≤ total := by
      have key : ∀ (l : List Field) (o : Nat), layB P l o total = true → o ≤ total := by
        intro l
        induction l with
        | nil => intro o h; simp only [layB, beq_iff_eq] at h; omega
        | cons g l ih2 => intro o h; simp only [layB, Bool.and_eq_true, beq_iff_eq] at h; have := ih2 _ h.2; omega
      exact key _ _ hl2
    obtain ⟨ds, hs1, hs2⟩ := a1dq ih r (off + P.cellsOf f.type) total cs xs hl2 ht.2 hc hle (by simpa using hx) (fun i g hg => by simpa using hr (i + 1) g (by simpa using hg)) fun m hm => hw m (.inr hm)
    refine ⟨d ++ ds, ⟨d, ds, rfl, hd1, hs1⟩, ?_⟩
    have e : cs.drop off = (cs.drop off).take (P.cellsOf f.type) ++ cs.drop (off + P.cellsOf f.type) := by
      rw [← List.drop_drop, List.take_append_drop]
    rw [e]
    rw [hl1] at hd2
    exact hd2.app hs2
theorem a7Hq {n C : Nat} {e : TypeId} {a : Addr} (hC : C = P.cellsOf e) (hpos : 0 < C) (ih : ∀ cs x, DataW.trod enc P w 0 (fun _ => true) held n e cs = some x → (∀ m ∈ x.1.weights P e, m ≤ reachBytes) → ∃ ds, f0q P n e ds ∧ RepDs w (· < w.heap.size) ds cs) (elems : List (DataW H × List MemPlace)) :
    ∀ (k : Nat), k ≤ elems.length → (∀ i, i < k → (w.cells? 0 (a.add (i * C)) C).bind (DataW.trod enc P w 0 (fun _ => true) held n e) = elems[i]?) → (∀ i x, i < k → elems[i]? = some x → ∀ m ∈ x.1.weights P e, m ≤ reachBytes) →
      ∃ (xs : List (List Da)) (us : List Value), xs.length = k ∧ us.length = k * C ∧ RepDs w (· < w.heap.size) xs.flatten us ∧ (∀ x ∈ xs, f0q P n e x ∧ x.length = C) ∧ ∀ i u, us[i]? = some u → w.cell? (a.add i) = some u := by
  intro k
  induction k with
  | zero => intro _ _ _; exact ⟨[], [], rfl, by simp, .nil, by simp, by simp⟩
  | succ k ihk =>
    intro hk hel hw
    obtain ⟨xs, us, h1, h2, h3, h4, h5⟩ := ihk (by omega) (fun i hi => hel i (by omega)) fun i x hi => hw i x (by omega)
    have hx := hel k (by omega)
    rw [List.getElem?_eq_getElem (by omega)] at hx
    simp only [Option.bind_eq_some_iff] at hx
    obtain ⟨cs, hc, hr⟩ := hx
    obtain ⟨d, hd1, hd2⟩ := ih cs _ hr (hw k _ (by omega) (List.getElem?_eq_getElem (by omega)))
    obtain ⟨_, hcl, hcell⟩ := World.cells?_some hc
    have hdl := hd2.len
    refine ⟨xs ++ [d], us ++ cs, by simp [h1], by simp [h2, hcl, Nat.add_mul], by simpa using h3.app hd2, fun x hx => ?_, fun i u hu => ?_⟩
    · rcases List.mem_append.1 hx with hx | hx
      · exact h4 x hx
      · simp only [List.mem_singleton] at hx; subst hx; exact ⟨hd1, by omega⟩
    · by_cases hi : i < us.length
      · rw [List.getElem?_append_left hi] at hu; exact h5 i u hu
      · rw [List.getElem?_append_right (by omega)] at hu
        have hj : i - us.length < C := by rw [← hcl]; exact (List.getElem?_eq_some_iff.1 hu).1
        have := hcell (i - us.length) hj
        rw [Go.Deep.add_add, show k * C + (i - us.length) = i by omega, hu] at this
        exact this
theorem abBq (hcl : U5q P ts = true) : ∀ (fuel : Nat) t cs x, t ∈ ts → DataW.trod enc P w 0 (fun _ => true) held fuel t cs = some x → (∀ m ∈ x.1.weights P t, m ≤ reachBytes) → ∃ ds, f0q P fuel t ds ∧ RepDs w (· < w.heap.size) ds cs := by
  intro fuel
  induction fuel with
  | zero => intro t cs x _ h; simp [DataW.trod] at h
  | succ n ih =>
    intro t cs x ht h hw
    have hc := List.all_eq_true.1 hcl t ht
    simp only [f0q]
    split at hc
    · rename_i hu
      obtain ⟨b, rfl, rfl⟩ := DataW.trod_bool hu h
      exact ⟨_, ⟨b, rfl⟩, .bool_ b⟩
    · rename_i hu
      obtain ⟨m, rfl, rfl, hwf⟩ := DataW.trod_int hu h
      exact ⟨_, ⟨m, rfl, hwf⟩, .int_ _ m⟩
    · rename_i hu
      obtain ⟨s, rfl, rfl, hs⟩ := DataW.trod_string hu h
      have := hw s.data.toList.length (by simp [DataW.weights])
      refine ⟨_, ⟨s, rfl⟩, .str_ s ?_⟩
      have h2 : s.data.toList.length = s.size := by rw [Array.length_toList]; rfl
      have := reachBytes_lt
      omega
    · rename_i e hu
      simp only [Bool.and_eq_true, decide_eq_true_eq, List.contains_iff_mem] at hc
      obtain ⟨⟨he, hpos⟩, hb⟩ := hc
      rcases DataW.trod_slice hu h with ⟨rfl, rfl⟩ | ⟨a, len, cap, elems, rest, n', hn, rfl, rfl, _, hle, hcap, hlen, hel, hsp, _⟩
      · exact ⟨[.sl []], ⟨[], rfl, by simp⟩, [], .sl0 rfl rfl (Nat.zero_le _) (Nat.zero_le _) .nil, by simp⟩
      · obtain rfl : n' = n := by omega
        obtain ⟨hr, _⟩ := hsp rfl
        simp only [DataW.weights, hu, List.mem_cons, List.mem_append] at hw
        obtain ⟨xs, us, h1, h2, h3, h4, h5⟩ := a7Hq (a := a) rfl hpos (fun cs x => ih e cs x he) elems len (by omega) hel fun i x hi hx m hm => hw m (.inr (.inl (a1bq (List.mem_map.2 ⟨x, List.mem_of_getElem? hx, rfl⟩) m hm)))
        have hsm : len ≤ 281474976710656 := by
          have := hw _ (.inl rfl)
          have h47 := reachBytes_lt
          simp only [List.length_map] at this
          have : len * 1 ≤ (elems.length + rest.length) * P.bytesOf e := Nat.mul_le_mul (by omega) hb
          omega
        refine ⟨[.sl xs], ⟨xs, rfl, fun x hx => (h4 x hx).1⟩, ?_⟩
        by_cases h0 : len = 0
        · subst h0
          have : xs = [] := List.length_eq_zero_iff.1 h1
          subst this
          exact ⟨[], .sl0 rfl rfl hle hsm .nil, by simp⟩
        · have hus : 0 < us.length := by rw [h2]; exact Nat.mul_pos (by omega) hpos
          have hc0 := h5 0 _ (List.getElem?_eq_getElem hus)
          obtain ⟨b, off, spot⟩ := a
          have hb2 : spot = none ∧ b < w.heap.size := by
            simp only [Addr.add, if_true, World.cell?] at hc0
            split at hc0
            · rename_i hh
              split at hc0
              · simp at hc0
              · rename_i hs
                refine ⟨by cases spot <;> simp_all, ?_⟩
                exact (Array.getElem?_eq_some_iff.1 hh).1
            · simp at hc0
          obtain ⟨rfl, hb3⟩ := hb2
          obtain ⟨fi, hfi, hS⟩ := h3
          refine ⟨b :: (fi ++ []), .sl1 hfi h1.symm hle hsm (fun y hy => (h4 y hy).2) (fun i u hu => ?_) hb3 .nil, fun b' hb' => ?_⟩
          · have := h5 i u hu; rwa [a9Gq] at this
          · simp only [List.append_nil, List.mem_cons] at hb'
            rcases hb' with rfl | hb'
            · exact hb3
            · exact hS b' hb'
    · rename_i fs hu
      simp only [Bool.and_eq_true] at hc
      obtain ⟨xs, n', hn, rfl, hcs, hxl, hf⟩ := DataW.trod_struct hu h
      obtain rfl : n' = n := by omega
      obtain ⟨ds, h1, h2⟩ := a1dq ih fs.toList 0 (P.cellsOf t) cs xs hc.1 hc.2 hcs (Nat.zero_le _) (by simpa using hxl) (fun i f hi => hf i f (by simpa using hi)) (by simpa [DataW.weights, hu] using hw)
      exact ⟨ds, h1, by simpa using h2⟩
    · simp at hc
end
end AM
end Go.Proofs.Ytajcoogpmockiaa
set_option linter.unusedSimpArgs false
set_option linter.unusedVariables false
namespace Go.Proofs.Ytajcoogpmockiaa
namespace AM
open Go Go.ChangeShapes Go.WideShapes Go.RowKit
def W5q (P : Program) (t : TypeId) (x : AV) : Prop := match P.underlying t with
  | some (.struct _) => ∃ n ds, x = .dat ds ∧ f0q P n t ds
  | _ => ∃ n d, x = .one (.d d) ∧ f0q P n t [d]
def a2pq (P : Program) : List TypeId → List AV → Prop
  | [], [] => True
  | t :: ts, x :: xs => W5q P t x ∧ a2pq P ts xs
  | _, _ => False
theorem a7eq {P : Program} {w : World} {base : Nat} {t : TypeId} {v : Value} (hc : U5q P [t] = true ∨ True) (hs : (∀ fs, P.underlying t ≠ some (.struct fs)) ∧ (P.underlying t = some .bool ∨ (∃ k, P.underlying t = some (.int k)) ∨ P.underlying t = some .string ∨ ∃ e, P.underlying t = some (.slice e))) (h : Value.okWide P w .any base t v) : v.cells = #[v] := by
  obtain ⟨_, hu | ⟨k, hu⟩ | hu | ⟨e, hu⟩⟩ := hs <;> simp only [Value.okWide, hu, Cell.okWide, Cell.ok] at h <;> cases v <;> simp_all [Value.cells]
section
variable {H : Type} {enc : TypeId × Value → H} {P : Program} {w : World} {ts : List TypeId} {β : Nat → OLoc}
theorem a9Bq (hcl : U5q P ts = true) {t : TypeId} {v : Value} {d : DataW H} {p : List MemPlace} (ht : t ∈ ts) {base : Nat} (hv : Value.okWide P w .any base t v) (h : DataW.Trod enc P w 0 (fun _ => true) true t v d p) (hw : ∀ m ∈ d.weights P t, m ≤ reachBytes) :
    ∃ x, W5q P t x ∧ RepV w (· < w.heap.size) β x v := by
  obtain ⟨fuel, hf⟩ := h
  obtain ⟨ds, h1, h2⟩ := abBq hcl fuel t _ _ ht hf hw
  have hc := List.all_eq_true.1 hcl t ht
  split at hc
  all_goals try (simp at hc; done)
  case h_5 fs hu =>
    obtain ⟨cs, rfl, _⟩ := okWide_struct hu hv
    refine ⟨.dat ds, by unfold W5q; rw [hu]; exact ⟨_, _, rfl, h1⟩, ?_⟩
    have : RepV w (· < w.heap.size) β (.dat ds) (.agg cs.toList.toArray) := .dat (by simpa [Value.cells] using h2) .nil
    simpa using this
  all_goals
    rename_i hu
    have hcell := a7eq (.inr trivial) ⟨by intro fs; rw [hu]; simp, by rw [hu]; simp⟩ hv
    rw [hcell] at h2
    have hl := h2.len
    match ds, hl with
    | [d0], _ => exact ⟨.one (.d d0), by unfold W5q; rw [hu]; exact ⟨_, _, rfl, h1⟩, .one (.d h2)⟩
theorem a3Cq (hcl : U5q P ts = true) {base : Nat} : ∀ (us : List TypeId) (vs : List Value) (ds : List (DataW H)) (p : List MemPlace), (∀ t ∈ us, t ∈ ts) → (∀ (j : Nat) t v, us[j]? = some t → vs[j]? = some v → Value.okWide P w .any base t v) →
    DataW.TrodAll enc P w 0 (fun _ => true) true us vs ds p → (∀ m ∈ DataW.weightsEach P us ds, m ≤ reachBytes) → ∃ xs, a2pq P us xs ∧ RepVs w (· < w.heap.size) β xs vs
  | [], [], [], p, _, _, _, _ => ⟨[], trivial, .nil⟩
  | [], [], _ :: _, _, _, _, h, _ => by simp [DataW.TrodAll] at h
  | [], _ :: _, _, _, _, _, h, _ => by simp [DataW.TrodAll] at h
  | _ :: _, [], _, _, _, _, h, _ => by simp [DataW.TrodAll] at h
  | _ :: _, _ :: _, [], _, _, _, h, _ => by simp [DataW.TrodAll] at h
  | t :: us, v :: vs, d :: ds, p, hts, hv, h, hw => by
    obtain ⟨p1, q1, h1, h2, rfl⟩ := h
    simp only [DataW.weightsEach, List.mem_append] at hw
    obtain ⟨x, hx, hr⟩ := a9Bq (β := β) hcl (hts t (by simp)) (hv 0 t v rfl rfl) h1 fun m hm => hw m (.inl hm)
    obtain ⟨xs, hxs, hrs⟩ := a3Cq hcl us vs ds q1 (fun t ht => hts t (by simp [ht])) (fun j t v h1 h2 => hv (j + 1) t v (by simpa using h1) (by simpa using h2)) h2 fun m hm => hw m (.inr hm)
    exact ⟨x :: xs, ⟨hx, hxs⟩, hr.cons hrs⟩
theorem Y0q (hl : laidOutB P = true) {W W' : World} {sp : Nat → Bool} : ∀ (us : List TypeId) (vs : List Value) (ds : List (DataW H)) (p : List MemPlace), (∀ t ∈ us, P.readableRec t = true ∧ t < P.types.size) → (∀ x ∈ p, W.sameAt W' x ∧ sp x.block = true) →
    DataW.TrodAll enc P W 0 (fun _ => true) true us vs ds p → DataW.TrodAll enc P W' 0 sp true us vs ds p
  | [], [], [], p, _, _, h => h
  | [], [], _ :: _, _, _, _, h => by simp [DataW.TrodAll] at h
  | [], _ :: _, _, _, _, _, h => by simp [DataW.TrodAll] at h
  | _ :: _, [], _, _, _, _, h => by simp [DataW.TrodAll] at h
  | _ :: _, _ :: _, [], _, _, _, h => by simp [DataW.TrodAll] at h
  | t :: us, v :: vs, d :: ds, p, hts, hp, h => by
    obtain ⟨p1, q1, h1, h2, rfl⟩ := h
    have ht := hts t (by simp)
    exact ⟨p1, q1, WideElems.Trod_stays hl ht.1 ht.2 h1 (fun x hx => (hp x (by simp [hx])).1) (fun x hx => (hp x (by simp [hx])).2), Y0q hl us vs ds q1 (fun t ht => hts t (by simp [ht])) (fun x hx => hp x (by simp [hx])) h2, rfl⟩
end
section
variable {H : Type} {enc : TypeId × Value → H} {P : Program}
theorem a4dq {f : Func} {s : ChangeSpec} {apart fresh handsOn again : Bool} {W W' : World} {args : Array Value} {v : Value} {ds gs : List (DataW H)} {before pa pv : List MemPlace}
    (hW : DataW.Whole enc P f.params.toList s.vars apart W args.toList ds gs before)
    (hres : ∀ (b : Nat) (sp : Nat → Bool) (hd : Bool), DataW.TrodAll enc P W' b sp hd f.resultTypes.toList (v.resultList f.resultTypes.size) (s.fn H (ds ++ gs)).results [])
    (hargs : ∀ sp : Nat → Bool, (∀ p ∈ before, sp p.block = true) → DataW.TrodAll enc P W' 0 sp true f.params.toList args.toList (s.fn H (ds ++ gs)).args pa)
    (hvars : ∀ sp : Nat → Bool, (∀ p ∈ before, sp p.block = true) → DataW.TrodVars enc P W' sp s.vars (s.fn H (ds ++ gs)).vars pv)
    (hps : before = pa ++ pv) (hb : Below W.heap.size W W')
    (hok : ∀ (j : Nat) (t : TypeId) (r : Value), f.resultTypes[j]? = some t → (v.resultList f.resultTypes.size)[j]? = some r → Value.okWide P W' .any 0 t r) :
    s.post enc P f apart fresh handsOn again W args v W' := by
  have hlt : ∀ p ∈ before, p.block < W.heap.size := fun p hp => hW.lt p hp
  have hold : ∀ p ∈ before, (fun b => decide (b < W.heap.size)) p.block = true := fun p hp => by simpa using hlt p hp
  refine ⟨ds, gs, before, [], pa, pv, hW, hres _ _ _, hargs _ hold, hvars _ hold, World.keptBut_mono (fun p hp => ⟨hp, ?_⟩) (hb.frame (· ∈ before)), fun _ => ?_⟩
  · rw [hps, List.mem_append] at hp
    exact Or.inr hp
  · obtain ⟨_, _, _, _, _, hz, hn⟩ := hW
    refine ⟨hok, _, _, ([] ++ pa) ++ pv, ⟨[] ++ pa, pv, trodAll_append (hargs _ (fun _ _ => rfl)) (hres _ _ _), hvars _ (fun _ _ => rfl), rfl, ?_, ?_⟩, ?_⟩
    · intro b off hp
      have hin : MemPlace.cell b off ∈ before := by rw [hps]; simpa using hp
      rw [hb.frozen (hlt _ hin)]
      exact hz b off hin
    · intro ha
      have := hn ha
      rw [hps] at this
      simpa using this
    · intro p hp _
      rw [hps]
      simpa using hp
end
theorem a7Vq {H : Type} {enc : TypeId × Value → H} {a : Assume} {C : Checked} {os : Os} {f : FuncId} {fn : Func} {s : ChangeSpec} {apart fresh handsOn again : Bool} {tb : TypeId} (ts : List TypeId)
    (own : ownKnob C.prog.godebug = none) (started : os.Started) (noInit : C.prog.inits.idxOf? f = none) (hfn : C.prog.funcs[f]? = some fn)
    (witness : ∃ (w : World) (tape : Tape) (i : Input), w.os = os ∧ (w.forCall tape i).Shaped C.prog ∧ i.vars = [] ∧ Input.okWide C.prog (w.forCall tape i) .any w.heap.size f i ∧
      s.pre6 enc C.prog fn [] apart (w.forCall tape i).memory i.args ∧ a.holds C.prog (lone (Frame.enter C.prog f i.args .normal) [] (w.forCall tape i)))
    (hl : laidOutB C.prog = true) (hcl : U5q C.prog ts = true) (hpar : (fn.params.toList.all fun t => C.prog.readableRec t && decide (t < C.prog.types.size) && ts.contains t) = true)
    (hvars : s.vars = []) (hres : fn.resultTypes = #[tb]) (hb : C.prog.underlying tb = some .bool)
    (hs : ∀ ds : List (DataW H), ds.length = fn.params.toList.length → (s.fn H ds).results = [.lit (.bool true)] ∧ (s.fn H ds).args = ds ∧ (s.fn H ds).vars = [])
    (hcall : ∀ xs, a2pq C.prog fn.params.toList xs → ACall C.prog f xs (B true) []) :
    ReturnsInHanded a C os f .any (s.pre6 enc C.prog fn [] apart) (s.post enc C.prog fn apart fresh handsOn again) := by
  refine returnsInHanded_of_change_sized own started noInit hfn witness ?_
  intro W base args ds gs before hval hW _ hsz _
  have hW' := hW
  obtain ⟨p, q, hA, hV, rfl, hfz, hnd⟩ := hW
  rw [hvars] at hV
  obtain ⟨rfl, rfl⟩ := trodVars_none hV
  have hpar' := fun t ht => List.all_eq_true.1 hpar t ht
  simp only [Bool.and_eq_true, decide_eq_true_eq, List.contains_iff_mem] at hpar'
  have hplain : s.plain.varTypes C.prog = [] := by
    have : s.plain.vars = [] := by unfold ChangeSpec.plain; simpa using hvars
    simp [DataSpec.varTypes, this]
  rw [hplain, List.append_nil, List.append_nil] at hsz
  have hlen : ds.length = fn.params.toList.length := by
    have : ∀ (us : List TypeId) (vs : List Value) (ds : List (DataW H)) (p : List MemPlace), DataW.TrodAll enc C.prog W 0 (fun _ => true) true us vs ds p → ds.length = us.length := by
      intro us
      induction us with
      | nil => intro vs ds p h; cases vs <;> cases ds <;> simp [DataW.TrodAll] at h ⊢
      | cons t us ih => intro vs ds p h; cases vs <;> cases ds <;> simp [DataW.TrodAll] at h ⊢; obtain ⟨_, _, q, h2, _⟩ := h; exact ih _ _ _ h2
    exact this _ _ _ _ hA
  obtain ⟨xs, hxs, hrep⟩ := a3Cq (β := fun _ => ⟨0, none, 0, 0, false, [], []⟩) hcl fn.params.toList args.toList ds p (fun t ht => (hpar' t ht).2) (fun j t v h1 h2 => hval j t v (by simpa using h1) (by simpa using h2)) hA (by simpa using hsz)
  have hc := hcall xs hxs W (· < W.heap.size) (fun _ => ⟨0, none, 0, 0, false, [], []⟩) args.toList (fun b hb => hb) hrep
  obtain ⟨s1, s2, s3⟩ := hs (ds ++ []) (by simpa using hlen)
  have hc' : Calls C.prog f args W fun e w' => ∃ v S' β', e = .returned v ∧ Grow W (· < W.heap.size) (fun _ => ⟨0, none, 0, 0, false, [], []⟩) [] w' S' β' ∧ RepV w' S' β' (B true) v := by simpa using hc
  refine hc'.mono fun e W' ⟨v, S', β', he, hg, hv⟩ => ?_
  obtain rfl := hv.bool_inv
  have hbel : Below W.heap.size W W' := ⟨hg.os, hg.tape, hg.output, hg.size, hg.block⟩
  have hlt : ∀ x ∈ p, x.block < W.heap.size := fun x hx => hW'.lt x (by simpa using hx)
  refine ⟨_, he, a4dq (pa := p) (pv := []) hW' (fun b sp hd => ?_) (fun sp hsp => ?_) (fun sp _ => ?_) rfl hbel ?_⟩
  · rw [s1, hres]
    exact trodAll_mk1 (shut_bool hb true)
  · rw [s2, List.append_nil]
    exact Y0q hl _ _ _ _ (fun t ht => (hpar' t ht).1) (fun x hx => ⟨hbel.same (hlt x hx), hsp x (by simpa using hx)⟩) hA
  · rw [s3, hvars]; rfl
  · exact ok_one hres rfl (okWide_bool_mk hb true)
end AM
end Go.Proofs.Ytajcoogpmockiaa
