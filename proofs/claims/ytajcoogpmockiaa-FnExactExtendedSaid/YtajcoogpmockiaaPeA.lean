/- What functions of the program ask, printed by a program of this session's and held against the loaded text by the kernel; no conditions. -/
import Derived.Test.YtajcoogpmockiaaEn
set_option linter.unusedVariables false
set_option maxRecDepth 100000
namespace Go.Proofs.Ytajcoogpmockiaa
namespace AM
open Go
attribute [local irreducible] vC

/-- loop.example/g00461/laws.FnExactPutAt -/
def laws_FnExactPutAt_h : Hints := ⟨[], []⟩
theorem laws_FnExactPutAt_of {p : List (List Da)} {p_1 : Int} {p_11 : Int} {p_12 : List (List Da)} {p_2 : List (List Da)} {p_3 : Int} {p_31 : Int} {p_32 : List (List Da)} {r : AV} {O : List (Nat × Ob)} (h : ifB (decide ((1048576 : Int) < (↑(List.length p_2) : Int)))
  (((B (true)) = r ∧ [] = O))
  ((∃ (n : Int), (XC Try.prog 9 [(L p), (Z ((1048576 : Int)))] [] (Z n) [] ∧ ifB (decide (n < (0 : Int)))
  (((B (true)) = r ∧ [] = O))
  ((∃ (n1 : Int), (XC Try.prog 10 [(.dat [(.int .i64 p_1), (.int .i64 p_11), (.sl p_12)]), (Z n)] [] (Z n1) [] ∧ ifB (decide (n1 < (0 : Int)))
  (((B (true)) = r ∧ [] = O))
  ((∃ (n2 : Int), (XC Try.prog 10 [(.dat [(.int .i64 p_3), (.int .i64 p_31), (.sl p_32)]), (Z n1)] [] (Z n2) [] ∧ ifB (decide (n2 < (0 : Int)))
  (((B (true)) = r ∧ [] = O))
  ((∃ (xs : List (List Da)), (XC Try.prog 12 [(L p)] [] (.one (.ol 0)) [(0, (.tr 99 3 xs))] ∧ (∃ (n3 : Int), (∃ (n4 : Int), (∃ (xs1 : List (List Da)), (XC Try.prog 13 [(.dat [(.int .i64 p_1), (.int .i64 p_11), (.sl p_12)])] [] (.agg [(.d (.int .i64 n3)), (.d (.int .i64 n4)), (.ol 0)]) [(0, (.tr 31 3 xs1))] ∧ (∃ (xs2 : List (List Da)), (XC Try.prog 14 [(L p_2)] [] (.one (.ol 0)) [(0, (.tr 3 1 xs2))] ∧ (∃ (n5 : Int), (∃ (n6 : Int), (∃ (xs3 : List (List Da)), (XC Try.prog 13 [(.dat [(.int .i64 p_3), (.int .i64 p_31), (.sl p_32)])] [] (.agg [(.d (.int .i64 n5)), (.d (.int .i64 n6)), (.ol 0)]) [(0, (.tr 31 3 xs3))] ∧ (∃ (n7 : Int), (∃ (n8 : Int), (∃ (xs4 : List (List Da)), (XC Try.prog 11 [(L xs), (.dat [(.int .i64 n3), (.int .i64 n4), (.sl xs1)]), (L xs2), (.dat [(.int .i64 n5), (.int .i64 n6), (.sl xs3)])] [] (.dat [(.int .i64 n7), (.int .i64 n8), (.sl xs4)]) [] ∧ (∃ (xs5 : List (List Da)), (XC Try.prog 12 [(L p)] [] (.one (.ol 0)) [(0, (.tr 99 3 xs5))] ∧ (∃ (n9 : Int), (∃ (n10 : Int), (∃ (xs6 : List (List Da)), (XC Try.prog 13 [(.dat [(.int .i64 p_1), (.int .i64 p_11), (.sl p_12)])] [] (.agg [(.d (.int .i64 n9)), (.d (.int .i64 n10)), (.ol 0)]) [(0, (.tr 31 3 xs6))] ∧ (∃ (xs7 : List (List Da)), (XC Try.prog 14 [(L p_2)] [] (.one (.ol 0)) [(0, (.tr 3 1 xs7))] ∧ (∃ (n11 : Int), (∃ (n12 : Int), (∃ (xs8 : List (List Da)), (XC Try.prog 13 [(.dat [(.int .i64 p_3), (.int .i64 p_31), (.sl p_32)])] [] (.agg [(.d (.int .i64 n11)), (.d (.int .i64 n12)), (.ol 0)]) [(0, (.tr 31 3 xs8))] ∧ (∃ (n13 : Int), (∃ (n14 : Int), (∃ (xs9 : List (List Da)), (XC Try.prog 15 [(L xs5), (.dat [(.int .i64 n9), (.int .i64 n10), (.sl xs6)]), (L xs7), (.dat [(.int .i64 n11), (.int .i64 n12), (.sl xs8)])] [] (.agg [(.d (.int .i64 n13)), (.d (.int .i64 n14)), (.ol 0)]) [(0, (.tr 31 3 xs9))] ∧ (∃ (b : Bool), (XC Try.prog 16 [(.dat [(.int .i64 n13), (.int .i64 n14), (.sl xs9)]), (.dat [(.int .i64 n7), (.int .i64 n8), (.sl xs4)])] [] (B b) [] ∧ ifB (!b)
  (((B (false)) = r ∧ [] = O))
  ((∃ (xs10 : List (List Da)), (XC Try.prog 12 [(L p)] [] (.one (.ol 0)) [(0, (.tr 99 3 xs10))] ∧ (∃ (b1 : Bool), (XC Try.prog 17 [(L xs5), (L xs10)] [] (B b1) [] ∧ ifB (!b1)
  (((B (false)) = r ∧ [] = O))
  ((∃ (n15 : Int), (∃ (n16 : Int), (∃ (xs11 : List (List Da)), (XC Try.prog 13 [(.dat [(.int .i64 p_1), (.int .i64 p_11), (.sl p_12)])] [] (.agg [(.d (.int .i64 n15)), (.d (.int .i64 n16)), (.ol 0)]) [(0, (.tr 31 3 xs11))] ∧ (∃ (b2 : Bool), (XC Try.prog 16 [(.dat [(.int .i64 n9), (.int .i64 n10), (.sl xs6)]), (.dat [(.int .i64 n15), (.int .i64 n16), (.sl xs11)])] [] (B b2) [] ∧ ifB (!b2)
  (((B (false)) = r ∧ [] = O))
  ((∃ (xs12 : List (List Da)), (XC Try.prog 14 [(L p_2)] [] (.one (.ol 0)) [(0, (.tr 3 1 xs12))] ∧ (∃ (b3 : Bool), (XC Try.prog 18 [(L xs7), (L xs12)] [] (B b3) [] ∧ ifB (!b3)
  (((B (false)) = r ∧ [] = O))
  ((∃ (n17 : Int), (∃ (n18 : Int), (∃ (xs13 : List (List Da)), (XC Try.prog 13 [(.dat [(.int .i64 p_3), (.int .i64 p_31), (.sl p_32)])] [] (.agg [(.d (.int .i64 n17)), (.d (.int .i64 n18)), (.ol 0)]) [(0, (.tr 31 3 xs13))] ∧ (∃ (b4 : Bool), (XC Try.prog 16 [(.dat [(.int .i64 n11), (.int .i64 n12), (.sl xs8)]), (.dat [(.int .i64 n17), (.int .i64 n18), (.sl xs13)])] [] (B b4) [] ∧ ifB (!b4)
  (((B (false)) = r ∧ [] = O))
  ((∃ (n19 : Int), (∃ (xs14 : List (List Da)), (XC Try.prog 19 [(.one (.ol 2000)), (Z ((1 : Int)))] [(2000, (.mt 99 3 xs5))] (Z n19) [(2000, (.mt 99 3 xs14))] ∧ (∃ (n20 : Int), (∃ (xs15 : List (List Da)), (XC Try.prog 20 [(.agg [(.d (.int .i64 n9)), (.d (.int .i64 n10)), (.ol 2000)]), (Z n19)] [(2000, (.mt 31 3 xs6))] (Z n20) [(2000, (.mt 31 3 xs15))] ∧ (∃ (n21 : Int), (∃ (xs16 : List (List Da)), (XC Try.prog 21 [(.one (.ol 2000)), (Z n20)] [(2000, (.mt 3 1 xs7))] (Z n21) [(2000, (.mt 3 1 xs16))] ∧ (∃ (n22 : Int), (∃ (xs17 : List (List Da)), (XC Try.prog 20 [(.agg [(.d (.int .i64 n11)), (.d (.int .i64 n12)), (.ol 2000)]), (Z n21)] [(2000, (.mt 31 3 xs8))] (Z n22) [(2000, (.mt 31 3 xs17))] ∧ ifB (decide (n22 < (0 : Int)))
  (((B (false)) = r ∧ [] = O))
  ((∃ (b5 : Bool), (XC Try.prog 16 [(.dat [(.int .i64 n13), (.int .i64 n14), (.sl xs9)]), (.dat [(.int .i64 n7), (.int .i64 n8), (.sl xs4)])] [] (B b5) [] ∧ ifB (!b5)
  (((B (false)) = r ∧ [] = O))
  ((∃ (n23 : Int), (∃ (xs18 : List (List Da)), (XC Try.prog 20 [(.agg [(.d (.int .i64 n13)), (.d (.int .i64 n14)), (.ol 2000)]), (Z ((1 : Int)))] [(2000, (.mt 31 3 xs9))] (Z n23) [(2000, (.mt 31 3 xs18))] ∧ (∃ (n24 : Int), (XC Try.prog 22 [(.dat [(.int .i64 n13), (.int .i64 n14), (.sl xs18)]), (Z ((1 : Int)))] [] (Z n24) [] ∧ ifB (decide (n24 < (0 : Int)))
  (((B (false)) = r ∧ [] = O))
  (ifB (decide (n24 ≠ n23))
  (((B (false)) = r ∧ [] = O))
  ((∃ (xs19 : List (List Da)), (XC Try.prog 12 [(L p)] [] (.one (.ol 0)) [(0, (.tr 99 3 xs19))] ∧ (∃ (n25 : Int), (∃ (n26 : Int), (∃ (xs20 : List (List Da)), (XC Try.prog 13 [(.dat [(.int .i64 p_1), (.int .i64 p_11), (.sl p_12)])] [] (.agg [(.d (.int .i64 n25)), (.d (.int .i64 n26)), (.ol 0)]) [(0, (.tr 31 3 xs20))] ∧ (∃ (xs21 : List (List Da)), (XC Try.prog 14 [(L p_2)] [] (.one (.ol 0)) [(0, (.tr 3 1 xs21))] ∧ (∃ (n27 : Int), (∃ (n28 : Int), (∃ (xs22 : List (List Da)), (XC Try.prog 13 [(.dat [(.int .i64 p_3), (.int .i64 p_31), (.sl p_32)])] [] (.agg [(.d (.int .i64 n27)), (.d (.int .i64 n28)), (.ol 0)]) [(0, (.tr 31 3 xs22))] ∧ (∃ (n29 : Int), (∃ (n30 : Int), (∃ (xs23 : List (List Da)), (XC Try.prog 15 [(L xs19), (.dat [(.int .i64 n25), (.int .i64 n26), (.sl xs20)]), (L xs21), (.dat [(.int .i64 n27), (.int .i64 n28), (.sl xs22)])] [] (.agg [(.d (.int .i64 n29)), (.d (.int .i64 n30)), (.ol 0)]) [(0, (.tr 31 3 xs23))] ∧ (∃ (b6 : Bool), (XC Try.prog 16 [(.dat [(.int .i64 n29), (.int .i64 n30), (.sl xs23)]), (.dat [(.int .i64 n7), (.int .i64 n8), (.sl xs4)])] [] (B b6) [] ∧ ifB (!b6)
  (((B (false)) = r ∧ [] = O))
  ((∃ (n31 : Int), (XC Try.prog 22 [(.dat [(.int .i64 n13), (.int .i64 n14), (.sl xs18)]), (Z ((1 : Int)))] [] (Z n31) [] ∧ ifB (decide (n31 < (0 : Int)))
  (((B (false)) = r ∧ [] = O))
  (ifB (decide (n31 ≠ n23))
  (((B (false)) = r ∧ [] = O))
  (((B (true)) = r ∧ [] = O))))))))))))))))))))))))))))))))))))))))))))))))))))))))))))))))))))))))))))))))))))))))))))))))))))))))))))))))))))) : XC Try.prog 3 [.one (.d (.sl p)), .dat [.int .i64 p_1, .int .i64 p_11, .sl p_12], .one (.d (.sl p_2)), .dat [.int .i64 p_3, .int .i64 p_31, .sl p_32]] [] r O :=
  xc_of (E := envL) (hs := laws_FnExactPutAt_h) (c := (bodyOf Try.f3)) (n := 136) (res := [.tmp 8]) (rs := .c .b) (ks := []) (dir := []) envLOk mixed rfl Try.func3 (by kernel_rfl) (by kernel_rfl) (by kernel_rfl) (by kernel_rfl) (to_vc (by kernel_rfl) h)

/-- loop.example/g00461/laws.FnExactExtended -/
def laws_FnExactExtended_h : Hints := ⟨[], []⟩
theorem laws_FnExactExtended_of {p : List (List Da)} {p_1 : Int} {p_11 : Int} {p_12 : List (List Da)} {p_13 : Int} {p_14 : Int} {p_15 : List (List Da)} {r : AV} {O : List (Nat × Ob)} (h : (∃ (n : Int), (XC Try.prog 9 [(L p), (Z ((1048576 : Int)))] [] (Z n) [] ∧ ifB (decide (n < (0 : Int)))
  (((B (true)) = r ∧ [] = O))
  ((∃ (n1 : Int), (XC Try.prog 23 [(.dat [(.int .i64 p_1), (.int .i64 p_11), (.sl p_12), (.int .i64 p_13), (.int .i64 p_14), (.sl p_15)]), (Z n)] [] (Z n1) [] ∧ ifB (decide (n1 < (0 : Int)))
  (((B (true)) = r ∧ [] = O))
  ((∃ (xs : List (List Da)), (XC Try.prog 12 [(L p)] [] (.one (.ol 0)) [(0, (.tr 99 3 xs))] ∧ (∃ (n2 : Int), (∃ (n3 : Int), (∃ (xs1 : List (List Da)), (∃ (n4 : Int), (∃ (n5 : Int), (∃ (xs2 : List (List Da)), (XC Try.prog 25 [(.dat [(.int .i64 p_1), (.int .i64 p_11), (.sl p_12), (.int .i64 p_13), (.int .i64 p_14), (.sl p_15)])] [] (.agg [(.d (.int .i64 n2)), (.d (.int .i64 n3)), (.ol 0), (.d (.int .i64 n4)), (.d (.int .i64 n5)), (.ol 1)]) [(0, (.tr 31 3 xs1)), (1, (.tr 31 3 xs2))] ∧ (∃ (n6 : Int), (∃ (n7 : Int), (∃ (xs3 : List (List Da)), (∃ (n8 : Int), (∃ (n9 : Int), (∃ (xs4 : List (List Da)), (∃ (b : Bool), (XC Try.prog 24 [(L xs), (.dat [(.int .i64 n2), (.int .i64 n3), (.sl xs1), (.int .i64 n4), (.int .i64 n5), (.sl xs2)])] [] (.tup [(.dat [(.int .i64 n6), (.int .i64 n7), (.sl xs3), (.int .i64 n8), (.int .i64 n9), (.sl xs4)]), (B b)]) [] ∧ (∃ (xs5 : List (List Da)), (XC Try.prog 12 [(L p)] [] (.one (.ol 0)) [(0, (.tr 99 3 xs5))] ∧ (∃ (n10 : Int), (∃ (n11 : Int), (∃ (xs6 : List (List Da)), (∃ (n12 : Int), (∃ (n13 : Int), (∃ (xs7 : List (List Da)), (XC Try.prog 25 [(.dat [(.int .i64 p_1), (.int .i64 p_11), (.sl p_12), (.int .i64 p_13), (.int .i64 p_14), (.sl p_15)])] [] (.agg [(.d (.int .i64 n10)), (.d (.int .i64 n11)), (.ol 0), (.d (.int .i64 n12)), (.d (.int .i64 n13)), (.ol 1)]) [(0, (.tr 31 3 xs6)), (1, (.tr 31 3 xs7))] ∧ (∃ (n14 : Int), (∃ (n15 : Int), (∃ (xs8 : List (List Da)), (∃ (n16 : Int), (∃ (n17 : Int), (∃ (xs9 : List (List Da)), (∃ (b1 : Bool), (XC Try.prog 26 [(L xs5), (.dat [(.int .i64 n10), (.int .i64 n11), (.sl xs6), (.int .i64 n12), (.int .i64 n13), (.sl xs7)])] [] (.tup [(.agg [(.d (.int .i64 n14)), (.d (.int .i64 n15)), (.ol 0), (.d (.int .i64 n16)), (.d (.int .i64 n17)), (.ol 1)]), (B b1)]) [(0, (.tr 31 3 xs8)), (1, (.tr 31 3 xs9))] ∧ (∃ (b2 : Bool), (XC Try.prog 27 [(.dat [(.int .i64 n14), (.int .i64 n15), (.sl xs8), (.int .i64 n16), (.int .i64 n17), (.sl xs9)]), (.dat [(.int .i64 n6), (.int .i64 n7), (.sl xs3), (.int .i64 n8), (.int .i64 n9), (.sl xs4)])] [] (B b2) [] ∧ ifB (!b2)
  (((B (false)) = r ∧ [] = O))
  (ifB (decide (b1 ≠ b))
  (((B (false)) = r ∧ [] = O))
  ((∃ (xs10 : List (List Da)), (XC Try.prog 12 [(L p)] [] (.one (.ol 0)) [(0, (.tr 99 3 xs10))] ∧ (∃ (b3 : Bool), (XC Try.prog 17 [(L xs5), (L xs10)] [] (B b3) [] ∧ ifB (!b3)
  (((B (false)) = r ∧ [] = O))
  ((∃ (n18 : Int), (∃ (n19 : Int), (∃ (xs11 : List (List Da)), (∃ (n20 : Int), (∃ (n21 : Int), (∃ (xs12 : List (List Da)), (XC Try.prog 25 [(.dat [(.int .i64 p_1), (.int .i64 p_11), (.sl p_12), (.int .i64 p_13), (.int .i64 p_14), (.sl p_15)])] [] (.agg [(.d (.int .i64 n18)), (.d (.int .i64 n19)), (.ol 0), (.d (.int .i64 n20)), (.d (.int .i64 n21)), (.ol 1)]) [(0, (.tr 31 3 xs11)), (1, (.tr 31 3 xs12))] ∧ (∃ (b4 : Bool), (XC Try.prog 27 [(.dat [(.int .i64 n10), (.int .i64 n11), (.sl xs6), (.int .i64 n12), (.int .i64 n13), (.sl xs7)]), (.dat [(.int .i64 n18), (.int .i64 n19), (.sl xs11), (.int .i64 n20), (.int .i64 n21), (.sl xs12)])] [] (B b4) [] ∧ ifB (!b4)
  (((B (false)) = r ∧ [] = O))
  ((∃ (n22 : Int), (∃ (xs13 : List (List Da)), (XC Try.prog 19 [(.one (.ol 2000)), (Z ((1 : Int)))] [(2000, (.mt 99 3 xs5))] (Z n22) [(2000, (.mt 99 3 xs13))] ∧ (∃ (n23 : Int), (∃ (xs14 : List (List Da)), (∃ (xs15 : List (List Da)), (XC Try.prog 28 [(.agg [(.d (.int .i64 n10)), (.d (.int .i64 n11)), (.ol 2000), (.d (.int .i64 n12)), (.d (.int .i64 n13)), (.ol 2001)]), (Z n22)] [(2000, (.mt 31 3 xs6)), (2001, (.mt 31 3 xs7))] (Z n23) [(2000, (.mt 31 3 xs14)), (2001, (.mt 31 3 xs15))] ∧ ifB (decide (n23 < (0 : Int)))
  (((B (false)) = r ∧ [] = O))
  ((∃ (b5 : Bool), (XC Try.prog 27 [(.dat [(.int .i64 n14), (.int .i64 n15), (.sl xs8), (.int .i64 n16), (.int .i64 n17), (.sl xs9)]), (.dat [(.int .i64 n6), (.int .i64 n7), (.sl xs3), (.int .i64 n8), (.int .i64 n9), (.sl xs4)])] [] (B b5) [] ∧ ifB (!b5)
  (((B (false)) = r ∧ [] = O))
  (ifB (decide (b1 ≠ b))
  (((B (false)) = r ∧ [] = O))
  ((∃ (n24 : Int), (∃ (xs16 : List (List Da)), (∃ (xs17 : List (List Da)), (XC Try.prog 28 [(.agg [(.d (.int .i64 n14)), (.d (.int .i64 n15)), (.ol 2000), (.d (.int .i64 n16)), (.d (.int .i64 n17)), (.ol 2001)]), (Z ((1 : Int)))] [(2000, (.mt 31 3 xs8)), (2001, (.mt 31 3 xs9))] (Z n24) [(2000, (.mt 31 3 xs16)), (2001, (.mt 31 3 xs17))] ∧ (∃ (n25 : Int), (XC Try.prog 29 [(.dat [(.int .i64 n14), (.int .i64 n15), (.sl xs16), (.int .i64 n16), (.int .i64 n17), (.sl xs17)]), (Z ((1 : Int)))] [] (Z n25) [] ∧ ifB (decide (n25 < (0 : Int)))
  (((B (false)) = r ∧ [] = O))
  (ifB (decide (n25 ≠ n24))
  (((B (false)) = r ∧ [] = O))
  ((∃ (xs18 : List (List Da)), (XC Try.prog 12 [(L p)] [] (.one (.ol 0)) [(0, (.tr 99 3 xs18))] ∧ (∃ (n26 : Int), (∃ (n27 : Int), (∃ (xs19 : List (List Da)), (∃ (n28 : Int), (∃ (n29 : Int), (∃ (xs20 : List (List Da)), (XC Try.prog 25 [(.dat [(.int .i64 p_1), (.int .i64 p_11), (.sl p_12), (.int .i64 p_13), (.int .i64 p_14), (.sl p_15)])] [] (.agg [(.d (.int .i64 n26)), (.d (.int .i64 n27)), (.ol 0), (.d (.int .i64 n28)), (.d (.int .i64 n29)), (.ol 1)]) [(0, (.tr 31 3 xs19)), (1, (.tr 31 3 xs20))] ∧ (∃ (n30 : Int), (∃ (n31 : Int), (∃ (xs21 : List (List Da)), (∃ (n32 : Int), (∃ (n33 : Int), (∃ (xs22 : List (List Da)), (∃ (b6 : Bool), (XC Try.prog 26 [(L xs18), (.dat [(.int .i64 n26), (.int .i64 n27), (.sl xs19), (.int .i64 n28), (.int .i64 n29), (.sl xs20)])] [] (.tup [(.agg [(.d (.int .i64 n30)), (.d (.int .i64 n31)), (.ol 0), (.d (.int .i64 n32)), (.d (.int .i64 n33)), (.ol 1)]), (B b6)]) [(0, (.tr 31 3 xs21)), (1, (.tr 31 3 xs22))] ∧ (∃ (b7 : Bool), (XC Try.prog 27 [(.dat [(.int .i64 n30), (.int .i64 n31), (.sl xs21), (.int .i64 n32), (.int .i64 n33), (.sl xs22)]), (.dat [(.int .i64 n6), (.int .i64 n7), (.sl xs3), (.int .i64 n8), (.int .i64 n9), (.sl xs4)])] [] (B b7) [] ∧ ifB (!b7)
  (((B (false)) = r ∧ [] = O))
  (ifB (decide (b6 ≠ b))
  (((B (false)) = r ∧ [] = O))
  ((∃ (n34 : Int), (XC Try.prog 29 [(.dat [(.int .i64 n14), (.int .i64 n15), (.sl xs16), (.int .i64 n16), (.int .i64 n17), (.sl xs17)]), (Z ((1 : Int)))] [] (Z n34) [] ∧ ifB (decide (n34 < (0 : Int)))
  (((B (false)) = r ∧ [] = O))
  (ifB (decide (n34 ≠ n24))
  (((B (false)) = r ∧ [] = O))
  (((B (true)) = r ∧ [] = O)))))))))))))))))))))))))))))))))))))))))))))))))))))))))))))))))))))))))))))))))))))))))))))))))))))))))) : XC Try.prog 4 [.one (.d (.sl p)), .dat [.int .i64 p_1, .int .i64 p_11, .sl p_12, .int .i64 p_13, .int .i64 p_14, .sl p_15]] [] r O :=
  xc_of (E := envL) (hs := laws_FnExactExtended_h) (c := (bodyOf Try.f4)) (n := 119) (res := [.tmp 4]) (rs := .c .b) (ks := []) (dir := []) envLOk mixed rfl Try.func4 (by kernel_rfl) (by kernel_rfl) (by kernel_rfl) (by kernel_rfl) (to_vc (by kernel_rfl) h)

/-- loop.example/g00461/impl.compare -/
def impl_compare_h : Hints := ⟨[(2, ⟨[2, 3, 26, 27, 28], [], [], [], [], [], []⟩), (10, ⟨[2, 3, 47, 48], [], [], [], [], [], []⟩)], []⟩
def impl_compare_L2 (r : AV) (O : List (Nat × Ob)) (s27 : Int) (s28 : Int) (s2 : Int) (s21 : Int) (s22 : List (List Da)) (s3 : Int) (s31 : Int) (s32 : List (List Da)) (s26 : List (List Da)) : Prop := CL 66 Try.prog (subC (bodyOf Try.f105) [1, 0, 1, 0, 0]) (kont Try.prog env impl_compare_h 66 (bodyOf Try.f105) [1, 0, 1, 0, 0] (vRet env [.tmp 4] (.c (.i .i64)) [] [] r O) (retKE (vRet env [.tmp 4] (.c (.i .i64)) [] [] r O))).1 (kont Try.prog env impl_compare_h 66 (bodyOf Try.f105) [1, 0, 1, 0, 0] (vRet env [.tmp 4] (.c (.i .i64)) [] [] r O) (retKE (vRet env [.tmp 4] (.c (.i .i64)) [] [] r O))).2 ⟨[(2, (.one (.op 1900 0))), (3, (.one (.op 1901 0))), (26, (.one (.ol 1902))), (27, (Z s27)), (28, (Z s28))], [(1900, (.var [(.d (.int .i64 s2)), (.d (.int .i64 s21)), (.d (.sl s22))])), (1901, (.var [(.d (.int .i64 s3)), (.d (.int .i64 s31)), (.d (.sl s32))])), (1902, (.tr 142 2 s26))]⟩
def impl_compare_L10 (r : AV) (O : List (Nat × Ob)) (s47 : Int) (s48 : Int) (s2 : Int) (s21 : Int) (s22 : List (List Da)) (s3 : Int) (s31 : Int) (s32 : List (List Da)) : Prop := CL 66 Try.prog (subC (bodyOf Try.f105) [1, 1, 0, 1, 0, 0]) (kont Try.prog env impl_compare_h 66 (bodyOf Try.f105) [1, 1, 0, 1, 0, 0] (vRet env [.tmp 4] (.c (.i .i64)) [] [] r O) (retKE (vRet env [.tmp 4] (.c (.i .i64)) [] [] r O))).1 (kont Try.prog env impl_compare_h 66 (bodyOf Try.f105) [1, 1, 0, 1, 0, 0] (vRet env [.tmp 4] (.c (.i .i64)) [] [] r O) (retKE (vRet env [.tmp 4] (.c (.i .i64)) [] [] r O))).2 ⟨[(2, (.one (.op 1900 0))), (3, (.one (.op 1901 0))), (47, (Z s47)), (48, (Z s48))], [(1900, (.var [(.d (.int .i64 s2)), (.d (.int .i64 s21)), (.d (.sl s22))])), (1901, (.var [(.d (.int .i64 s3)), (.d (.int .i64 s31)), (.d (.sl s32))]))]⟩
theorem impl_compare_L2_of {r : AV} {O : List (Nat × Ob)} {s27 : Int} {s28 : Int} {s2 : Int} {s21 : Int} {s22 : List (List Da)} {s3 : Int} {s31 : Int} {s32 : List (List Da)} {s26 : List (List Da)} (h : ifB (decide (s28 < s27))
  ((∃ (m : Nat), (s28 = ((↑m : Int)) ∧ (Do (m < List.length s26) ∧ (∃ (n : Nat), ((m * (2 : Nat)) = (n * (2 : Nat)) ∧ (∃ (n1 : Int), (∃ (n2 : Int), ((s26[n]?) = some [(.int .i64 n1), (.int .i64 n2)] ∧ ifB (decide (n1 < n2))
  (((Z ((-1 : Int))) = r ∧ [] = O))
  (ifB (decide (n2 < n1))
  (((Z ((1 : Int))) = r ∧ [] = O))
  (impl_compare_L2 r O s27 (IntKind.wrap IntKind.i64 (s28 + (1 : Int))) s2 s21 s22 s3 s31 s32 s26)))))))))))
  (impl_compare_L10 r O ((↑(List.length s22) : Int)) ((0 : Int)) s2 s21 s22 s3 s31 s32)) : impl_compare_L2 r O s27 s28 s2 s21 s22 s3 s31 s32 s26 := by
  unfold impl_compare_L2
  refine cl_of (E := env) (hs := impl_compare_h) envOk mixed ?_
  exact to_vc (by kernel_rfl) h
theorem impl_compare_L10_of {r : AV} {O : List (Nat × Ob)} {s47 : Int} {s48 : Int} {s2 : Int} {s21 : Int} {s22 : List (List Da)} {s3 : Int} {s31 : Int} {s32 : List (List Da)} (h : ifB (decide (s48 < s47))
  ((∃ (m : Nat), (s48 = ((↑m : Int)) ∧ (∃ (n : Int), (∃ (n1 : Int), (∃ (xs : List (List Da)), ((s22[m]?) = some [(.int .i64 n), (.int .i64 n1), (.sl xs)] ∧ (∃ (m1 : Nat), (s48 = ((↑m1 : Int)) ∧ (∃ (n2 : Int), (∃ (n3 : Int), (∃ (xs1 : List (List Da)), ((s32[m1]?) = some [(.int .i64 n2), (.int .i64 n3), (.sl xs1)] ∧ (∃ (n4 : Int), (XC Try.prog 105 [(.dat [(.int .i64 n), (.int .i64 n1), (.sl xs)]), (.dat [(.int .i64 n2), (.int .i64 n3), (.sl xs1)])] [] (Z n4) [] ∧ ifB (decide (n4 ≠ (0 : Int)))
  (((Z n4) = r ∧ [] = O))
  (impl_compare_L10 r O s47 (IntKind.wrap IntKind.i64 (s48 + (1 : Int))) s2 s21 s22 s3 s31 s32))))))))))))))))
  (((Z ((0 : Int))) = r ∧ [] = O))) : impl_compare_L10 r O s47 s48 s2 s21 s22 s3 s31 s32 := by
  unfold impl_compare_L10
  refine cl_of (E := env) (hs := impl_compare_h) envOk mixed ?_
  exact to_vc (by kernel_rfl) h
theorem impl_compare_of {p : Int} {p1 : Int} {p2 : List (List Da)} {p_1 : Int} {p_11 : Int} {p_12 : List (List Da)} {r : AV} {O : List (Nat × Ob)} (h : impl_compare_L2 r O ((↑(List.length [[Da.int IntKind.i64 p, Da.int IntKind.i64 p_1], [Da.int IntKind.i64 p1, Da.int IntKind.i64 p_11], [Da.int IntKind.i64 (↑(List.length p2) : Int), Da.int IntKind.i64 (↑(List.length p_12) : Int)]]) : Int)) ((0 : Int)) p p1 p2 p_1 p_11 p_12 [[(.int .i64 p), (.int .i64 p_1)], [(.int .i64 p1), (.int .i64 p_11)], [(.int .i64 ((↑(List.length p2) : Int))), (.int .i64 ((↑(List.length p_12) : Int)))]]) : XC Try.prog 105 [.dat [.int .i64 p, .int .i64 p1, .sl p2], .dat [.int .i64 p_1, .int .i64 p_11, .sl p_12]] [] r O :=
  xc_of (E := env) (hs := impl_compare_h) (c := (bodyOf Try.f105)) (n := 66) (res := [.tmp 4]) (rs := .c (.i .i64)) (ks := []) (dir := []) envOk mixed rfl Try.func105 (by kernel_rfl) (by kernel_rfl) (by kernel_rfl) (by kernel_rfl) (to_vc (by kernel_rfl) h)

/-- loop.example/g00461/laws.szSymS -/
def laws_szSymS_h : Hints := ⟨[(5, ⟨[0, 1, 5], [], [], [], [], [], []⟩)], []⟩
def laws_szSymS_L5 (r : AV) (O : List (Nat × Ob)) (a : List (List Da)) (left : Int) (i : Int) : Prop := CL 27 Try.prog (subC (bodyOf Try.f9) [1, 1, 1, 0, 1, 0, 0]) (kont Try.prog env laws_szSymS_h 27 (bodyOf Try.f9) [1, 1, 1, 0, 1, 0, 0] (vRet env [.tmp 4] (.c (.i .i64)) [] [] r O) (retKE (vRet env [.tmp 4] (.c (.i .i64)) [] [] r O))).1 (kont Try.prog env laws_szSymS_h 27 (bodyOf Try.f9) [1, 1, 1, 0, 1, 0, 0] (vRet env [.tmp 4] (.c (.i .i64)) [] [] r O) (retKE (vRet env [.tmp 4] (.c (.i .i64)) [] [] r O))).2 ⟨[(0, (L a)), (1, (Z left)), (5, (Z i))], []⟩
theorem laws_szSymS_L5_of {r : AV} {O : List (Nat × Ob)} {a : List (List Da)} {left : Int} {i : Int} (h : ifB (decide (i < (↑(List.length a) : Int)))
  ((∃ (m : Nat), (i = ((↑m : Int)) ∧ (∃ (q : ByteArray), (∃ (n : Int), (∃ (b : Bool), ((a[m]?) = some [(.str q), (.int .i64 n), (.bool b)] ∧ (∃ (n1 : Int), (XC Try.prog 56 [(.dat [(.str q), (.int .i64 n), (.bool b)]), (Z left)] [] (Z n1) [] ∧ ifB (decide (n1 < (0 : Int)))
  (((Z ((-1 : Int))) = r ∧ [] = O))
  (laws_szSymS_L5 r O a n1 (IntKind.wrap IntKind.i64 (i + (1 : Int)))))))))))))
  (((Z left) = r ∧ [] = O))) : laws_szSymS_L5 r O a left i := by
  unfold laws_szSymS_L5
  refine cl_of (E := env) (hs := laws_szSymS_h) envOk mixed ?_
  exact to_vc (by kernel_rfl) h
theorem laws_szSymS_of {a : List (List Da)} {left : Int} {r : AV} {O : List (Nat × Ob)} (h : ifB (decide (IntKind.wrap IntKind.i64 (left - (↑(List.length a) : Int)) < (0 : Int)))
  (((Z ((-1 : Int))) = r ∧ [] = O))
  (laws_szSymS_L5 r O a (IntKind.wrap IntKind.i64 (left - (↑(List.length a) : Int))) ((0 : Int)))) : XC Try.prog 9 [(L a), (Z left)] [] r O :=
  xc_of (E := env) (hs := laws_szSymS_h) (c := (bodyOf Try.f9)) (n := 27) (res := [.tmp 4]) (rs := .c (.i .i64)) (ks := []) (dir := []) envOk mixed rfl Try.func9 (by kernel_rfl) (by kernel_rfl) (by kernel_rfl) (by kernel_rfl) (to_vc (by kernel_rfl) h)

/-- loop.example/g00461/laws.szTerm -/
def laws_szTerm_h : Hints := ⟨[], []⟩
theorem laws_szTerm_of {a : Int} {a1 : Int} {a2 : List (List Da)} {left : Int} {r : AV} {O : List (Nat × Ob)} (h : (∃ (n : Int), (XC Try.prog 57 [(L a2), (Z left)] [] (Z n) [] ∧ ifB (decide (n < (0 : Int)))
  (((Z ((-1 : Int))) = r ∧ [] = O))
  (((Z n) = r ∧ [] = O))))) : XC Try.prog 10 [(.dat [(.int .i64 a), (.int .i64 a1), (.sl a2)]), (Z left)] [] r O :=
  xc_of (E := env) (hs := laws_szTerm_h) (c := (bodyOf Try.f10)) (n := 12) (res := [.tmp 4]) (rs := .c (.i .i64)) (ks := []) (dir := []) envOk mixed rfl Try.func10 (by kernel_rfl) (by kernel_rfl) (by kernel_rfl) (by kernel_rfl) (to_vc (by kernel_rfl) h)

/-- loop.example/g00461/laws.toSymS -/
def laws_toSymS_h : Hints := ⟨[(3, ⟨[0, 3, 4], [], [], [], [], [], []⟩)], []⟩
def laws_toSymS_L3 (r : AV) (O : List (Nat × Ob)) (a : List (List Da)) (i : Int) (out : List (List Da)) : Prop := CL 23 Try.prog (subC (bodyOf Try.f12) [1, 1, 0, 1, 0, 0]) (kont Try.prog env laws_toSymS_h 23 (bodyOf Try.f12) [1, 1, 0, 1, 0, 0] (vRet env [.tmp 2] (.o 99 3) [] [] r O) (retKE (vRet env [.tmp 2] (.o 99 3) [] [] r O))).1 (kont Try.prog env laws_toSymS_h 23 (bodyOf Try.f12) [1, 1, 0, 1, 0, 0] (vRet env [.tmp 2] (.o 99 3) [] [] r O) (retKE (vRet env [.tmp 2] (.o 99 3) [] [] r O))).2 ⟨[(0, (L a)), (3, (.one (.ol 1900))), (4, (Z i))], [(1900, (.tr 99 3 out))]⟩
theorem laws_toSymS_L3_of {r : AV} {O : List (Nat × Ob)} {a : List (List Da)} {i : Int} {out : List (List Da)} (h : ifB (decide (i < (↑(List.length a) : Int)))
  ((∃ (m : Nat), (i = ((↑m : Int)) ∧ (∃ (q : ByteArray), (∃ (n : Int), (∃ (b : Bool), ((a[m]?) = some [(.str q), (.int .i64 n), (.bool b)] ∧ (∃ (q1 : ByteArray), (∃ (n1 : Int), (∃ (b1 : Bool), (XC Try.prog 61 [(.dat [(.str q), (.int .i64 n), (.bool b)])] [] (.dat [(.str q1), (.int .i64 n1), (.bool b1)]) [] ∧ (∃ (m1 : Nat), (i = ((↑m1 : Int)) ∧ (Do (m1 < List.length out) ∧ (∃ (m2 : Nat), ((m1 * (3 : Nat)) = (m2 * (3 : Nat) + (0 : Nat)) ∧ (∃ (q2 : ByteArray), (∃ (n2 : Int), (∃ (b2 : Bool), ((out[m2]?) = some [(.str q2), (.int .i64 n2), (.bool b2)] ∧ laws_toSymS_L3 r O a (IntKind.wrap IntKind.i64 (i + (1 : Int))) (List.set out m2 ([] ++ [Da.str q1, Da.int IntKind.i64 n1, Da.bool b1] ++ []))))))))))))))))))))))
  (((.one (.ol 0)) = r ∧ [(0, (.tr 99 3 out))] = O))) : laws_toSymS_L3 r O a i out := by
  unfold laws_toSymS_L3
  refine cl_of (E := env) (hs := laws_toSymS_h) envOk mixed ?_
  exact to_vc (by kernel_rfl) h
theorem laws_toSymS_of {a : List (List Da)} {r : AV} {O : List (Nat × Ob)} (h : (∃ (l : Nat), (∃ (c : Nat), (((↑(List.length a) : Int)) = ((↑l : Int)) ∧ (((↑(List.length a) : Int)) = ((↑c : Int)) ∧ (Do (l ≤ c ∧ (32 : Nat) * c ≤ (281474976710656 : Nat) ∧ c ≤ (281474976710656 : Nat)) ∧ laws_toSymS_L3 r O a ((0 : Int)) (List.replicate l [Da.str { data := #[] }, Da.int IntKind.i64 (0 : Int), Da.bool false]))))))) : XC Try.prog 12 [(L a)] [] r O :=
  xc_of (E := env) (hs := laws_toSymS_h) (c := (bodyOf Try.f12)) (n := 23) (res := [.tmp 2]) (rs := .o 99 3) (ks := []) (dir := []) envOk mixed rfl Try.func12 (by kernel_rfl) (by kernel_rfl) (by kernel_rfl) (by kernel_rfl) (to_vc (by kernel_rfl) h)

/-- loop.example/g00461/laws.toTerm -/
def laws_toTerm_h : Hints := ⟨[], []⟩
theorem laws_toTerm_of {a : Int} {a1 : Int} {a2 : List (List Da)} {r : AV} {O : List (Nat × Ob)} (h : (∃ (xs : List (List Da)), (XC Try.prog 62 [(L a2)] [] (.one (.ol 0)) [(0, (.tr 31 3 xs))] ∧ ((.agg [(.d (.int .i64 a)), (.d (.int .i64 a1)), (.ol 0)]) = r ∧ [(0, (.tr 31 3 xs))] = O)))) : XC Try.prog 13 [(.dat [(.int .i64 a), (.int .i64 a1), (.sl a2)])] [] r O :=
  xc_of (E := env) (hs := laws_toTerm_h) (c := (bodyOf Try.f13)) (n := 15) (res := [.cell 2 31]) (rs := .s [.k (.i .i64), .k (.i .i64), .o 31 3]) (ks := []) (dir := []) envOk mixed rfl Try.func13 (by kernel_rfl) (by kernel_rfl) (by kernel_rfl) (by kernel_rfl) (to_vc (by kernel_rfl) h)

/-- loop.example/g00461/laws.toIntS -/
def laws_toIntS_h : Hints := ⟨[(3, ⟨[0, 3, 4], [], [], [], [], [], []⟩)], []⟩
def laws_toIntS_L3 (r : AV) (O : List (Nat × Ob)) (a : List (List Da)) (i : Int) (out : List (List Da)) : Prop := CL 22 Try.prog (subC (bodyOf Try.f14) [1, 1, 0, 1, 0, 0]) (kont Try.prog env laws_toIntS_h 22 (bodyOf Try.f14) [1, 1, 0, 1, 0, 0] (vRet env [.tmp 2] (.o 3 1) [] [] r O) (retKE (vRet env [.tmp 2] (.o 3 1) [] [] r O))).1 (kont Try.prog env laws_toIntS_h 22 (bodyOf Try.f14) [1, 1, 0, 1, 0, 0] (vRet env [.tmp 2] (.o 3 1) [] [] r O) (retKE (vRet env [.tmp 2] (.o 3 1) [] [] r O))).2 ⟨[(0, (L a)), (3, (.one (.ol 1900))), (4, (Z i))], [(1900, (.tr 3 1 out))]⟩
theorem laws_toIntS_L3_of {r : AV} {O : List (Nat × Ob)} {a : List (List Da)} {i : Int} {out : List (List Da)} (h : ifB (decide (i < (↑(List.length a) : Int)))
  ((∃ (m : Nat), (i = ((↑m : Int)) ∧ (∃ (n : Int), ((a[m]?) = some [(.int .i64 n)] ∧ (∃ (m1 : Nat), (i = ((↑m1 : Int)) ∧ (Do (m1 < List.length out) ∧ (∃ (m2 : Nat), ((m1 * (1 : Nat)) = (m2 * (1 : Nat) + (0 : Nat)) ∧ (∃ (n1 : Int), ((out[m2]?) = some [(.int .i64 n1)] ∧ laws_toIntS_L3 r O a (IntKind.wrap IntKind.i64 (i + (1 : Int))) (List.set out m2 ([] ++ [Da.int IntKind.i64 n] ++ []))))))))))))))
  (((.one (.ol 0)) = r ∧ [(0, (.tr 3 1 out))] = O))) : laws_toIntS_L3 r O a i out := by
  unfold laws_toIntS_L3
  refine cl_of (E := env) (hs := laws_toIntS_h) envOk mixed ?_
  exact to_vc (by kernel_rfl) h
theorem laws_toIntS_of {a : List (List Da)} {r : AV} {O : List (Nat × Ob)} (h : (∃ (l : Nat), (∃ (c : Nat), (((↑(List.length a) : Int)) = ((↑l : Int)) ∧ (((↑(List.length a) : Int)) = ((↑c : Int)) ∧ (Do (l ≤ c ∧ (8 : Nat) * c ≤ (281474976710656 : Nat) ∧ c ≤ (281474976710656 : Nat)) ∧ laws_toIntS_L3 r O a ((0 : Int)) (List.replicate l [Da.int IntKind.i64 (0 : Int)]))))))) : XC Try.prog 14 [(L a)] [] r O :=
  xc_of (E := env) (hs := laws_toIntS_h) (c := (bodyOf Try.f14)) (n := 22) (res := [.tmp 2]) (rs := .o 3 1) (ks := []) (dir := []) envOk mixed rfl Try.func14 (by kernel_rfl) (by kernel_rfl) (by kernel_rfl) (by kernel_rfl) (to_vc (by kernel_rfl) h)

/-- loop.example/g00461/spec.PutAt -/
def spec_PutAt_h : Hints := ⟨[], []⟩
theorem spec_PutAt_of {s : List (List Da)} {t : Int} {t1 : Int} {t2 : List (List Da)} {way : List (List Da)} {x : Int} {x1 : Int} {x2 : List (List Da)} {r : AV} {O : List (Nat × Ob)} (h : (∃ (n : Int), (∃ (n1 : Int), (∃ (xs : List (List Da)), (∃ (b : Bool), (XC Try.prog 58 [(.dat [(.int .i64 t), (.int .i64 t1), (.sl t2)]), (L way)] [] (.tup [(.dat [(.int .i64 n), (.int .i64 n1), (.sl xs)]), (B b)]) [] ∧ ifB (!b)
  ((∃ (n2 : Int), (∃ (n3 : Int), (∃ (xs1 : List (List Da)), (XC Try.prog 59 [(L s), (.dat [(.int .i64 t), (.int .i64 t1), (.sl t2)])] [] (.dat [(.int .i64 n2), (.int .i64 n3), (.sl xs1)]) [] ∧ ((.dat [(.int .i64 n2), (.int .i64 n3), (.sl xs1)]) = r ∧ [] = O))))))
  ((∃ (n4 : Int), (∃ (n5 : Int), (∃ (xs2 : List (List Da)), (XC Try.prog 60 [(.dat [(.int .i64 t), (.int .i64 t1), (.sl t2)]), (L way), (.dat [(.int .i64 x), (.int .i64 x1), (.sl x2)])] [] (.dat [(.int .i64 n4), (.int .i64 n5), (.sl xs2)]) [] ∧ (∃ (n6 : Int), (∃ (n7 : Int), (∃ (xs3 : List (List Da)), (XC Try.prog 59 [(L s), (.dat [(.int .i64 n4), (.int .i64 n5), (.sl xs2)])] [] (.dat [(.int .i64 n6), (.int .i64 n7), (.sl xs3)]) [] ∧ ((.dat [(.int .i64 n6), (.int .i64 n7), (.sl xs3)]) = r ∧ [] = O)))))))))))))))) : XC Try.prog 11 [(L s), (.dat [(.int .i64 t), (.int .i64 t1), (.sl t2)]), (L way), (.dat [(.int .i64 x), (.int .i64 x1), (.sl x2)])] [] r O :=
  xc_of (E := env) (hs := spec_PutAt_h) (c := (bodyOf Try.f11)) (n := 28) (res := [.cell 8 31]) (rs := .d [(.i .i64), (.i .i64), .l]) (ks := []) (dir := []) envOk mixed rfl Try.func11 (by kernel_rfl) (by kernel_rfl) (by kernel_rfl) (by kernel_rfl) (to_vc (by kernel_rfl) h)

/-- loop.example/g00461/impl.PutAt -/
def impl_PutAt_h : Hints := ⟨[], []⟩
theorem impl_PutAt_of {s : List (List Da)} {t : Int} {t1 : Int} {t2 : List (List Da)} {way : List (List Da)} {x : Int} {x1 : Int} {x2 : List (List Da)} {r : AV} {O : List (Nat × Ob)} (h : (∃ (n : Int), (∃ (n1 : Int), (∃ (xs : List (List Da)), (∃ (b : Bool), (XC Try.prog 63 [(.dat [(.int .i64 t), (.int .i64 t1), (.sl t2)]), (L way)] [] (.tup [(.agg [(.d (.int .i64 n)), (.d (.int .i64 n1)), (.ol 0)]), (B b)]) [(0, (.tr 31 3 xs))] ∧ ifB b
  ((∃ (n2 : Int), (∃ (n3 : Int), (∃ (xs1 : List (List Da)), (XC Try.prog 64 [(.dat [(.int .i64 t), (.int .i64 t1), (.sl t2)]), (L way), (.dat [(.int .i64 x), (.int .i64 x1), (.sl x2)])] [] (.dat [(.int .i64 n2), (.int .i64 n3), (.sl xs1)]) [] ∧ (∃ (n4 : Int), (∃ (n5 : Int), (∃ (xs2 : List (List Da)), (XC Try.prog 65 [(L s), (.dat [(.int .i64 n2), (.int .i64 n3), (.sl xs1)])] [] (.agg [(.d (.int .i64 n4)), (.d (.int .i64 n5)), (.ol 0)]) [(0, (.tr 31 3 xs2))] ∧ ((.agg [(.d (.int .i64 n4)), (.d (.int .i64 n5)), (.ol 0)]) = r ∧ [(0, (.tr 31 3 xs2))] = O))))))))))
  ((∃ (n6 : Int), (∃ (n7 : Int), (∃ (xs3 : List (List Da)), (XC Try.prog 65 [(L s), (.dat [(.int .i64 t), (.int .i64 t1), (.sl t2)])] [] (.agg [(.d (.int .i64 n6)), (.d (.int .i64 n7)), (.ol 0)]) [(0, (.tr 31 3 xs3))] ∧ ((.agg [(.d (.int .i64 n6)), (.d (.int .i64 n7)), (.ol 0)]) = r ∧ [(0, (.tr 31 3 xs3))] = O)))))))))))) : XC Try.prog 15 [(L s), (.dat [(.int .i64 t), (.int .i64 t1), (.sl t2)]), (L way), (.dat [(.int .i64 x), (.int .i64 x1), (.sl x2)])] [] r O :=
  xc_of (E := env) (hs := impl_PutAt_h) (c := (bodyOf Try.f15)) (n := 25) (res := [.cell 8 31]) (rs := .s [.k (.i .i64), .k (.i .i64), .o 31 3]) (ks := []) (dir := []) envOk mixed rfl Try.func15 (by kernel_rfl) (by kernel_rfl) (by kernel_rfl) (by kernel_rfl) (to_vc (by kernel_rfl) h)

/-- loop.example/g00461/laws.eqTerm -/
def laws_eqTerm_h : Hints := ⟨[], []⟩
theorem laws_eqTerm_of {a : Int} {a1 : Int} {a2 : List (List Da)} {b : Int} {b1 : Int} {b2 : List (List Da)} {r : AV} {O : List (Nat × Ob)} (h : ifB (decide (a ≠ b))
  (((B (false)) = r ∧ [] = O))
  (ifB (decide (a1 ≠ b1))
  (((B (false)) = r ∧ [] = O))
  ((∃ (b3 : Bool), (XC Try.prog 66 [(L a2), (L b2)] [] (B b3) [] ∧ ifB (!b3)
  (((B (false)) = r ∧ [] = O))
  (((B (true)) = r ∧ [] = O))))))) : XC Try.prog 16 [(.dat [(.int .i64 a), (.int .i64 a1), (.sl a2)]), (.dat [(.int .i64 b), (.int .i64 b1), (.sl b2)])] [] r O :=
  xc_of (E := env) (hs := laws_eqTerm_h) (c := (bodyOf Try.f16)) (n := 21) (res := [.tmp 4]) (rs := .c .b) (ks := []) (dir := []) envOk mixed rfl Try.func16 (by kernel_rfl) (by kernel_rfl) (by kernel_rfl) (by kernel_rfl) (to_vc (by kernel_rfl) h)

/-- loop.example/g00461/laws.eqSymS -/
def laws_eqSymS_h : Hints := ⟨[(4, ⟨[0, 1, 5], [], [], [], [], [], []⟩)], []⟩
def laws_eqSymS_L4 (r : AV) (O : List (Nat × Ob)) (a : List (List Da)) (b : List (List Da)) (i : Int) : Prop := CL 27 Try.prog (subC (bodyOf Try.f17) [1, 1, 0, 1, 0, 0]) (kont Try.prog env laws_eqSymS_h 27 (bodyOf Try.f17) [1, 1, 0, 1, 0, 0] (vRet env [.tmp 4] (.c .b) [] [] r O) (retKE (vRet env [.tmp 4] (.c .b) [] [] r O))).1 (kont Try.prog env laws_eqSymS_h 27 (bodyOf Try.f17) [1, 1, 0, 1, 0, 0] (vRet env [.tmp 4] (.c .b) [] [] r O) (retKE (vRet env [.tmp 4] (.c .b) [] [] r O))).2 ⟨[(0, (L a)), (1, (L b)), (5, (Z i))], []⟩
theorem laws_eqSymS_L4_of {r : AV} {O : List (Nat × Ob)} {a : List (List Da)} {b : List (List Da)} {i : Int} (h : ifB (decide (i < (↑(List.length a) : Int)))
  ((∃ (m : Nat), (i = ((↑m : Int)) ∧ (∃ (q : ByteArray), (∃ (n : Int), (∃ (b2 : Bool), ((a[m]?) = some [(.str q), (.int .i64 n), (.bool b2)] ∧ (∃ (m1 : Nat), (i = ((↑m1 : Int)) ∧ (∃ (q1 : ByteArray), (∃ (n1 : Int), (∃ (b3 : Bool), ((b[m1]?) = some [(.str q1), (.int .i64 n1), (.bool b3)] ∧ (∃ (b4 : Bool), (XC Try.prog 67 [(.dat [(.str q), (.int .i64 n), (.bool b2)]), (.dat [(.str q1), (.int .i64 n1), (.bool b3)])] [] (B b4) [] ∧ ifB (!b4)
  (((B (false)) = r ∧ [] = O))
  (laws_eqSymS_L4 r O a b (IntKind.wrap IntKind.i64 (i + (1 : Int)))))))))))))))))))
  (((B (true)) = r ∧ [] = O))) : laws_eqSymS_L4 r O a b i := by
  unfold laws_eqSymS_L4
  refine cl_of (E := env) (hs := laws_eqSymS_h) envOk mixed ?_
  exact to_vc (by kernel_rfl) h
theorem laws_eqSymS_of {a : List (List Da)} {b : List (List Da)} {r : AV} {O : List (Nat × Ob)} (h : ifB (decide ((↑(List.length a) : Int) ≠ (↑(List.length b) : Int)))
  (((B (false)) = r ∧ [] = O))
  (laws_eqSymS_L4 r O a b ((0 : Int)))) : XC Try.prog 17 [(L a), (L b)] [] r O :=
  xc_of (E := env) (hs := laws_eqSymS_h) (c := (bodyOf Try.f17)) (n := 27) (res := [.tmp 4]) (rs := .c .b) (ks := []) (dir := []) envOk mixed rfl Try.func17 (by kernel_rfl) (by kernel_rfl) (by kernel_rfl) (by kernel_rfl) (to_vc (by kernel_rfl) h)

/-- loop.example/g00461/laws.eqIntS -/
def laws_eqIntS_h : Hints := ⟨[(4, ⟨[0, 1, 5], [], [], [], [], [], []⟩)], []⟩
def laws_eqIntS_L4 (r : AV) (O : List (Nat × Ob)) (a : List (List Da)) (b : List (List Da)) (i : Int) : Prop := CL 26 Try.prog (subC (bodyOf Try.f18) [1, 1, 0, 1, 0, 0]) (kont Try.prog env laws_eqIntS_h 26 (bodyOf Try.f18) [1, 1, 0, 1, 0, 0] (vRet env [.tmp 4] (.c .b) [] [] r O) (retKE (vRet env [.tmp 4] (.c .b) [] [] r O))).1 (kont Try.prog env laws_eqIntS_h 26 (bodyOf Try.f18) [1, 1, 0, 1, 0, 0] (vRet env [.tmp 4] (.c .b) [] [] r O) (retKE (vRet env [.tmp 4] (.c .b) [] [] r O))).2 ⟨[(0, (L a)), (1, (L b)), (5, (Z i))], []⟩
theorem laws_eqIntS_L4_of {r : AV} {O : List (Nat × Ob)} {a : List (List Da)} {b : List (List Da)} {i : Int} (h : ifB (decide (i < (↑(List.length a) : Int)))
  ((∃ (m : Nat), (i = ((↑m : Int)) ∧ (∃ (n : Int), ((a[m]?) = some [(.int .i64 n)] ∧ (∃ (m1 : Nat), (i = ((↑m1 : Int)) ∧ (∃ (n1 : Int), ((b[m1]?) = some [(.int .i64 n1)] ∧ ifB (decide (n ≠ n1))
  (((B (false)) = r ∧ [] = O))
  (laws_eqIntS_L4 r O a b (IntKind.wrap IntKind.i64 (i + (1 : Int)))))))))))))
  (((B (true)) = r ∧ [] = O))) : laws_eqIntS_L4 r O a b i := by
  unfold laws_eqIntS_L4
  refine cl_of (E := env) (hs := laws_eqIntS_h) envOk mixed ?_
  exact to_vc (by kernel_rfl) h
theorem laws_eqIntS_of {a : List (List Da)} {b : List (List Da)} {r : AV} {O : List (Nat × Ob)} (h : ifB (decide ((↑(List.length a) : Int) ≠ (↑(List.length b) : Int)))
  (((B (false)) = r ∧ [] = O))
  (laws_eqIntS_L4 r O a b ((0 : Int)))) : XC Try.prog 18 [(L a), (L b)] [] r O :=
  xc_of (E := env) (hs := laws_eqIntS_h) (c := (bodyOf Try.f18)) (n := 26) (res := [.tmp 4]) (rs := .c .b) (ks := []) (dir := []) envOk mixed rfl Try.func18 (by kernel_rfl) (by kernel_rfl) (by kernel_rfl) (by kernel_rfl) (to_vc (by kernel_rfl) h)

/-- loop.example/g00461/laws.markSymS -/
def laws_markSymS_h : Hints := ⟨[(2, ⟨[0, 1, 5], [], [], [], [], [], []⟩)], []⟩
def laws_markSymS_L2 (r : AV) (O : List (Nat × Ob)) (k : Int) (i : Int) (a : List (List Da)) : Prop := CL 37 Try.prog (subC (bodyOf Try.f19) [1, 0, 1, 0, 0]) (kont Try.prog env laws_markSymS_h 37 (bodyOf Try.f19) [1, 0, 1, 0, 0] (vRet env [.tmp 4] (.c (.i .i64)) [(2000, (false))] [2000] r O) (retKE (vRet env [.tmp 4] (.c (.i .i64)) [(2000, (false))] [2000] r O))).1 (kont Try.prog env laws_markSymS_h 37 (bodyOf Try.f19) [1, 0, 1, 0, 0] (vRet env [.tmp 4] (.c (.i .i64)) [(2000, (false))] [2000] r O) (retKE (vRet env [.tmp 4] (.c (.i .i64)) [(2000, (false))] [2000] r O))).2 ⟨[(0, (.one (.ol 2000))), (1, (Z k)), (5, (Z i))], [(2000, (.mt 99 3 a))]⟩
theorem laws_markSymS_L2_of {r : AV} {O : List (Nat × Ob)} {k : Int} {i : Int} {a : List (List Da)} (h : ifB (decide (i < (↑(List.length a) : Int)))
  ((∃ (q : ByteArray), (XC Try.prog 68 [(Z k)] [] (T q) [] ∧ (∃ (m : Nat), (i = ((↑m : Int)) ∧ (Do (m < List.length a) ∧ (∃ (m1 : Nat), ((m * (3 : Nat) + (0 : Nat)) = (m1 * (3 : Nat) + (0 : Nat)) ∧ (∃ (q1 : ByteArray), (∃ (n : Int), (∃ (b : Bool), ((a[m1]?) = some [(.str q1), (.int .i64 n), (.bool b)] ∧ (∃ (m2 : Nat), (i = ((↑m2 : Int)) ∧ (Do (m2 < List.length (List.set a m1 ([] ++ [Da.str q] ++ [Da.int IntKind.i64 n, Da.bool b]))) ∧ (∃ (m3 : Nat), ((m2 * (3 : Nat) + (1 : Nat)) = (m3 * (3 : Nat) + Nat.succ (nat_lit 0)) ∧ (∃ (q2 : ByteArray), (∃ (n1 : Int), (∃ (b1 : Bool), (((List.set a m1 ([] ++ [Da.str q] ++ [Da.int IntKind.i64 n, Da.bool b]))[m3]?) = some [(.str q2), (.int .i64 n1), (.bool b1)] ∧ (Do ((3 : Int) ≠ (0 : Int)) ∧ (∃ (m4 : Nat), (i = ((↑m4 : Int)) ∧ (Do (m4 < List.length (List.set (List.set a m1 ([] ++ [Da.str q] ++ [Da.int IntKind.i64 n, Da.bool b])) m3 ([Da.str q2] ++ [Da.int IntKind.i64 (IntKind.wrap IntKind.i64 (k + (1 : Int)))] ++ [Da.bool b1]))) ∧ (∃ (m5 : Nat), ((m4 * (3 : Nat) + (2 : Nat)) = (m5 * (3 : Nat) + Nat.succ (nat_lit 1)) ∧ (∃ (q3 : ByteArray), (∃ (n2 : Int), (∃ (b2 : Bool), (((List.set (List.set a m1 ([] ++ [Da.str q] ++ [Da.int IntKind.i64 n, Da.bool b])) m3 ([Da.str q2] ++ [Da.int IntKind.i64 (IntKind.wrap IntKind.i64 (k + (1 : Int)))] ++ [Da.bool b1]))[m5]?) = some [(.str q3), (.int .i64 n2), (.bool b2)] ∧ laws_markSymS_L2 r O (IntKind.wrap IntKind.i64 (IntKind.wrap IntKind.i64 (IntKind.wrap IntKind.i64 (k + (1 : Int)) + (1 : Int)) + (1 : Int))) (IntKind.wrap IntKind.i64 (i + (1 : Int))) (List.set (List.set (List.set a m1 ([] ++ [Da.str q] ++ [Da.int IntKind.i64 n, Da.bool b])) m3 ([Da.str q2] ++ [Da.int IntKind.i64 (IntKind.wrap IntKind.i64 (k + (1 : Int)))] ++ [Da.bool b1])) m5 ([Da.str q3, Da.int IntKind.i64 n2] ++ [Da.bool (decide (Int.tmod (IntKind.wrap IntKind.i64 (IntKind.wrap IntKind.i64 (k + (1 : Int)) + (1 : Int))) (3 : Int) = (0 : Int)))] ++ [])))))))))))))))))))))))))))))))))
  (((Z k) = r ∧ [(2000, (.mt 99 3 a))] = O))) : laws_markSymS_L2 r O k i a := by
  unfold laws_markSymS_L2
  refine cl_of (E := env) (hs := laws_markSymS_h) envOk mixed ?_
  exact to_vc (by kernel_rfl) h
theorem laws_markSymS_of {k : Int} {o2000 : List (List Da)} {r : AV} {O : List (Nat × Ob)} (h : laws_markSymS_L2 r O k ((0 : Int)) o2000) : XC Try.prog 19 [(.one (.ol 2000)), (Z k)] [(2000, (.mt 99 3 o2000))] r O :=
  xc_of (E := env) (hs := laws_markSymS_h) (c := (bodyOf Try.f19)) (n := 37) (res := [.tmp 4]) (rs := .c (.i .i64)) (ks := [(2000, (false))]) (dir := [2000]) envOk mixed rfl Try.func19 (by kernel_rfl) (by kernel_rfl) (by kernel_rfl) (by kernel_rfl) (to_vc (by kernel_rfl) h)

/-- loop.example/g00461/laws.markTerm -/
def laws_markTerm_h : Hints := ⟨[], []⟩
theorem laws_markTerm_of {a : Int} {a1 : Int} {k : Int} {o2000 : List (List Da)} {r : AV} {O : List (Nat × Ob)} (h : (∃ (n : Int), (∃ (xs : List (List Da)), (XC Try.prog 69 [(.one (.ol 2000)), (Z k)] [(2000, (.mt 31 3 o2000))] (Z n) [(2000, (.mt 31 3 xs))] ∧ ((Z n) = r ∧ [(2000, (.mt 31 3 xs))] = O))))) : XC Try.prog 20 [(.agg [(.d (.int .i64 a)), (.d (.int .i64 a1)), (.ol 2000)]), (Z k)] [(2000, (.mt 31 3 o2000))] r O :=
  xc_of (E := env) (hs := laws_markTerm_h) (c := (bodyOf Try.f20)) (n := 10) (res := [.tmp 4]) (rs := .c (.i .i64)) (ks := [(2000, (false))]) (dir := [2000]) envOk mixed rfl Try.func20 (by kernel_rfl) (by kernel_rfl) (by kernel_rfl) (by kernel_rfl) (to_vc (by kernel_rfl) h)

/-- loop.example/g00461/laws.markIntS -/
def laws_markIntS_h : Hints := ⟨[(2, ⟨[0, 1, 5], [], [], [], [], [], []⟩)], []⟩
def laws_markIntS_L2 (r : AV) (O : List (Nat × Ob)) (k : Int) (i : Int) (a : List (List Da)) : Prop := CL 19 Try.prog (subC (bodyOf Try.f21) [1, 0, 1, 0, 0]) (kont Try.prog env laws_markIntS_h 19 (bodyOf Try.f21) [1, 0, 1, 0, 0] (vRet env [.tmp 4] (.c (.i .i64)) [(2000, (false))] [2000] r O) (retKE (vRet env [.tmp 4] (.c (.i .i64)) [(2000, (false))] [2000] r O))).1 (kont Try.prog env laws_markIntS_h 19 (bodyOf Try.f21) [1, 0, 1, 0, 0] (vRet env [.tmp 4] (.c (.i .i64)) [(2000, (false))] [2000] r O) (retKE (vRet env [.tmp 4] (.c (.i .i64)) [(2000, (false))] [2000] r O))).2 ⟨[(0, (.one (.ol 2000))), (1, (Z k)), (5, (Z i))], [(2000, (.mt 3 1 a))]⟩
theorem laws_markIntS_L2_of {r : AV} {O : List (Nat × Ob)} {k : Int} {i : Int} {a : List (List Da)} (h : ifB (decide (i < (↑(List.length a) : Int)))
  ((∃ (m : Nat), (i = ((↑m : Int)) ∧ (Do (m < List.length a) ∧ (∃ (m1 : Nat), ((m * (1 : Nat)) = (m1 * (1 : Nat) + (0 : Nat)) ∧ (∃ (n : Int), ((a[m1]?) = some [(.int .i64 n)] ∧ laws_markIntS_L2 r O (IntKind.wrap IntKind.i64 (k + (1 : Int))) (IntKind.wrap IntKind.i64 (i + (1 : Int))) (List.set a m1 ([] ++ [Da.int IntKind.i64 k] ++ []))))))))))
  (((Z k) = r ∧ [(2000, (.mt 3 1 a))] = O))) : laws_markIntS_L2 r O k i a := by
  unfold laws_markIntS_L2
  refine cl_of (E := env) (hs := laws_markIntS_h) envOk mixed ?_
  exact to_vc (by kernel_rfl) h
theorem laws_markIntS_of {k : Int} {o2000 : List (List Da)} {r : AV} {O : List (Nat × Ob)} (h : laws_markIntS_L2 r O k ((0 : Int)) o2000) : XC Try.prog 21 [(.one (.ol 2000)), (Z k)] [(2000, (.mt 3 1 o2000))] r O :=
  xc_of (E := env) (hs := laws_markIntS_h) (c := (bodyOf Try.f21)) (n := 19) (res := [.tmp 4]) (rs := .c (.i .i64)) (ks := [(2000, (false))]) (dir := [2000]) envOk mixed rfl Try.func21 (by kernel_rfl) (by kernel_rfl) (by kernel_rfl) (by kernel_rfl) (to_vc (by kernel_rfl) h)

/-- loop.example/g00461/laws.heldTerm -/
def laws_heldTerm_h : Hints := ⟨[], []⟩
theorem laws_heldTerm_of {a : Int} {a1 : Int} {a2 : List (List Da)} {k : Int} {r : AV} {O : List (Nat × Ob)} (h : (∃ (n : Int), (XC Try.prog 70 [(L a2), (Z k)] [] (Z n) [] ∧ ifB (decide (n < (0 : Int)))
  (((Z ((-1 : Int))) = r ∧ [] = O))
  (((Z n) = r ∧ [] = O))))) : XC Try.prog 22 [(.dat [(.int .i64 a), (.int .i64 a1), (.sl a2)]), (Z k)] [] r O :=
  xc_of (E := env) (hs := laws_heldTerm_h) (c := (bodyOf Try.f22)) (n := 12) (res := [.tmp 4]) (rs := .c (.i .i64)) (ks := []) (dir := []) envOk mixed rfl Try.func22 (by kernel_rfl) (by kernel_rfl) (by kernel_rfl) (by kernel_rfl) (to_vc (by kernel_rfl) h)

/-- loop.example/g00461/laws.szRule -/
def laws_szRule_h : Hints := ⟨[], []⟩
theorem laws_szRule_of {a : Int} {a1 : Int} {a2 : List (List Da)} {a3 : Int} {a4 : Int} {a5 : List (List Da)} {left : Int} {r : AV} {O : List (Nat × Ob)} (h : (∃ (n : Int), (XC Try.prog 10 [(.dat [(.int .i64 a), (.int .i64 a1), (.sl a2)]), (Z left)] [] (Z n) [] ∧ ifB (decide (n < (0 : Int)))
  (((Z ((-1 : Int))) = r ∧ [] = O))
  ((∃ (n1 : Int), (XC Try.prog 10 [(.dat [(.int .i64 a3), (.int .i64 a4), (.sl a5)]), (Z n)] [] (Z n1) [] ∧ ifB (decide (n1 < (0 : Int)))
  (((Z ((-1 : Int))) = r ∧ [] = O))
  (((Z n1) = r ∧ [] = O)))))))) : XC Try.prog 23 [(.dat [(.int .i64 a), (.int .i64 a1), (.sl a2), (.int .i64 a3), (.int .i64 a4), (.sl a5)]), (Z left)] [] r O :=
  xc_of (E := env) (hs := laws_szRule_h) (c := (bodyOf Try.f23)) (n := 18) (res := [.tmp 4]) (rs := .c (.i .i64)) (ks := []) (dir := []) envOk mixed rfl Try.func23 (by kernel_rfl) (by kernel_rfl) (by kernel_rfl) (by kernel_rfl) (to_vc (by kernel_rfl) h)

/-- loop.example/g00461/laws.toRule -/
def laws_toRule_h : Hints := ⟨[], []⟩
theorem laws_toRule_of {a : Int} {a1 : Int} {a2 : List (List Da)} {a3 : Int} {a4 : Int} {a5 : List (List Da)} {r : AV} {O : List (Nat × Ob)} (h : (∃ (n : Int), (∃ (n1 : Int), (∃ (xs : List (List Da)), (XC Try.prog 13 [(.dat [(.int .i64 a), (.int .i64 a1), (.sl a2)])] [] (.agg [(.d (.int .i64 n)), (.d (.int .i64 n1)), (.ol 0)]) [(0, (.tr 31 3 xs))] ∧ (∃ (n2 : Int), (∃ (n3 : Int), (∃ (xs1 : List (List Da)), (XC Try.prog 13 [(.dat [(.int .i64 a3), (.int .i64 a4), (.sl a5)])] [] (.agg [(.d (.int .i64 n2)), (.d (.int .i64 n3)), (.ol 0)]) [(0, (.tr 31 3 xs1))] ∧ ((.agg [(.d (.int .i64 n)), (.d (.int .i64 n1)), (.ol 0), (.d (.int .i64 n2)), (.d (.int .i64 n3)), (.ol 1)]) = r ∧ [(0, (.tr 31 3 xs)), (1, (.tr 31 3 xs1))] = O)))))))))) : XC Try.prog 25 [(.dat [(.int .i64 a), (.int .i64 a1), (.sl a2), (.int .i64 a3), (.int .i64 a4), (.sl a5)])] [] r O :=
  xc_of (E := env) (hs := laws_toRule_h) (c := (bodyOf Try.f25)) (n := 13) (res := [.cell 2 48]) (rs := .s [.k (.i .i64), .k (.i .i64), .o 31 3, .k (.i .i64), .k (.i .i64), .o 31 3]) (ks := []) (dir := []) envOk mixed rfl Try.func25 (by kernel_rfl) (by kernel_rfl) (by kernel_rfl) (by kernel_rfl) (to_vc (by kernel_rfl) h)

/-- loop.example/g00461/spec.Extended -/
def spec_Extended_h : Hints := ⟨[], []⟩
theorem spec_Extended_of {s : List (List Da)} {r_ : Int} {r_1 : Int} {r_2 : List (List Da)} {r_3 : Int} {r_4 : Int} {r_5 : List (List Da)} {r : AV} {O : List (Nat × Ob)} (h : (∃ (b : Bool), (XC Try.prog 71 [(L s), (Z r_)] [] (B b) [] ∧ ifB (!b)
  ((∃ (n : Int), (∃ (n1 : Int), (∃ (xs : List (List Da)), (∃ (n2 : Int), (∃ (n3 : Int), (∃ (xs1 : List (List Da)), (XC Try.prog 72 [(.dat [(.int .i64 r_), (.int .i64 r_1), (.sl r_2), (.int .i64 r_3), (.int .i64 r_4), (.sl r_5)])] [] (.dat [(.int .i64 n), (.int .i64 n1), (.sl xs), (.int .i64 n2), (.int .i64 n3), (.sl xs1)]) [] ∧ ((.tup [(.dat [(.int .i64 n), (.int .i64 n1), (.sl xs), (.int .i64 n2), (.int .i64 n3), (.sl xs1)]), (B (false))]) = r ∧ [] = O)))))))))
  ((∃ (n4 : Int), (∃ (n5 : Int), (∃ (xs2 : List (List Da)), (XC Try.prog 74 [(Z ((60 : Int)))] [] (.dat [(.int .i64 n4), (.int .i64 n5), (.sl xs2)]) [] ∧ (∃ (n6 : Int), (∃ (n7 : Int), (∃ (xs3 : List (List Da)), (XC Try.prog 73 [(L s), (Z r_), (L [[(.int .i64 r_), (.int .i64 r_1), (.sl r_2)], [(.int .i64 n4), (.int .i64 n5), (.sl xs2)]])] [] (.dat [(.int .i64 n6), (.int .i64 n7), (.sl xs3)]) [] ∧ (∃ (n8 : Int), (∃ (n9 : Int), (∃ (xs4 : List (List Da)), (XC Try.prog 74 [(Z ((60 : Int)))] [] (.dat [(.int .i64 n8), (.int .i64 n9), (.sl xs4)]) [] ∧ (∃ (n10 : Int), (∃ (n11 : Int), (∃ (xs5 : List (List Da)), (XC Try.prog 73 [(L s), (Z r_), (L [[(.int .i64 r_3), (.int .i64 r_4), (.sl r_5)], [(.int .i64 n8), (.int .i64 n9), (.sl xs4)]])] [] (.dat [(.int .i64 n10), (.int .i64 n11), (.sl xs5)]) [] ∧ ((.tup [(.dat [(.int .i64 n6), (.int .i64 n7), (.sl xs3), (.int .i64 n10), (.int .i64 n11), (.sl xs5)]), (B (true))]) = r ∧ [] = O))))))))))))))))))))) : XC Try.prog 24 [(L s), (.dat [(.int .i64 r_), (.int .i64 r_1), (.sl r_2), (.int .i64 r_3), (.int .i64 r_4), (.sl r_5)])] [] r O :=
  xc_of (E := env) (hs := spec_Extended_h) (c := (bodyOf Try.f24)) (n := 35) (res := [.cell 4 48, .tmp 5]) (rs := .t [.d [(.i .i64), (.i .i64), .l, (.i .i64), (.i .i64), .l], .c .b]) (ks := []) (dir := []) envOk mixed rfl Try.func24 (by kernel_rfl) (by kernel_rfl) (by kernel_rfl) (by kernel_rfl) (to_vc (by kernel_rfl) h)

/-- loop.example/g00461/impl.Extended -/
def impl_Extended_h : Hints := ⟨[], []⟩
theorem impl_Extended_of {s : List (List Da)} {r_ : Int} {r_1 : Int} {r_2 : List (List Da)} {r_3 : Int} {r_4 : Int} {r_5 : List (List Da)} {r : AV} {O : List (Nat × Ob)} (h : (∃ (b : Bool), (XC Try.prog 75 [(L s), (Z r_)] [] (B b) [] ∧ ifB (!b)
  ((∃ (n : Int), (∃ (n1 : Int), (∃ (xs : List (List Da)), (XC Try.prog 76 [(.dat [(.int .i64 r_), (.int .i64 r_1), (.sl r_2)])] [] (.agg [(.d (.int .i64 n)), (.d (.int .i64 n1)), (.ol 0)]) [(0, (.tr 31 3 xs))] ∧ (∃ (n2 : Int), (∃ (n3 : Int), (∃ (xs1 : List (List Da)), (XC Try.prog 76 [(.dat [(.int .i64 r_3), (.int .i64 r_4), (.sl r_5)])] [] (.agg [(.d (.int .i64 n2)), (.d (.int .i64 n3)), (.ol 0)]) [(0, (.tr 31 3 xs1))] ∧ ((.tup [(.agg [(.d (.int .i64 n)), (.d (.int .i64 n1)), (.ol 0), (.d (.int .i64 n2)), (.d (.int .i64 n3)), (.ol 1)]), (B (false))]) = r ∧ [(0, (.tr 31 3 xs)), (1, (.tr 31 3 xs1))] = O))))))))))
  ((∃ (n4 : Int), (∃ (n5 : Int), (XC Try.prog 78 [(Z ((60 : Int)))] [] (.agg [(.d (.int .i64 n4)), (.d (.int .i64 n5)), .e0]) [] ∧ (∃ (n6 : Int), (∃ (n7 : Int), (∃ (xs2 : List (List Da)), (XC Try.prog 77 [(L s), (Z r_), (L [[(.int .i64 r_), (.int .i64 r_1), (.sl r_2)], [(.int .i64 n4), (.int .i64 n5), (.sl [])]])] [] (.agg [(.d (.int .i64 n6)), (.d (.int .i64 n7)), (.ol 0)]) [(0, (.tr 31 3 xs2))] ∧ (∃ (n8 : Int), (∃ (n9 : Int), (XC Try.prog 78 [(Z ((60 : Int)))] [] (.agg [(.d (.int .i64 n8)), (.d (.int .i64 n9)), .e0]) [] ∧ (∃ (n10 : Int), (∃ (n11 : Int), (∃ (xs3 : List (List Da)), (XC Try.prog 77 [(L s), (Z r_), (L [[(.int .i64 r_3), (.int .i64 r_4), (.sl r_5)], [(.int .i64 n8), (.int .i64 n9), (.sl [])]])] [] (.agg [(.d (.int .i64 n10)), (.d (.int .i64 n11)), (.ol 0)]) [(0, (.tr 31 3 xs3))] ∧ ((.tup [(.agg [(.d (.int .i64 n6)), (.d (.int .i64 n7)), (.ol 0), (.d (.int .i64 n10)), (.d (.int .i64 n11)), (.ol 1)]), (B (true))]) = r ∧ [(0, (.tr 31 3 xs2)), (1, (.tr 31 3 xs3))] = O))))))))))))))))))) : XC Try.prog 26 [(L s), (.dat [(.int .i64 r_), (.int .i64 r_1), (.sl r_2), (.int .i64 r_3), (.int .i64 r_4), (.sl r_5)])] [] r O :=
  xc_of (E := env) (hs := impl_Extended_h) (c := (bodyOf Try.f26)) (n := 38) (res := [.cell 4 48, .tmp 5]) (rs := .t [.s [.k (.i .i64), .k (.i .i64), .o 31 3, .k (.i .i64), .k (.i .i64), .o 31 3], .c .b]) (ks := []) (dir := []) envOk mixed rfl Try.func26 (by kernel_rfl) (by kernel_rfl) (by kernel_rfl) (by kernel_rfl) (to_vc (by kernel_rfl) h)

/-- loop.example/g00461/laws.eqRule -/
def laws_eqRule_h : Hints := ⟨[], []⟩
theorem laws_eqRule_of {a : Int} {a1 : Int} {a2 : List (List Da)} {a3 : Int} {a4 : Int} {a5 : List (List Da)} {b : Int} {b1 : Int} {b2 : List (List Da)} {b3 : Int} {b4 : Int} {b5 : List (List Da)} {r : AV} {O : List (Nat × Ob)} (h : (∃ (b6 : Bool), (XC Try.prog 16 [(.dat [(.int .i64 a), (.int .i64 a1), (.sl a2)]), (.dat [(.int .i64 b), (.int .i64 b1), (.sl b2)])] [] (B b6) [] ∧ ifB (!b6)
  (((B (false)) = r ∧ [] = O))
  ((∃ (b7 : Bool), (XC Try.prog 16 [(.dat [(.int .i64 a3), (.int .i64 a4), (.sl a5)]), (.dat [(.int .i64 b3), (.int .i64 b4), (.sl b5)])] [] (B b7) [] ∧ ifB (!b7)
  (((B (false)) = r ∧ [] = O))
  (((B (true)) = r ∧ [] = O)))))))) : XC Try.prog 27 [(.dat [(.int .i64 a), (.int .i64 a1), (.sl a2), (.int .i64 a3), (.int .i64 a4), (.sl a5)]), (.dat [(.int .i64 b), (.int .i64 b1), (.sl b2), (.int .i64 b3), (.int .i64 b4), (.sl b5)])] [] r O :=
  xc_of (E := env) (hs := laws_eqRule_h) (c := (bodyOf Try.f27)) (n := 17) (res := [.tmp 4]) (rs := .c .b) (ks := []) (dir := []) envOk mixed rfl Try.func27 (by kernel_rfl) (by kernel_rfl) (by kernel_rfl) (by kernel_rfl) (to_vc (by kernel_rfl) h)

/-- loop.example/g00461/laws.markRule -/
def laws_markRule_h : Hints := ⟨[], []⟩
theorem laws_markRule_of {a : Int} {a1 : Int} {a2 : Int} {a3 : Int} {k : Int} {o2000 : List (List Da)} {o2001 : List (List Da)} {r : AV} {O : List (Nat × Ob)} (h : (∃ (n : Int), (∃ (xs : List (List Da)), (XC Try.prog 20 [(.agg [(.d (.int .i64 a)), (.d (.int .i64 a1)), (.ol 2000)]), (Z k)] [(2000, (.mt 31 3 o2000))] (Z n) [(2000, (.mt 31 3 xs))] ∧ (∃ (n1 : Int), (∃ (xs1 : List (List Da)), (XC Try.prog 20 [(.agg [(.d (.int .i64 a2)), (.d (.int .i64 a3)), (.ol 2000)]), (Z n)] [(2000, (.mt 31 3 o2001))] (Z n1) [(2000, (.mt 31 3 xs1))] ∧ ((Z n1) = r ∧ [(2000, (.mt 31 3 xs)), (2001, (.mt 31 3 xs1))] = O)))))))) : XC Try.prog 28 [(.agg [(.d (.int .i64 a)), (.d (.int .i64 a1)), (.ol 2000), (.d (.int .i64 a2)), (.d (.int .i64 a3)), (.ol 2001)]), (Z k)] [(2000, (.mt 31 3 o2000)), (2001, (.mt 31 3 o2001))] r O :=
  xc_of (E := env) (hs := laws_markRule_h) (c := (bodyOf Try.f28)) (n := 14) (res := [.tmp 4]) (rs := .c (.i .i64)) (ks := [(2000, (false)), (2001, (false))]) (dir := [2000, 2001]) envOk mixed rfl Try.func28 (by kernel_rfl) (by kernel_rfl) (by kernel_rfl) (by kernel_rfl) (to_vc (by kernel_rfl) h)

/-- loop.example/g00461/laws.heldRule -/
def laws_heldRule_h : Hints := ⟨[], []⟩
theorem laws_heldRule_of {a : Int} {a1 : Int} {a2 : List (List Da)} {a3 : Int} {a4 : Int} {a5 : List (List Da)} {k : Int} {r : AV} {O : List (Nat × Ob)} (h : (∃ (n : Int), (XC Try.prog 22 [(.dat [(.int .i64 a), (.int .i64 a1), (.sl a2)]), (Z k)] [] (Z n) [] ∧ ifB (decide (n < (0 : Int)))
  (((Z ((-1 : Int))) = r ∧ [] = O))
  ((∃ (n1 : Int), (XC Try.prog 22 [(.dat [(.int .i64 a3), (.int .i64 a4), (.sl a5)]), (Z n)] [] (Z n1) [] ∧ ifB (decide (n1 < (0 : Int)))
  (((Z ((-1 : Int))) = r ∧ [] = O))
  (((Z n1) = r ∧ [] = O)))))))) : XC Try.prog 29 [(.dat [(.int .i64 a), (.int .i64 a1), (.sl a2), (.int .i64 a3), (.int .i64 a4), (.sl a5)]), (Z k)] [] r O :=
  xc_of (E := env) (hs := laws_heldRule_h) (c := (bodyOf Try.f29)) (n := 18) (res := [.tmp 4]) (rs := .c (.i .i64)) (ks := []) (dir := []) envOk mixed rfl Try.func29 (by kernel_rfl) (by kernel_rfl) (by kernel_rfl) (by kernel_rfl) (to_vc (by kernel_rfl) h)

/-- loop.example/g00461/laws.szSym -/
def laws_szSym_h : Hints := ⟨[], []⟩
theorem laws_szSym_of {a : ByteArray} {a1 : Int} {a2 : Bool} {left : Int} {r : AV} {O : List (Nat × Ob)} (h : ifB (decide (IntKind.wrap IntKind.i64 (left - (↑(ByteArray.size a) : Int)) < (0 : Int)))
  (((Z ((-1 : Int))) = r ∧ [] = O))
  (((Z (IntKind.wrap IntKind.i64 (left - (↑(ByteArray.size a) : Int)))) = r ∧ [] = O))) : XC Try.prog 56 [(.dat [(.str a), (.int .i64 a1), (.bool a2)]), (Z left)] [] r O :=
  xc_of (E := env) (hs := laws_szSym_h) (c := (bodyOf Try.f56)) (n := 13) (res := [.tmp 4]) (rs := .c (.i .i64)) (ks := []) (dir := []) envOk mixed rfl Try.func56 (by kernel_rfl) (by kernel_rfl) (by kernel_rfl) (by kernel_rfl) (to_vc (by kernel_rfl) h)

/-- loop.example/g00461/laws.szTermS -/
def laws_szTermS_h : Hints := ⟨[(5, ⟨[0, 1, 5], [], [], [], [], [], []⟩)], []⟩
def laws_szTermS_L5 (r : AV) (O : List (Nat × Ob)) (a : List (List Da)) (left : Int) (i : Int) : Prop := CL 27 Try.prog (subC (bodyOf Try.f57) [1, 1, 1, 0, 1, 0, 0]) (kont Try.prog env laws_szTermS_h 27 (bodyOf Try.f57) [1, 1, 1, 0, 1, 0, 0] (vRet env [.tmp 4] (.c (.i .i64)) [] [] r O) (retKE (vRet env [.tmp 4] (.c (.i .i64)) [] [] r O))).1 (kont Try.prog env laws_szTermS_h 27 (bodyOf Try.f57) [1, 1, 1, 0, 1, 0, 0] (vRet env [.tmp 4] (.c (.i .i64)) [] [] r O) (retKE (vRet env [.tmp 4] (.c (.i .i64)) [] [] r O))).2 ⟨[(0, (L a)), (1, (Z left)), (5, (Z i))], []⟩
theorem laws_szTermS_L5_of {r : AV} {O : List (Nat × Ob)} {a : List (List Da)} {left : Int} {i : Int} (h : ifB (decide (i < (↑(List.length a) : Int)))
  ((∃ (m : Nat), (i = ((↑m : Int)) ∧ (∃ (n : Int), (∃ (n1 : Int), (∃ (xs : List (List Da)), ((a[m]?) = some [(.int .i64 n), (.int .i64 n1), (.sl xs)] ∧ (∃ (n2 : Int), (XC Try.prog 10 [(.dat [(.int .i64 n), (.int .i64 n1), (.sl xs)]), (Z left)] [] (Z n2) [] ∧ ifB (decide (n2 < (0 : Int)))
  (((Z ((-1 : Int))) = r ∧ [] = O))
  (laws_szTermS_L5 r O a n2 (IntKind.wrap IntKind.i64 (i + (1 : Int)))))))))))))
  (((Z left) = r ∧ [] = O))) : laws_szTermS_L5 r O a left i := by
  unfold laws_szTermS_L5
  refine cl_of (E := env) (hs := laws_szTermS_h) envOk mixed ?_
  exact to_vc (by kernel_rfl) h
theorem laws_szTermS_of {a : List (List Da)} {left : Int} {r : AV} {O : List (Nat × Ob)} (h : ifB (decide (IntKind.wrap IntKind.i64 (left - (↑(List.length a) : Int)) < (0 : Int)))
  (((Z ((-1 : Int))) = r ∧ [] = O))
  (laws_szTermS_L5 r O a (IntKind.wrap IntKind.i64 (left - (↑(List.length a) : Int))) ((0 : Int)))) : XC Try.prog 57 [(L a), (Z left)] [] r O :=
  xc_of (E := env) (hs := laws_szTermS_h) (c := (bodyOf Try.f57)) (n := 27) (res := [.tmp 4]) (rs := .c (.i .i64)) (ks := []) (dir := []) envOk mixed rfl Try.func57 (by kernel_rfl) (by kernel_rfl) (by kernel_rfl) (by kernel_rfl) (to_vc (by kernel_rfl) h)

/-- loop.example/g00461/laws.toSym -/
def laws_toSym_h : Hints := ⟨[], []⟩
theorem laws_toSym_of {a : ByteArray} {a1 : Int} {a2 : Bool} {r : AV} {O : List (Nat × Ob)} (h : ((.dat [(.str a), (.int .i64 a1), (.bool a2)]) = r ∧ [] = O)) : XC Try.prog 61 [(.dat [(.str a), (.int .i64 a1), (.bool a2)])] [] r O :=
  xc_of (E := env) (hs := laws_toSym_h) (c := (bodyOf Try.f61)) (n := 14) (res := [.cell 2 99]) (rs := .d [.s, (.i .i64), .b]) (ks := []) (dir := []) envOk mixed rfl Try.func61 (by kernel_rfl) (by kernel_rfl) (by kernel_rfl) (by kernel_rfl) (to_vc (by kernel_rfl) h)

/-- loop.example/g00461/laws.toTermS -/
def laws_toTermS_h : Hints := ⟨[(3, ⟨[0, 3, 4], [], [], [], [], [], []⟩)], []⟩
def laws_toTermS_L3 (r : AV) (O : List (Nat × Ob)) (a : List (List Da)) (i : Int) (out : List (List Da)) : Prop := CL 23 Try.prog (subC (bodyOf Try.f62) [1, 1, 0, 1, 0, 0]) (kont Try.prog env laws_toTermS_h 23 (bodyOf Try.f62) [1, 1, 0, 1, 0, 0] (vRet env [.tmp 2] (.o 31 3) [] [] r O) (retKE (vRet env [.tmp 2] (.o 31 3) [] [] r O))).1 (kont Try.prog env laws_toTermS_h 23 (bodyOf Try.f62) [1, 1, 0, 1, 0, 0] (vRet env [.tmp 2] (.o 31 3) [] [] r O) (retKE (vRet env [.tmp 2] (.o 31 3) [] [] r O))).2 ⟨[(0, (L a)), (3, (.one (.ol 1900))), (4, (Z i))], [(1900, (.tr 31 3 out))]⟩
theorem laws_toTermS_L3_of {r : AV} {O : List (Nat × Ob)} {a : List (List Da)} {i : Int} {out : List (List Da)} (h : ifB (decide (i < (↑(List.length a) : Int)))
  ((∃ (m : Nat), (i = ((↑m : Int)) ∧ (∃ (n : Int), (∃ (n1 : Int), (∃ (xs : List (List Da)), ((a[m]?) = some [(.int .i64 n), (.int .i64 n1), (.sl xs)] ∧ (∃ (n2 : Int), (∃ (n3 : Int), (∃ (xs1 : List (List Da)), (XC Try.prog 13 [(.dat [(.int .i64 n), (.int .i64 n1), (.sl xs)])] [] (.agg [(.d (.int .i64 n2)), (.d (.int .i64 n3)), (.ol 0)]) [(0, (.tr 31 3 xs1))] ∧ (∃ (m1 : Nat), (i = ((↑m1 : Int)) ∧ (Do (m1 < List.length out) ∧ (∃ (m2 : Nat), ((m1 * (3 : Nat)) = (m2 * (3 : Nat) + (0 : Nat)) ∧ (∃ (n4 : Int), (∃ (n5 : Int), (∃ (xs2 : List (List Da)), ((out[m2]?) = some [(.int .i64 n4), (.int .i64 n5), (.sl xs2)] ∧ laws_toTermS_L3 r O a (IntKind.wrap IntKind.i64 (i + (1 : Int))) (List.set out m2 ([] ++ [Da.int IntKind.i64 n2, Da.int IntKind.i64 n3, Da.sl xs1] ++ []))))))))))))))))))))))
  (((.one (.ol 0)) = r ∧ [(0, (.tr 31 3 out))] = O))) : laws_toTermS_L3 r O a i out := by
  unfold laws_toTermS_L3
  refine cl_of (E := env) (hs := laws_toTermS_h) envOk mixed ?_
  exact to_vc (by kernel_rfl) h
theorem laws_toTermS_of {a : List (List Da)} {r : AV} {O : List (Nat × Ob)} (h : (∃ (l : Nat), (∃ (c : Nat), (((↑(List.length a) : Int)) = ((↑l : Int)) ∧ (((↑(List.length a) : Int)) = ((↑c : Int)) ∧ (Do (l ≤ c ∧ (40 : Nat) * c ≤ (281474976710656 : Nat) ∧ c ≤ (281474976710656 : Nat)) ∧ laws_toTermS_L3 r O a ((0 : Int)) (List.replicate l [Da.int IntKind.i64 (0 : Int), Da.int IntKind.i64 (0 : Int), Da.sl []]))))))) : XC Try.prog 62 [(L a)] [] r O :=
  xc_of (E := env) (hs := laws_toTermS_h) (c := (bodyOf Try.f62)) (n := 23) (res := [.tmp 2]) (rs := .o 31 3) (ks := []) (dir := []) envOk mixed rfl Try.func62 (by kernel_rfl) (by kernel_rfl) (by kernel_rfl) (by kernel_rfl) (to_vc (by kernel_rfl) h)

/-- loop.example/g00461/spec.At -/
def spec_At_h : Hints := ⟨[(2, ⟨[1, 2, 4, 6], [], [], [], [], [], []⟩)], []⟩
def spec_At_L2 (r : AV) (O : List (Nat × Ob)) (way : List (List Da)) (i : Int) (t : Int) (t1 : Int) (t2 : List (List Da)) (s4 : Int) (s41 : Int) : Prop := CL 34 Try.prog (subC (bodyOf Try.f58) [1, 0, 1, 0, 0]) (kont Try.prog env spec_At_h 34 (bodyOf Try.f58) [1, 0, 1, 0, 0] (vRet env [.cell 4 31, .tmp 5] (.t [.d [(.i .i64), (.i .i64), .l], .c .b]) [] [] r O) (retKE (vRet env [.cell 4 31, .tmp 5] (.t [.d [(.i .i64), (.i .i64), .l], .c .b]) [] [] r O))).1 (kont Try.prog env spec_At_h 34 (bodyOf Try.f58) [1, 0, 1, 0, 0] (vRet env [.cell 4 31, .tmp 5] (.t [.d [(.i .i64), (.i .i64), .l], .c .b]) [] [] r O) (retKE (vRet env [.cell 4 31, .tmp 5] (.t [.d [(.i .i64), (.i .i64), .l], .c .b]) [] [] r O))).2 ⟨[(1, (L way)), (2, (.one (.op 1900 0))), (4, (.one (.op 1901 0))), (6, (Z i))], [(1900, (.var [(.d (.int .i64 t)), (.d (.int .i64 t1)), (.d (.sl t2))])), (1901, (.var [(.d (.int .i64 s4)), (.d (.int .i64 s41)), .e0]))]⟩
theorem spec_At_L2_of {r : AV} {O : List (Nat × Ob)} {way : List (List Da)} {i : Int} {t : Int} {t1 : Int} {t2 : List (List Da)} {s4 : Int} {s41 : Int} (h : ifB (decide (i < (↑(List.length way) : Int)))
  ((∃ (m : Nat), (i = ((↑m : Int)) ∧ (∃ (n : Int), ((way[m]?) = some [(.int .i64 n)] ∧ (∃ (b : Bool), (XC Try.prog 99 [(Z n), (Z ((0 : Int))), (Z (IntKind.wrap IntKind.i64 ((↑(List.length t2) : Int) - (1 : Int))))] [] (B b) [] ∧ ifB (!b)
  (((.tup [(.dat [(.int .i64 ((0 : Int))), (.int .i64 ((0 : Int))), (.sl [])]), (B (false))]) = r ∧ [] = O))
  ((∃ (m1 : Nat), (i = ((↑m1 : Int)) ∧ (∃ (n1 : Int), ((way[m1]?) = some [(.int .i64 n1)] ∧ (∃ (m2 : Nat), (n1 = ((↑m2 : Int)) ∧ (∃ (n2 : Int), (∃ (n3 : Int), (∃ (xs : List (List Da)), ((t2[m2]?) = some [(.int .i64 n2), (.int .i64 n3), (.sl xs)] ∧ spec_At_L2 r O way (IntKind.wrap IntKind.i64 (i + (1 : Int))) n2 n3 xs s4 s41))))))))))))))))))
  ((∃ (n4 : Int), (∃ (n5 : Int), (∃ (xs1 : List (List Da)), (XC Try.prog 100 [(.dat [(.int .i64 t), (.int .i64 t1), (.sl t2)])] [] (.dat [(.int .i64 n4), (.int .i64 n5), (.sl xs1)]) [] ∧ ((.tup [(.dat [(.int .i64 n4), (.int .i64 n5), (.sl xs1)]), (B (true))]) = r ∧ [] = O))))))) : spec_At_L2 r O way i t t1 t2 s4 s41 := by
  unfold spec_At_L2
  refine cl_of (E := env) (hs := spec_At_h) envOk mixed ?_
  exact to_vc (by kernel_rfl) h
theorem spec_At_of {t : Int} {t1 : Int} {t2 : List (List Da)} {way : List (List Da)} {r : AV} {O : List (Nat × Ob)} (h : spec_At_L2 r O way ((0 : Int)) t t1 t2 ((0 : Int)) ((0 : Int))) : XC Try.prog 58 [(.dat [(.int .i64 t), (.int .i64 t1), (.sl t2)]), (L way)] [] r O :=
  xc_of (E := env) (hs := spec_At_h) (c := (bodyOf Try.f58)) (n := 34) (res := [.cell 4 31, .tmp 5]) (rs := .t [.d [(.i .i64), (.i .i64), .l], .c .b]) (ks := []) (dir := []) envOk mixed rfl Try.func58 (by kernel_rfl) (by kernel_rfl) (by kernel_rfl) (by kernel_rfl) (to_vc (by kernel_rfl) h)

/-- loop.example/g00461/spec.Norm -/
def spec_Norm_h : Hints := ⟨[(3, ⟨[0, 3, 4, 5, 6], [], [], [(5, (2, (31, 3)))], [], [5], []⟩), (7, ⟨[0, 3, 4, 5, 6, 7, 8], [], [], [(5, (2, (31, 3)))], [], [5], []⟩)], []⟩
def spec_Norm_L3 (r : AV) (O : List (Nat × Ob)) (s0 : List (List Da)) (s6 : Int) (s3 : Int) (s31 : Int) (s32 : List (List Da)) (s4 : Int) (s41 : Int) (s5 : Int) (s51 : Int) (s52 : List (List Da)) : Prop := CL 68 Try.prog (subC (bodyOf Try.f59) [1, 1, 0, 1, 0, 0]) (kont Try.prog env spec_Norm_h 68 (bodyOf Try.f59) [1, 1, 0, 1, 0, 0] (vRet env [.cell 4 31] (.d [(.i .i64), (.i .i64), .l]) [] [] r O) (retKE (vRet env [.cell 4 31] (.d [(.i .i64), (.i .i64), .l]) [] [] r O))).1 (kont Try.prog env spec_Norm_h 68 (bodyOf Try.f59) [1, 1, 0, 1, 0, 0] (vRet env [.cell 4 31] (.d [(.i .i64), (.i .i64), .l]) [] [] r O) (retKE (vRet env [.cell 4 31] (.d [(.i .i64), (.i .i64), .l]) [] [] r O))).2 ⟨[(0, (L s0)), (3, (.one (.op 1900 0))), (4, (.one (.op 1901 0))), (5, (.one (.op 1902 0))), (6, (Z s6))], [(1900, (.var [(.d (.int .i64 s3)), (.d (.int .i64 s31)), (.d (.sl s32))])), (1901, (.var [(.d (.int .i64 s4)), (.d (.int .i64 s41)), .e0])), (1902, (.var [(.d (.int .i64 s5)), (.d (.int .i64 s51)), (.ol 1903)])), (1903, (.lst 31 3 s52))]⟩
def spec_Norm_L7 (r : AV) (O : List (Nat × Ob)) (s0 : List (List Da)) (s6 : Int) (s8 : Int) (s3 : Int) (s31 : Int) (s32 : List (List Da)) (s4 : Int) (s41 : Int) (s5 : Int) (s51 : Int) (s7 : Int) (s71 : Int) (s72 : List (List Da)) (s52 : List (List Da)) : Prop := CL 68 Try.prog (subC (bodyOf Try.f59) [1, 1, 0, 1, 0, 0, 1, 0, 0, 1, 0, 1, 1, 1, 1, 1, 0, 0]) (kont Try.prog env spec_Norm_h 68 (bodyOf Try.f59) [1, 1, 0, 1, 0, 0, 1, 0, 0, 1, 0, 1, 1, 1, 1, 1, 0, 0] (vRet env [.cell 4 31] (.d [(.i .i64), (.i .i64), .l]) [] [] r O) (retKE (vRet env [.cell 4 31] (.d [(.i .i64), (.i .i64), .l]) [] [] r O))).1 (kont Try.prog env spec_Norm_h 68 (bodyOf Try.f59) [1, 1, 0, 1, 0, 0, 1, 0, 0, 1, 0, 1, 1, 1, 1, 1, 0, 0] (vRet env [.cell 4 31] (.d [(.i .i64), (.i .i64), .l]) [] [] r O) (retKE (vRet env [.cell 4 31] (.d [(.i .i64), (.i .i64), .l]) [] [] r O))).2 ⟨[(0, (L s0)), (3, (.one (.op 1900 0))), (4, (.one (.op 1901 0))), (5, (.one (.op 1902 0))), (6, (Z s6)), (7, (.one (.op 1903 0))), (8, (Z s8))], [(1900, (.var [(.d (.int .i64 s3)), (.d (.int .i64 s31)), (.d (.sl s32))])), (1901, (.var [(.d (.int .i64 s4)), (.d (.int .i64 s41)), .e0])), (1902, (.var [(.d (.int .i64 s5)), (.d (.int .i64 s51)), (.ol 1904)])), (1903, (.var [(.d (.int .i64 s7)), (.d (.int .i64 s71)), (.d (.sl s72))])), (1904, (.lst 31 3 s52))]⟩
theorem spec_Norm_L3_of {r : AV} {O : List (Nat × Ob)} {s0 : List (List Da)} {s6 : Int} {s3 : Int} {s31 : Int} {s32 : List (List Da)} {s4 : Int} {s41 : Int} {s5 : Int} {s51 : Int} {s52 : List (List Da)} (h : ifB (decide (s6 < (↑(List.length s32) : Int)))
  ((∃ (m : Nat), (s6 = ((↑m : Int)) ∧ (∃ (n : Int), (∃ (n1 : Int), (∃ (xs : List (List Da)), ((s32[m]?) = some [(.int .i64 n), (.int .i64 n1), (.sl xs)] ∧ (∃ (n2 : Int), (∃ (n3 : Int), (∃ (xs1 : List (List Da)), (XC Try.prog 59 [(L s0), (.dat [(.int .i64 n), (.int .i64 n1), (.sl xs)])] [] (.dat [(.int .i64 n2), (.int .i64 n3), (.sl xs1)]) [] ∧ (∃ (b : Bool), (XC Try.prog 71 [(L s0), (Z s3)] [] (B b) [] ∧ ifB (!b)
  ((Do ((List.length s52 + List.length [[Da.int IntKind.i64 n2, Da.int IntKind.i64 n3, Da.sl xs1]]) * (40 : Nat) ≤ (140737488355328 : Nat)) ∧ spec_Norm_L3 r O s0 (IntKind.wrap IntKind.i64 (s6 + (1 : Int))) s3 s31 s32 s4 s41 s5 s51 (s52 ++ [[Da.int IntKind.i64 n2, Da.int IntKind.i64 n3, Da.sl xs1]])))
  (ifB (decide (n2 ≠ s3))
  ((∃ (xs2 : List (List Da)), (XC Try.prog 101 [(L s52), (.dat [(.int .i64 n2), (.int .i64 n3), (.sl xs1)])] [] (.one (.ol 0)) [(0, (.lst 31 3 xs2))] ∧ spec_Norm_L3 r O s0 (IntKind.wrap IntKind.i64 (s6 + (1 : Int))) s3 s31 s32 s4 s41 s5 s51 xs2)))
  (spec_Norm_L7 r O s0 s6 ((0 : Int)) s3 s31 s32 s4 s41 s5 s51 n2 n3 xs1 s52)))))))))))))))
  (((.dat [(.int .i64 s5), (.int .i64 s51), (.sl s52)]) = r ∧ [] = O))) : spec_Norm_L3 r O s0 s6 s3 s31 s32 s4 s41 s5 s51 s52 := by
  unfold spec_Norm_L3
  refine cl_of (E := env) (hs := spec_Norm_h) envOk mixed ?_
  exact to_vc (by kernel_rfl) h
theorem spec_Norm_L7_of {r : AV} {O : List (Nat × Ob)} {s0 : List (List Da)} {s6 : Int} {s8 : Int} {s3 : Int} {s31 : Int} {s32 : List (List Da)} {s4 : Int} {s41 : Int} {s5 : Int} {s51 : Int} {s7 : Int} {s71 : Int} {s72 : List (List Da)} {s52 : List (List Da)} (h : ifB (decide (s8 < (↑(List.length s72) : Int)))
  ((∃ (m : Nat), (s8 = ((↑m : Int)) ∧ (∃ (n : Int), (∃ (n1 : Int), (∃ (xs : List (List Da)), ((s72[m]?) = some [(.int .i64 n), (.int .i64 n1), (.sl xs)] ∧ (∃ (xs1 : List (List Da)), (XC Try.prog 101 [(L s52), (.dat [(.int .i64 n), (.int .i64 n1), (.sl xs)])] [] (.one (.ol 0)) [(0, (.lst 31 3 xs1))] ∧ spec_Norm_L7 r O s0 s6 (IntKind.wrap IntKind.i64 (s8 + (1 : Int))) s3 s31 s32 s4 s41 s5 s51 s7 s71 s72 xs1)))))))))
  (spec_Norm_L3 r O s0 (IntKind.wrap IntKind.i64 (s6 + (1 : Int))) s3 s31 s32 s4 s41 s5 s51 s52)) : spec_Norm_L7 r O s0 s6 s8 s3 s31 s32 s4 s41 s5 s51 s7 s71 s72 s52 := by
  unfold spec_Norm_L7
  refine cl_of (E := env) (hs := spec_Norm_h) envOk mixed ?_
  exact to_vc (by kernel_rfl) h
theorem spec_Norm_of {p : List (List Da)} {p1 : Int} {p2 : Int} {p3 : List (List Da)} {r : AV} {O : List (Nat × Ob)} (h : spec_Norm_L3 r O p ((0 : Int)) p1 p2 p3 ((0 : Int)) ((0 : Int)) p1 p2 []) : XC Try.prog 59 [(L p), (.dat [(.int .i64 p1), (.int .i64 p2), (.sl p3)])] [] r O :=
  xc_of (E := env) (hs := spec_Norm_h) (c := (bodyOf Try.f59)) (n := 68) (res := [.cell 4 31]) (rs := .d [(.i .i64), (.i .i64), .l]) (ks := []) (dir := []) envOk mixed rfl Try.func59 (by kernel_rfl) (by kernel_rfl) (by kernel_rfl) (by kernel_rfl) (to_vc (by kernel_rfl) h)

/-- loop.example/g00461/spec.l13Put -/
def spec_l13Put_h : Hints := ⟨[(5, ⟨[1, 3, 5, 6, 7, 8], [], [], [(7, (2, (31, 3)))], [], [7], []⟩)], []⟩
def spec_l13Put_L5 (r : AV) (O : List (Nat × Ob)) (way : List (List Da)) (i : Int) (t : Int) (t1 : Int) (t2 : List (List Da)) (x : Int) (x1 : Int) (x2 : List (List Da)) (s6 : Int) (s61 : Int) (out : Int) (out1 : Int) (out2 : List (List Da)) : Prop := CL 57 Try.prog (subC (bodyOf Try.f60) [1, 1, 1, 0, 1, 0, 0]) (kont Try.prog env spec_l13Put_h 57 (bodyOf Try.f60) [1, 1, 1, 0, 1, 0, 0] (vRet env [.cell 6 31] (.d [(.i .i64), (.i .i64), .l]) [] [] r O) (retKE (vRet env [.cell 6 31] (.d [(.i .i64), (.i .i64), .l]) [] [] r O))).1 (kont Try.prog env spec_l13Put_h 57 (bodyOf Try.f60) [1, 1, 1, 0, 1, 0, 0] (vRet env [.cell 6 31] (.d [(.i .i64), (.i .i64), .l]) [] [] r O) (retKE (vRet env [.cell 6 31] (.d [(.i .i64), (.i .i64), .l]) [] [] r O))).2 ⟨[(1, (L way)), (3, (.one (.op 1900 0))), (5, (.one (.op 1901 0))), (6, (.one (.op 1902 0))), (7, (.one (.op 1903 0))), (8, (Z i))], [(1900, (.var [(.d (.int .i64 t)), (.d (.int .i64 t1)), (.d (.sl t2))])), (1901, (.var [(.d (.int .i64 x)), (.d (.int .i64 x1)), (.d (.sl x2))])), (1902, (.var [(.d (.int .i64 s6)), (.d (.int .i64 s61)), .e0])), (1903, (.var [(.d (.int .i64 out)), (.d (.int .i64 out1)), (.ol 1904)])), (1904, (.lst 31 3 out2))]⟩
theorem spec_l13Put_L5_of {r : AV} {O : List (Nat × Ob)} {way : List (List Da)} {i : Int} {t : Int} {t1 : Int} {t2 : List (List Da)} {x : Int} {x1 : Int} {x2 : List (List Da)} {s6 : Int} {s61 : Int} {out : Int} {out1 : Int} {out2 : List (List Da)} (h : ifB (decide (i < (↑(List.length t2) : Int)))
  ((∃ (m : Nat), (((0 : Int)) = ((↑m : Int)) ∧ (∃ (n : Int), ((way[m]?) = some [(.int .i64 n)] ∧ ifB (decide (i = n))
  ((∃ (m1 : Nat), (i = ((↑m1 : Int)) ∧ (∃ (n1 : Int), (∃ (n2 : Int), (∃ (xs : List (List Da)), ((t2[m1]?) = some [(.int .i64 n1), (.int .i64 n2), (.sl xs)] ∧ (∃ (n3 : Nat), (((1 : Int)) = ((↑n3 : Int)) ∧ (Do (n3 ≤ List.length way ∧ List.length way ≤ List.length way) ∧ (Do (∀ (c : List Da), c ∈ way → List.length c = TI.n { agg := false, n := (1 : Nat), b := (8 : Nat), el := none, fs := [], pr := (3 : Nat), ik := some IntKind.i64 }) ∧ (∃ (n4 : Int), (∃ (n5 : Int), (∃ (xs1 : List (List Da)), (XC Try.prog 60 [(.dat [(.int .i64 n1), (.int .i64 n2), (.sl xs)]), (L (List.drop n3 (List.take (List.length way) way))), (.dat [(.int .i64 x), (.int .i64 x1), (.sl x2)])] [] (.dat [(.int .i64 n4), (.int .i64 n5), (.sl xs1)]) [] ∧ (Do ((List.length out2 + List.length [[Da.int IntKind.i64 n4, Da.int IntKind.i64 n5, Da.sl xs1]]) * (40 : Nat) ≤ (140737488355328 : Nat)) ∧ spec_l13Put_L5 r O way (IntKind.wrap IntKind.i64 (i + (1 : Int))) t t1 t2 x x1 x2 s6 s61 out out1 (out2 ++ [[Da.int IntKind.i64 n4, Da.int IntKind.i64 n5, Da.sl xs1]])))))))))))))))))
  ((∃ (m2 : Nat), (i = ((↑m2 : Int)) ∧ (∃ (n6 : Int), (∃ (n7 : Int), (∃ (xs2 : List (List Da)), ((t2[m2]?) = some [(.int .i64 n6), (.int .i64 n7), (.sl xs2)] ∧ (∃ (n8 : Int), (∃ (n9 : Int), (∃ (xs3 : List (List Da)), (XC Try.prog 100 [(.dat [(.int .i64 n6), (.int .i64 n7), (.sl xs2)])] [] (.dat [(.int .i64 n8), (.int .i64 n9), (.sl xs3)]) [] ∧ (Do ((List.length out2 + List.length [[Da.int IntKind.i64 n8, Da.int IntKind.i64 n9, Da.sl xs3]]) * (40 : Nat) ≤ (140737488355328 : Nat)) ∧ spec_l13Put_L5 r O way (IntKind.wrap IntKind.i64 (i + (1 : Int))) t t1 t2 x x1 x2 s6 s61 out out1 (out2 ++ [[Da.int IntKind.i64 n8, Da.int IntKind.i64 n9, Da.sl xs3]]))))))))))))))))))
  (((.dat [(.int .i64 out), (.int .i64 out1), (.sl out2)]) = r ∧ [] = O))) : spec_l13Put_L5 r O way i t t1 t2 x x1 x2 s6 s61 out out1 out2 := by
  unfold spec_l13Put_L5
  refine cl_of (E := env) (hs := spec_l13Put_h) envOk mixed ?_
  exact to_vc (by kernel_rfl) h
theorem spec_l13Put_of {t : Int} {t1 : Int} {t2 : List (List Da)} {way : List (List Da)} {x : Int} {x1 : Int} {x2 : List (List Da)} {r : AV} {O : List (Nat × Ob)} (h : ifB (decide ((↑(List.length way) : Int) = (0 : Int)))
  ((∃ (n : Int), (∃ (n1 : Int), (∃ (xs : List (List Da)), (XC Try.prog 100 [(.dat [(.int .i64 x), (.int .i64 x1), (.sl x2)])] [] (.dat [(.int .i64 n), (.int .i64 n1), (.sl xs)]) [] ∧ ((.dat [(.int .i64 n), (.int .i64 n1), (.sl xs)]) = r ∧ [] = O))))))
  (spec_l13Put_L5 r O way ((0 : Int)) t t1 t2 x x1 x2 ((0 : Int)) ((0 : Int)) t t1 [])) : XC Try.prog 60 [(.dat [(.int .i64 t), (.int .i64 t1), (.sl t2)]), (L way), (.dat [(.int .i64 x), (.int .i64 x1), (.sl x2)])] [] r O :=
  xc_of (E := env) (hs := spec_l13Put_h) (c := (bodyOf Try.f60)) (n := 57) (res := [.cell 6 31]) (rs := .d [(.i .i64), (.i .i64), .l]) (ks := []) (dir := []) envOk mixed rfl Try.func60 (by kernel_rfl) (by kernel_rfl) (by kernel_rfl) (by kernel_rfl) (to_vc (by kernel_rfl) h)

/-- loop.example/g00461/impl.At -/
def impl_At_h : Hints := ⟨[(2, ⟨[2, 4, 8, 9, 10], [], [], [], [], [], []⟩)], []⟩
def impl_At_L2 (r : AV) (O : List (Nat × Ob)) (s8 : List (List Da)) (s9 : Int) (s10 : Int) (t : Int) (t1 : Int) (t2 : List (List Da)) (s4 : Int) (s41 : Int) : Prop := CL 30 Try.prog (subC (bodyOf Try.f63) [1, 0, 1, 0, 0]) (kont Try.prog env impl_At_h 30 (bodyOf Try.f63) [1, 0, 1, 0, 0] (vRet env [.cell 4 31, .tmp 5] (.t [.s [.k (.i .i64), .k (.i .i64), .o 31 3], .c .b]) [] [] r O) (retKE (vRet env [.cell 4 31, .tmp 5] (.t [.s [.k (.i .i64), .k (.i .i64), .o 31 3], .c .b]) [] [] r O))).1 (kont Try.prog env impl_At_h 30 (bodyOf Try.f63) [1, 0, 1, 0, 0] (vRet env [.cell 4 31, .tmp 5] (.t [.s [.k (.i .i64), .k (.i .i64), .o 31 3], .c .b]) [] [] r O) (retKE (vRet env [.cell 4 31, .tmp 5] (.t [.s [.k (.i .i64), .k (.i .i64), .o 31 3], .c .b]) [] [] r O))).2 ⟨[(2, (.one (.op 1900 0))), (4, (.one (.op 1901 0))), (8, (L s8)), (9, (Z s9)), (10, (Z s10))], [(1900, (.var [(.d (.int .i64 t)), (.d (.int .i64 t1)), (.d (.sl t2))])), (1901, (.var [(.d (.int .i64 s4)), (.d (.int .i64 s41)), .e0]))]⟩
theorem impl_At_L2_of {r : AV} {O : List (Nat × Ob)} {s8 : List (List Da)} {s9 : Int} {s10 : Int} {t : Int} {t1 : Int} {t2 : List (List Da)} {s4 : Int} {s41 : Int} (h : ifB (decide (s10 < s9))
  ((∃ (m : Nat), (s10 = ((↑m : Int)) ∧ (∃ (n : Int), ((s8[m]?) = some [(.int .i64 n)] ∧ (∃ (b : Bool), (XC Try.prog 102 [(Z n), (Z ((0 : Int))), (Z (IntKind.wrap IntKind.i64 ((↑(List.length t2) : Int) - (1 : Int))))] [] (B b) [] ∧ ifB (!b)
  (((.tup [(.agg [(.d (.int .i64 ((0 : Int)))), (.d (.int .i64 ((0 : Int)))), (.ol 0)]), (B (false))]) = r ∧ [(0, (.tr 31 3 []))] = O))
  ((∃ (m1 : Nat), (n = ((↑m1 : Int)) ∧ (∃ (n1 : Int), (∃ (n2 : Int), (∃ (xs : List (List Da)), ((t2[m1]?) = some [(.int .i64 n1), (.int .i64 n2), (.sl xs)] ∧ impl_At_L2 r O s8 s9 (IntKind.wrap IntKind.i64 (s10 + (1 : Int))) n1 n2 xs s4 s41))))))))))))))
  ((∃ (n3 : Int), (∃ (n4 : Int), (∃ (xs1 : List (List Da)), (XC Try.prog 76 [(.dat [(.int .i64 t), (.int .i64 t1), (.sl t2)])] [] (.agg [(.d (.int .i64 n3)), (.d (.int .i64 n4)), (.ol 0)]) [(0, (.tr 31 3 xs1))] ∧ ((.tup [(.agg [(.d (.int .i64 n3)), (.d (.int .i64 n4)), (.ol 0)]), (B (true))]) = r ∧ [(0, (.tr 31 3 xs1))] = O))))))) : impl_At_L2 r O s8 s9 s10 t t1 t2 s4 s41 := by
  unfold impl_At_L2
  refine cl_of (E := env) (hs := impl_At_h) envOk mixed ?_
  exact to_vc (by kernel_rfl) h
theorem impl_At_of {t : Int} {t1 : Int} {t2 : List (List Da)} {way : List (List Da)} {r : AV} {O : List (Nat × Ob)} (h : impl_At_L2 r O way ((↑(List.length way) : Int)) ((0 : Int)) t t1 t2 ((0 : Int)) ((0 : Int))) : XC Try.prog 63 [(.dat [(.int .i64 t), (.int .i64 t1), (.sl t2)]), (L way)] [] r O :=
  xc_of (E := env) (hs := impl_At_h) (c := (bodyOf Try.f63)) (n := 30) (res := [.cell 4 31, .tmp 5]) (rs := .t [.s [.k (.i .i64), .k (.i .i64), .o 31 3], .c .b]) (ks := []) (dir := []) envOk mixed rfl Try.func63 (by kernel_rfl) (by kernel_rfl) (by kernel_rfl) (by kernel_rfl) (to_vc (by kernel_rfl) h)

/-- loop.example/g00461/impl.putAt -/
def impl_putAt_h : Hints := ⟨[], []⟩
theorem impl_putAt_of {t : Int} {t1 : Int} {t2 : List (List Da)} {way : List (List Da)} {x : Int} {x1 : Int} {x2 : List (List Da)} {r : AV} {O : List (Nat × Ob)} (h : ifB (decide ((↑(List.length way) : Int) = (0 : Int)))
  (((.dat [(.int .i64 x), (.int .i64 x1), (.sl x2)]) = r ∧ [] = O))
  ((∃ (xs : List (List Da)), (XC Try.prog 103 [(L t2)] [] (.one (.ol 0)) [(0, (.lst 31 3 xs))] ∧ (∃ (m : Nat), (((0 : Int)) = ((↑m : Int)) ∧ (∃ (n : Int), ((way[m]?) = some [(.int .i64 n)] ∧ (∃ (m1 : Nat), (((0 : Int)) = ((↑m1 : Int)) ∧ (∃ (n1 : Int), ((way[m1]?) = some [(.int .i64 n1)] ∧ (∃ (m2 : Nat), (n1 = ((↑m2 : Int)) ∧ (Do (m2 < List.length xs) ∧ (∃ (n2 : Nat), ((m2 * (3 : Nat)) = (n2 * (3 : Nat)) ∧ (∃ (n3 : Int), (∃ (n4 : Int), (∃ (xs1 : List (List Da)), ((xs[n2]?) = some [(.int .i64 n3), (.int .i64 n4), (.sl xs1)] ∧ (∃ (n5 : Nat), (((1 : Int)) = ((↑n5 : Int)) ∧ (Do (n5 ≤ List.length way ∧ List.length way ≤ List.length way) ∧ (Do (∀ (c : List Da), c ∈ way → List.length c = TI.n { agg := false, n := (1 : Nat), b := (8 : Nat), el := none, fs := [], pr := (3 : Nat), ik := some IntKind.i64 }) ∧ (∃ (n6 : Int), (∃ (n7 : Int), (∃ (xs2 : List (List Da)), (XC Try.prog 64 [(.dat [(.int .i64 n3), (.int .i64 n4), (.sl xs1)]), (L (List.drop n5 (List.take (List.length way) way))), (.dat [(.int .i64 x), (.int .i64 x1), (.sl x2)])] [] (.dat [(.int .i64 n6), (.int .i64 n7), (.sl xs2)]) [] ∧ (∃ (m3 : Nat), (n = ((↑m3 : Int)) ∧ (Do (m3 < List.length xs) ∧ (∃ (m4 : Nat), ((m3 * (3 : Nat)) = (m4 * (3 : Nat) + (0 : Nat)) ∧ (∃ (n8 : Int), (∃ (n9 : Int), (∃ (xs3 : List (List Da)), ((xs[m4]?) = some [(.int .i64 n8), (.int .i64 n9), (.sl xs3)] ∧ ((.dat [(.int .i64 t), (.int .i64 t1), (.sl (List.set xs m4 ([] ++ [Da.int IntKind.i64 n6, Da.int IntKind.i64 n7, Da.sl xs2] ++ [])))]) = r ∧ [] = O))))))))))))))))))))))))))))))))))))))) : XC Try.prog 64 [(.dat [(.int .i64 t), (.int .i64 t1), (.sl t2)]), (L way), (.dat [(.int .i64 x), (.int .i64 x1), (.sl x2)])] [] r O :=
  xc_of (E := env) (hs := impl_putAt_h) (c := (bodyOf Try.f64)) (n := 33) (res := [.cell 6 31]) (rs := .d [(.i .i64), (.i .i64), .l]) (ks := []) (dir := []) envOk mixed rfl Try.func64 (by kernel_rfl) (by kernel_rfl) (by kernel_rfl) (by kernel_rfl) (to_vc (by kernel_rfl) h)

/-- loop.example/g00461/impl.Norm -/
def impl_Norm_h : Hints := ⟨[(3, ⟨[0, 3, 4, 5, 10, 11, 12], [], [], [], [], [], []⟩)], []⟩
def impl_Norm_L3 (r : AV) (O : List (Nat × Ob)) (s : List (List Da)) (s10 : List (List Da)) (s11 : Int) (s12 : Int) (t : Int) (t1 : Int) (t2 : List (List Da)) (s4 : Int) (s41 : Int) (kids : List (List Da)) : Prop := CL 48 Try.prog (subC (bodyOf Try.f65) [1, 1, 0, 1, 0, 0]) (kont Try.prog env impl_Norm_h 48 (bodyOf Try.f65) [1, 1, 0, 1, 0, 0] (vRet env [.cell 4 31] (.s [.k (.i .i64), .k (.i .i64), .o 31 3]) [] [] r O) (retKE (vRet env [.cell 4 31] (.s [.k (.i .i64), .k (.i .i64), .o 31 3]) [] [] r O))).1 (kont Try.prog env impl_Norm_h 48 (bodyOf Try.f65) [1, 1, 0, 1, 0, 0] (vRet env [.cell 4 31] (.s [.k (.i .i64), .k (.i .i64), .o 31 3]) [] [] r O) (retKE (vRet env [.cell 4 31] (.s [.k (.i .i64), .k (.i .i64), .o 31 3]) [] [] r O))).2 ⟨[(0, (L s)), (3, (.one (.op 1900 0))), (4, (.one (.op 1901 0))), (5, (.one (.ol 1902))), (10, (L s10)), (11, (Z s11)), (12, (Z s12))], [(1900, (.var [(.d (.int .i64 t)), (.d (.int .i64 t1)), (.d (.sl t2))])), (1901, (.var [(.d (.int .i64 s4)), (.d (.int .i64 s41)), .e0])), (1902, (.tr 31 3 kids))]⟩
theorem impl_Norm_L3_of {r : AV} {O : List (Nat × Ob)} {s : List (List Da)} {s10 : List (List Da)} {s11 : Int} {s12 : Int} {t : Int} {t1 : Int} {t2 : List (List Da)} {s4 : Int} {s41 : Int} {kids : List (List Da)} (h : ifB (decide (s12 < s11))
  ((∃ (m : Nat), (s12 = ((↑m : Int)) ∧ (∃ (n : Int), (∃ (n1 : Int), (∃ (xs : List (List Da)), ((s10[m]?) = some [(.int .i64 n), (.int .i64 n1), (.sl xs)] ∧ (∃ (n2 : Int), (∃ (n3 : Int), (∃ (xs1 : List (List Da)), (XC Try.prog 65 [(L s), (.dat [(.int .i64 n), (.int .i64 n1), (.sl xs)])] [] (.agg [(.d (.int .i64 n2)), (.d (.int .i64 n3)), (.ol 0)]) [(0, (.tr 31 3 xs1))] ∧ (∃ (b : Bool), (XC Try.prog 75 [(L s), (Z t)] [] (B b) [] ∧ ifB b
  (ifB (decide (n2 = t))
  ((Do ((List.length kids + List.length xs1) * (40 : Nat) ≤ (140737488355328 : Nat)) ∧ impl_Norm_L3 r O s s10 s11 (IntKind.wrap IntKind.i64 (s12 + (1 : Int))) t t1 t2 s4 s41 (kids ++ xs1)))
  ((Do ((List.length kids + List.length [[Da.int IntKind.i64 n2, Da.int IntKind.i64 n3, Da.sl xs1]]) * (40 : Nat) ≤ (140737488355328 : Nat)) ∧ impl_Norm_L3 r O s s10 s11 (IntKind.wrap IntKind.i64 (s12 + (1 : Int))) t t1 t2 s4 s41 (kids ++ [[Da.int IntKind.i64 n2, Da.int IntKind.i64 n3, Da.sl xs1]]))))
  ((Do ((List.length kids + List.length [[Da.int IntKind.i64 n2, Da.int IntKind.i64 n3, Da.sl xs1]]) * (40 : Nat) ≤ (140737488355328 : Nat)) ∧ impl_Norm_L3 r O s s10 s11 (IntKind.wrap IntKind.i64 (s12 + (1 : Int))) t t1 t2 s4 s41 (kids ++ [[Da.int IntKind.i64 n2, Da.int IntKind.i64 n3, Da.sl xs1]]))))))))))))))))
  ((∃ (b1 : Bool), (XC Try.prog 75 [(L s), (Z t)] [] (B b1) [] ∧ ifB b1
  ((∃ (xs2 : List (List Da)), (XC Try.prog 104 [(.one (.ol 2000)), (.one (.d (.fn 105)))] [(2000, (.tr 31 3 kids))] (.tup []) [(2000, (.tr 31 3 xs2))] ∧ ((.agg [(.d (.int .i64 t)), (.d (.int .i64 t1)), (.ol 0)]) = r ∧ [(0, (.tr 31 3 xs2))] = O))))
  (((.agg [(.d (.int .i64 t)), (.d (.int .i64 t1)), (.ol 0)]) = r ∧ [(0, (.tr 31 3 kids))] = O)))))) : impl_Norm_L3 r O s s10 s11 s12 t t1 t2 s4 s41 kids := by
  unfold impl_Norm_L3
  refine cl_of (E := env) (hs := impl_Norm_h) envOk mixed ?_
  exact to_vc (by kernel_rfl) h
theorem impl_Norm_of {s : List (List Da)} {t : Int} {t1 : Int} {t2 : List (List Da)} {r : AV} {O : List (Nat × Ob)} (h : impl_Norm_L3 r O s t2 ((↑(List.length t2) : Int)) ((0 : Int)) t t1 t2 ((0 : Int)) ((0 : Int)) []) : XC Try.prog 65 [(L s), (.dat [(.int .i64 t), (.int .i64 t1), (.sl t2)])] [] r O :=
  xc_of (E := env) (hs := impl_Norm_h) (c := (bodyOf Try.f65)) (n := 48) (res := [.cell 4 31]) (rs := .s [.k (.i .i64), .k (.i .i64), .o 31 3]) (ks := []) (dir := []) envOk mixed rfl Try.func65 (by kernel_rfl) (by kernel_rfl) (by kernel_rfl) (by kernel_rfl) (to_vc (by kernel_rfl) h)

/-- loop.example/g00461/laws.eqTermS -/
def laws_eqTermS_h : Hints := ⟨[(4, ⟨[0, 1, 5], [], [], [], [], [], []⟩)], []⟩
def laws_eqTermS_L4 (r : AV) (O : List (Nat × Ob)) (a : List (List Da)) (b : List (List Da)) (i : Int) : Prop := CL 27 Try.prog (subC (bodyOf Try.f66) [1, 1, 0, 1, 0, 0]) (kont Try.prog env laws_eqTermS_h 27 (bodyOf Try.f66) [1, 1, 0, 1, 0, 0] (vRet env [.tmp 4] (.c .b) [] [] r O) (retKE (vRet env [.tmp 4] (.c .b) [] [] r O))).1 (kont Try.prog env laws_eqTermS_h 27 (bodyOf Try.f66) [1, 1, 0, 1, 0, 0] (vRet env [.tmp 4] (.c .b) [] [] r O) (retKE (vRet env [.tmp 4] (.c .b) [] [] r O))).2 ⟨[(0, (L a)), (1, (L b)), (5, (Z i))], []⟩
theorem laws_eqTermS_L4_of {r : AV} {O : List (Nat × Ob)} {a : List (List Da)} {b : List (List Da)} {i : Int} (h : ifB (decide (i < (↑(List.length a) : Int)))
  ((∃ (m : Nat), (i = ((↑m : Int)) ∧ (∃ (n : Int), (∃ (n1 : Int), (∃ (xs : List (List Da)), ((a[m]?) = some [(.int .i64 n), (.int .i64 n1), (.sl xs)] ∧ (∃ (m1 : Nat), (i = ((↑m1 : Int)) ∧ (∃ (n2 : Int), (∃ (n3 : Int), (∃ (xs1 : List (List Da)), ((b[m1]?) = some [(.int .i64 n2), (.int .i64 n3), (.sl xs1)] ∧ (∃ (b2 : Bool), (XC Try.prog 16 [(.dat [(.int .i64 n), (.int .i64 n1), (.sl xs)]), (.dat [(.int .i64 n2), (.int .i64 n3), (.sl xs1)])] [] (B b2) [] ∧ ifB (!b2)
  (((B (false)) = r ∧ [] = O))
  (laws_eqTermS_L4 r O a b (IntKind.wrap IntKind.i64 (i + (1 : Int)))))))))))))))))))
  (((B (true)) = r ∧ [] = O))) : laws_eqTermS_L4 r O a b i := by
  unfold laws_eqTermS_L4
  refine cl_of (E := env) (hs := laws_eqTermS_h) envOk mixed ?_
  exact to_vc (by kernel_rfl) h
theorem laws_eqTermS_of {a : List (List Da)} {b : List (List Da)} {r : AV} {O : List (Nat × Ob)} (h : ifB (decide ((↑(List.length a) : Int) ≠ (↑(List.length b) : Int)))
  (((B (false)) = r ∧ [] = O))
  (laws_eqTermS_L4 r O a b ((0 : Int)))) : XC Try.prog 66 [(L a), (L b)] [] r O :=
  xc_of (E := env) (hs := laws_eqTermS_h) (c := (bodyOf Try.f66)) (n := 27) (res := [.tmp 4]) (rs := .c .b) (ks := []) (dir := []) envOk mixed rfl Try.func66 (by kernel_rfl) (by kernel_rfl) (by kernel_rfl) (by kernel_rfl) (to_vc (by kernel_rfl) h)

/-- loop.example/g00461/laws.eqSym -/
def laws_eqSym_h : Hints := ⟨[], []⟩
theorem laws_eqSym_of {a : ByteArray} {a1 : Int} {a2 : Bool} {b : ByteArray} {b1 : Int} {b2 : Bool} {r : AV} {O : List (Nat × Ob)} (h : ifB (decide (a ≠ b))
  (((B (false)) = r ∧ [] = O))
  (ifB (decide (a1 ≠ b1))
  (((B (false)) = r ∧ [] = O))
  (ifB (decide (a2 ≠ b2))
  (((B (false)) = r ∧ [] = O))
  (((B (true)) = r ∧ [] = O))))) : XC Try.prog 67 [(.dat [(.str a), (.int .i64 a1), (.bool a2)]), (.dat [(.str b), (.int .i64 b1), (.bool b2)])] [] r O :=
  xc_of (E := env) (hs := laws_eqSym_h) (c := (bodyOf Try.f67)) (n := 20) (res := [.tmp 4]) (rs := .c .b) (ks := []) (dir := []) envOk mixed rfl Try.func67 (by kernel_rfl) (by kernel_rfl) (by kernel_rfl) (by kernel_rfl) (to_vc (by kernel_rfl) h)

/-- loop.example/g00461/laws.markText -/
def laws_markText_h : Hints := ⟨[(4, ⟨[0, 3], [], [], [], [], [], []⟩)], []⟩
def laws_markText_L4 (r : AV) (O : List (Nat × Ob)) (k : Int) (out : ByteArray) : Prop := CL 20 Try.prog (subC (bodyOf Try.f68) [1, 1, 1, 0, 0, 0]) (kont Try.prog env laws_markText_h 20 (bodyOf Try.f68) [1, 1, 1, 0, 0, 0] (vRet env [.tmp 2] (.c .s) [] [] r O) (retKE (vRet env [.tmp 2] (.c .s) [] [] r O))).1 (kont Try.prog env laws_markText_h 20 (bodyOf Try.f68) [1, 1, 1, 0, 0, 0] (vRet env [.tmp 2] (.c .s) [] [] r O) (retKE (vRet env [.tmp 2] (.c .s) [] [] r O))).2 ⟨[(0, (Z k)), (3, (T out))], []⟩
theorem laws_markText_L4_of {r : AV} {O : List (Nat × Ob)} {k : Int} {out : ByteArray} (h : ifB (decide ((0 : Int) < k))
  ((Do ((10 : Int) ≠ (0 : Int)) ∧ (∃ (ns : List Int), ([[(.int .u8 (IntKind.wrap IntKind.u8 (IntKind.wrap IntKind.i64 ((48 : Int) + Int.tmod k (10 : Int)))))]] = (List.map (fun n => [Da.int IntKind.u8 n]) ns) ∧ (Do (ByteArray.size (strOfNums ns ++ out) ≤ (281474976710656 : Nat)) ∧ (Do ((10 : Int) ≠ (0 : Int)) ∧ laws_markText_L4 r O (IntKind.wrap IntKind.i64 (Int.tdiv k (10 : Int))) (strOfNums ns ++ out)))))))
  ((Do (ByteArray.size ({ data := #[(109 : UInt8)] } ++ out) ≤ (281474976710656 : Nat)) ∧ ((T ({ data := #[(109 : UInt8)] } ++ out)) = r ∧ [] = O)))) : laws_markText_L4 r O k out := by
  unfold laws_markText_L4
  refine cl_of (E := env) (hs := laws_markText_h) envOk mixed ?_
  exact to_vc (by kernel_rfl) h
theorem laws_markText_of {k : Int} {r : AV} {O : List (Nat × Ob)} (h : ifB (decide (k ≤ (0 : Int)))
  (((T ({ data := #[(109 : UInt8), (48 : UInt8)] })) = r ∧ [] = O))
  (laws_markText_L4 r O k ({ data := #[] }))) : XC Try.prog 68 [(Z k)] [] r O :=
  xc_of (E := env) (hs := laws_markText_h) (c := (bodyOf Try.f68)) (n := 20) (res := [.tmp 2]) (rs := .c .s) (ks := []) (dir := []) envOk mixed rfl Try.func68 (by kernel_rfl) (by kernel_rfl) (by kernel_rfl) (by kernel_rfl) (to_vc (by kernel_rfl) h)

/-- loop.example/g00461/laws.markTermS -/
def laws_markTermS_h : Hints := ⟨[(2, ⟨[0, 1, 5], [], [], [], [], [], []⟩)], []⟩
def laws_markTermS_L2 (r : AV) (O : List (Nat × Ob)) (k : Int) (i : Int) (a : List (List Da)) : Prop := CL 34 Try.prog (subC (bodyOf Try.f69) [1, 0, 1, 0, 0]) (kont Try.prog env laws_markTermS_h 34 (bodyOf Try.f69) [1, 0, 1, 0, 0] (vRet env [.tmp 4] (.c (.i .i64)) [(2000, (false))] [2000] r O) (retKE (vRet env [.tmp 4] (.c (.i .i64)) [(2000, (false))] [2000] r O))).1 (kont Try.prog env laws_markTermS_h 34 (bodyOf Try.f69) [1, 0, 1, 0, 0] (vRet env [.tmp 4] (.c (.i .i64)) [(2000, (false))] [2000] r O) (retKE (vRet env [.tmp 4] (.c (.i .i64)) [(2000, (false))] [2000] r O))).2 ⟨[(0, (.one (.ol 2000))), (1, (Z k)), (5, (Z i))], [(2000, (.mt 31 3 a))]⟩
theorem laws_markTermS_L2_of {r : AV} {O : List (Nat × Ob)} {k : Int} {i : Int} {a : List (List Da)} (h : ifB (decide (i < (↑(List.length a) : Int)))
  ((∃ (m : Nat), (i = ((↑m : Int)) ∧ (Do (m < List.length a) ∧ (∃ (m1 : Nat), ((m * (3 : Nat) + (0 : Nat)) = (m1 * (3 : Nat) + (0 : Nat)) ∧ (∃ (n : Int), (∃ (n1 : Int), (∃ (xs : List (List Da)), ((a[m1]?) = some [(.int .i64 n), (.int .i64 n1), (.sl xs)] ∧ (∃ (m2 : Nat), (i = ((↑m2 : Int)) ∧ (Do (m2 < List.length (List.set a m1 ([] ++ [Da.int IntKind.i64 k] ++ [Da.int IntKind.i64 n1, Da.sl xs]))) ∧ (∃ (m3 : Nat), ((m2 * (3 : Nat) + (1 : Nat)) = (m3 * (3 : Nat) + Nat.succ (nat_lit 0)) ∧ (∃ (n2 : Int), (∃ (n3 : Int), (∃ (xs1 : List (List Da)), (((List.set a m1 ([] ++ [Da.int IntKind.i64 k] ++ [Da.int IntKind.i64 n1, Da.sl xs]))[m3]?) = some [(.int .i64 n2), (.int .i64 n3), (.sl xs1)] ∧ (∃ (m4 : Nat), (i = ((↑m4 : Int)) ∧ (Do (m4 < List.length (List.set (List.set a m1 ([] ++ [Da.int IntKind.i64 k] ++ [Da.int IntKind.i64 n1, Da.sl xs])) m3 ([Da.int IntKind.i64 n2] ++ [Da.int IntKind.i64 (IntKind.wrap IntKind.i64 (k + (1 : Int)))] ++ [Da.sl xs1]))) ∧ (∃ (m5 : Nat), ((m4 * (3 : Nat) + (2 : Nat)) = (m5 * (3 : Nat) + Nat.succ (nat_lit 1)) ∧ (∃ (n4 : Int), (∃ (n5 : Int), (∃ (xs2 : List (List Da)), (((List.set (List.set a m1 ([] ++ [Da.int IntKind.i64 k] ++ [Da.int IntKind.i64 n1, Da.sl xs])) m3 ([Da.int IntKind.i64 n2] ++ [Da.int IntKind.i64 (IntKind.wrap IntKind.i64 (k + (1 : Int)))] ++ [Da.sl xs1]))[m5]?) = some [(.int .i64 n4), (.int .i64 n5), (.sl xs2)] ∧ (∀ (a1 : Option Addr), (∀ (l : Nat), (∀ (r1 : Nat), ((a1 = a1 ∧ ((l) = (l) ∧ (r1) = (r1))) ∧ (∃ (n6 : Int), (∃ (n7 : Int), (∃ (xs3 : List (List Da)), (((List.set (List.set a m1 ([] ++ [Da.int IntKind.i64 k] ++ [Da.int IntKind.i64 n1, Da.sl xs])) m3 ([Da.int IntKind.i64 n2] ++ [Da.int IntKind.i64 (IntKind.wrap IntKind.i64 (k + (1 : Int)))] ++ [Da.sl xs1]))[m5]?) = some [(.int .i64 n6), (.int .i64 n7), (.sl xs3)] ∧ (Do (∀ (y : List Da), y ∈ xs3 → List.length y = Prod.fst ((3 : Nat), (40 : Nat), [At.d (Da.int IntKind.i64 (0 : Int)), At.d (Da.int IntKind.i64 (0 : Int)), At.e0])) ∧ (∃ (ys1 : List (List Da)), (∃ (n8 : Int), (XC Try.prog 69 [(.one (.ol 2000)), (Z (IntKind.wrap IntKind.i64 (IntKind.wrap IntKind.i64 (k + (1 : Int)) + (1 : Int))))] [(2000, (.mt 31 3 xs3))] (Z n8) [(2000, (.mt 31 3 ys1))] ∧ laws_markTermS_L2 r O n8 (IntKind.wrap IntKind.i64 (i + (1 : Int))) (List.set (List.set (List.set a m1 ([] ++ [Da.int IntKind.i64 k] ++ [Da.int IntKind.i64 n1, Da.sl xs])) m3 ([Da.int IntKind.i64 n2] ++ [Da.int IntKind.i64 (IntKind.wrap IntKind.i64 (k + (1 : Int)))] ++ [Da.sl xs1])) m5 ([Da.int IntKind.i64 n6, Da.int IntKind.i64 n7] ++ [Da.sl ys1] ++ []))))))))))))))))))))))))))))))))))))))))))
  (((Z k) = r ∧ [(2000, (.mt 31 3 a))] = O))) : laws_markTermS_L2 r O k i a := by
  unfold laws_markTermS_L2
  refine cl_of (E := env) (hs := laws_markTermS_h) envOk mixed ?_
  exact to_vc (by kernel_rfl) h
theorem laws_markTermS_of {k : Int} {o2000 : List (List Da)} {r : AV} {O : List (Nat × Ob)} (h : laws_markTermS_L2 r O k ((0 : Int)) o2000) : XC Try.prog 69 [(.one (.ol 2000)), (Z k)] [(2000, (.mt 31 3 o2000))] r O :=
  xc_of (E := env) (hs := laws_markTermS_h) (c := (bodyOf Try.f69)) (n := 34) (res := [.tmp 4]) (rs := .c (.i .i64)) (ks := [(2000, (false))]) (dir := [2000]) envOk mixed rfl Try.func69 (by kernel_rfl) (by kernel_rfl) (by kernel_rfl) (by kernel_rfl) (to_vc (by kernel_rfl) h)

/-- loop.example/g00461/laws.heldTermS -/
def laws_heldTermS_h : Hints := ⟨[(2, ⟨[0, 1, 5], [], [], [], [], [], []⟩)], []⟩
def laws_heldTermS_L2 (r : AV) (O : List (Nat × Ob)) (a : List (List Da)) (k : Int) (i : Int) : Prop := CL 40 Try.prog (subC (bodyOf Try.f70) [1, 0, 1, 0, 0]) (kont Try.prog env laws_heldTermS_h 40 (bodyOf Try.f70) [1, 0, 1, 0, 0] (vRet env [.tmp 4] (.c (.i .i64)) [] [] r O) (retKE (vRet env [.tmp 4] (.c (.i .i64)) [] [] r O))).1 (kont Try.prog env laws_heldTermS_h 40 (bodyOf Try.f70) [1, 0, 1, 0, 0] (vRet env [.tmp 4] (.c (.i .i64)) [] [] r O) (retKE (vRet env [.tmp 4] (.c (.i .i64)) [] [] r O))).2 ⟨[(0, (L a)), (1, (Z k)), (5, (Z i))], []⟩
theorem laws_heldTermS_L2_of {r : AV} {O : List (Nat × Ob)} {a : List (List Da)} {k : Int} {i : Int} (h : ifB (decide (i < (↑(List.length a) : Int)))
  ((∃ (m : Nat), (i = ((↑m : Int)) ∧ (∃ (n : Int), (∃ (n1 : Int), (∃ (xs : List (List Da)), ((a[m]?) = some [(.int .i64 n), (.int .i64 n1), (.sl xs)] ∧ ifB (decide (n ≠ k))
  (((Z ((-1 : Int))) = r ∧ [] = O))
  ((∃ (m1 : Nat), (i = ((↑m1 : Int)) ∧ (∃ (n2 : Int), (∃ (n3 : Int), (∃ (xs1 : List (List Da)), ((a[m1]?) = some [(.int .i64 n2), (.int .i64 n3), (.sl xs1)] ∧ ifB (decide (n3 ≠ IntKind.wrap IntKind.i64 (k + (1 : Int))))
  (((Z ((-1 : Int))) = r ∧ [] = O))
  ((∃ (m2 : Nat), (i = ((↑m2 : Int)) ∧ (∃ (n4 : Int), (∃ (n5 : Int), (∃ (xs2 : List (List Da)), ((a[m2]?) = some [(.int .i64 n4), (.int .i64 n5), (.sl xs2)] ∧ (∃ (n6 : Int), (XC Try.prog 70 [(L xs2), (Z (IntKind.wrap IntKind.i64 (IntKind.wrap IntKind.i64 (k + (1 : Int)) + (1 : Int))))] [] (Z n6) [] ∧ ifB (decide (n6 < (0 : Int)))
  (((Z ((-1 : Int))) = r ∧ [] = O))
  (laws_heldTermS_L2 r O a n6 (IntKind.wrap IntKind.i64 (i + (1 : Int)))))))))))))))))))))))))))
  (((Z k) = r ∧ [] = O))) : laws_heldTermS_L2 r O a k i := by
  unfold laws_heldTermS_L2
  refine cl_of (E := env) (hs := laws_heldTermS_h) envOk mixed ?_
  exact to_vc (by kernel_rfl) h
theorem laws_heldTermS_of {a : List (List Da)} {k : Int} {r : AV} {O : List (Nat × Ob)} (h : laws_heldTermS_L2 r O a k ((0 : Int))) : XC Try.prog 70 [(L a), (Z k)] [] r O :=
  xc_of (E := env) (hs := laws_heldTermS_h) (c := (bodyOf Try.f70)) (n := 40) (res := [.tmp 4]) (rs := .c (.i .i64)) (ks := []) (dir := []) envOk mixed rfl Try.func70 (by kernel_rfl) (by kernel_rfl) (by kernel_rfl) (by kernel_rfl) (to_vc (by kernel_rfl) h)

/-- loop.example/g00461/spec.Blind -/
def spec_Blind_h : Hints := ⟨[], []⟩
theorem spec_Blind_of {s : List (List Da)} {f : Int} {r : AV} {O : List (Nat × Ob)} (h : (∃ (b : Bool), (XC Try.prog 99 [(Z f), (Z ((0 : Int))), (Z (IntKind.wrap IntKind.i64 ((↑(List.length s) : Int) - (1 : Int))))] [] (B b) [] ∧ ifB b
  ((∃ (m : Nat), (f = ((↑m : Int)) ∧ (∃ (q : ByteArray), (∃ (n : Int), (∃ (b1 : Bool), ((s[m]?) = some [(.str q), (.int .i64 n), (.bool b1)] ∧ ((B b1) = r ∧ [] = O))))))))
  (((B (false)) = r ∧ [] = O))))) : XC Try.prog 71 [(L s), (Z f)] [] r O :=
  xc_of (E := env) (hs := spec_Blind_h) (c := (bodyOf Try.f71)) (n := 17) (res := [.tmp 4]) (rs := .c .b) (ks := []) (dir := []) envOk mixed rfl Try.func71 (by kernel_rfl) (by kernel_rfl) (by kernel_rfl) (by kernel_rfl) (to_vc (by kernel_rfl) h)

/-- loop.example/g00461/spec.l14Copy -/
def spec_l14Copy_h : Hints := ⟨[], []⟩
theorem spec_l14Copy_of {r_ : Int} {r_1 : Int} {r_2 : List (List Da)} {r_3 : Int} {r_4 : Int} {r_5 : List (List Da)} {r : AV} {O : List (Nat × Ob)} (h : (∃ (n : Int), (∃ (n1 : Int), (∃ (xs : List (List Da)), (XC Try.prog 100 [(.dat [(.int .i64 r_), (.int .i64 r_1), (.sl r_2)])] [] (.dat [(.int .i64 n), (.int .i64 n1), (.sl xs)]) [] ∧ (∃ (n2 : Int), (∃ (n3 : Int), (∃ (xs1 : List (List Da)), (XC Try.prog 100 [(.dat [(.int .i64 r_3), (.int .i64 r_4), (.sl r_5)])] [] (.dat [(.int .i64 n2), (.int .i64 n3), (.sl xs1)]) [] ∧ ((.dat [(.int .i64 n), (.int .i64 n1), (.sl xs), (.int .i64 n2), (.int .i64 n3), (.sl xs1)]) = r ∧ [] = O)))))))))) : XC Try.prog 72 [(.dat [(.int .i64 r_), (.int .i64 r_1), (.sl r_2), (.int .i64 r_3), (.int .i64 r_4), (.sl r_5)])] [] r O :=
  xc_of (E := env) (hs := spec_l14Copy_h) (c := (bodyOf Try.f72)) (n := 10) (res := [.cell 2 48]) (rs := .d [(.i .i64), (.i .i64), .l, (.i .i64), (.i .i64), .l]) (ks := []) (dir := []) envOk mixed rfl Try.func72 (by kernel_rfl) (by kernel_rfl) (by kernel_rfl) (by kernel_rfl) (to_vc (by kernel_rfl) h)

/-- loop.example/g00461/spec.l3Var -/
def spec_l3Var_h : Hints := ⟨[], []⟩
theorem spec_l3Var_of {v : Int} {r : AV} {O : List (Nat × Ob)} (h : ((.dat [(.int .i64 ((-1 : Int))), (.int .i64 v), (.sl [])]) = r ∧ [] = O)) : XC Try.prog 74 [(Z v)] [] r O :=
  xc_of (E := env) (hs := spec_l3Var_h) (c := (bodyOf Try.f74)) (n := 5) (res := [.cell 2 31]) (rs := .d [(.i .i64), (.i .i64), .l]) (ks := []) (dir := []) envOk mixed rfl Try.func74 (by kernel_rfl) (by kernel_rfl) (by kernel_rfl) (by kernel_rfl) (to_vc (by kernel_rfl) h)

/-- loop.example/g00461/spec.Make -/
def spec_Make_h : Hints := ⟨[], []⟩
theorem spec_Make_of {s : List (List Da)} {f : Int} {kids : List (List Da)} {r : AV} {O : List (Nat × Ob)} (h : (∃ (b : Bool), (XC Try.prog 71 [(L s), (Z f)] [] (B b) [] ∧ ifB b
  (ifB (decide ((↑(List.length kids) : Int) = (0 : Int)))
  (((.dat [(.int .i64 ((0 : Int))), (.int .i64 ((0 : Int))), (.sl [])]) = r ∧ [] = O))
  ((∃ (b1 : Bool), (XC Try.prog 71 [(L s), (Z f)] [] (B b1) [] ∧ ifB b1
  (ifB (decide ((↑(List.length kids) : Int) = (1 : Int)))
  ((∃ (m : Nat), (((0 : Int)) = ((↑m : Int)) ∧ (∃ (n : Int), (∃ (n1 : Int), (∃ (xs : List (List Da)), ((kids[m]?) = some [(.int .i64 n), (.int .i64 n1), (.sl xs)] ∧ (∃ (n2 : Int), (∃ (n3 : Int), (∃ (xs1 : List (List Da)), (XC Try.prog 59 [(L s), (.dat [(.int .i64 n), (.int .i64 n1), (.sl xs)])] [] (.dat [(.int .i64 n2), (.int .i64 n3), (.sl xs1)]) [] ∧ ((.dat [(.int .i64 n2), (.int .i64 n3), (.sl xs1)]) = r ∧ [] = O))))))))))))
  ((∃ (b2 : Bool), (XC Try.prog 99 [(Z f), (Z ((0 : Int))), (Z (IntKind.wrap IntKind.i64 ((↑(List.length s) : Int) - (1 : Int))))] [] (B b2) [] ∧ ifB (!b2)
  ((∃ (xs2 : List (List Da)), (XC Try.prog 107 [(L kids)] [] (L xs2) [] ∧ (∃ (n4 : Int), (∃ (n5 : Int), (∃ (xs3 : List (List Da)), (XC Try.prog 106 [(Z f), (L xs2)] [] (.dat [(.int .i64 n4), (.int .i64 n5), (.sl xs3)]) [] ∧ ((.dat [(.int .i64 n4), (.int .i64 n5), (.sl xs3)]) = r ∧ [] = O))))))))
  ((∃ (n6 : Int), (∃ (n7 : Int), (∃ (xs4 : List (List Da)), (XC Try.prog 106 [(Z f), (L kids)] [] (.dat [(.int .i64 n6), (.int .i64 n7), (.sl xs4)]) [] ∧ (∃ (n8 : Int), (∃ (n9 : Int), (∃ (xs5 : List (List Da)), (XC Try.prog 59 [(L s), (.dat [(.int .i64 n6), (.int .i64 n7), (.sl xs4)])] [] (.dat [(.int .i64 n8), (.int .i64 n9), (.sl xs5)]) [] ∧ ((.dat [(.int .i64 n8), (.int .i64 n9), (.sl xs5)]) = r ∧ [] = O))))))))))))))
  ((∃ (b3 : Bool), (XC Try.prog 99 [(Z f), (Z ((0 : Int))), (Z (IntKind.wrap IntKind.i64 ((↑(List.length s) : Int) - (1 : Int))))] [] (B b3) [] ∧ ifB (!b3)
  ((∃ (xs6 : List (List Da)), (XC Try.prog 107 [(L kids)] [] (L xs6) [] ∧ (∃ (n10 : Int), (∃ (n11 : Int), (∃ (xs7 : List (List Da)), (XC Try.prog 106 [(Z f), (L xs6)] [] (.dat [(.int .i64 n10), (.int .i64 n11), (.sl xs7)]) [] ∧ ((.dat [(.int .i64 n10), (.int .i64 n11), (.sl xs7)]) = r ∧ [] = O))))))))
  ((∃ (n12 : Int), (∃ (n13 : Int), (∃ (xs8 : List (List Da)), (XC Try.prog 106 [(Z f), (L kids)] [] (.dat [(.int .i64 n12), (.int .i64 n13), (.sl xs8)]) [] ∧ (∃ (n14 : Int), (∃ (n15 : Int), (∃ (xs9 : List (List Da)), (XC Try.prog 59 [(L s), (.dat [(.int .i64 n12), (.int .i64 n13), (.sl xs8)])] [] (.dat [(.int .i64 n14), (.int .i64 n15), (.sl xs9)]) [] ∧ ((.dat [(.int .i64 n14), (.int .i64 n15), (.sl xs9)]) = r ∧ [] = O)))))))))))))))))
  ((∃ (b4 : Bool), (XC Try.prog 71 [(L s), (Z f)] [] (B b4) [] ∧ ifB b4
  (ifB (decide ((↑(List.length kids) : Int) = (1 : Int)))
  ((∃ (m1 : Nat), (((0 : Int)) = ((↑m1 : Int)) ∧ (∃ (n16 : Int), (∃ (n17 : Int), (∃ (xs10 : List (List Da)), ((kids[m1]?) = some [(.int .i64 n16), (.int .i64 n17), (.sl xs10)] ∧ (∃ (n18 : Int), (∃ (n19 : Int), (∃ (xs11 : List (List Da)), (XC Try.prog 59 [(L s), (.dat [(.int .i64 n16), (.int .i64 n17), (.sl xs10)])] [] (.dat [(.int .i64 n18), (.int .i64 n19), (.sl xs11)]) [] ∧ ((.dat [(.int .i64 n18), (.int .i64 n19), (.sl xs11)]) = r ∧ [] = O))))))))))))
  ((∃ (b5 : Bool), (XC Try.prog 99 [(Z f), (Z ((0 : Int))), (Z (IntKind.wrap IntKind.i64 ((↑(List.length s) : Int) - (1 : Int))))] [] (B b5) [] ∧ ifB (!b5)
  ((∃ (xs12 : List (List Da)), (XC Try.prog 107 [(L kids)] [] (L xs12) [] ∧ (∃ (n20 : Int), (∃ (n21 : Int), (∃ (xs13 : List (List Da)), (XC Try.prog 106 [(Z f), (L xs12)] [] (.dat [(.int .i64 n20), (.int .i64 n21), (.sl xs13)]) [] ∧ ((.dat [(.int .i64 n20), (.int .i64 n21), (.sl xs13)]) = r ∧ [] = O))))))))
  ((∃ (n22 : Int), (∃ (n23 : Int), (∃ (xs14 : List (List Da)), (XC Try.prog 106 [(Z f), (L kids)] [] (.dat [(.int .i64 n22), (.int .i64 n23), (.sl xs14)]) [] ∧ (∃ (n24 : Int), (∃ (n25 : Int), (∃ (xs15 : List (List Da)), (XC Try.prog 59 [(L s), (.dat [(.int .i64 n22), (.int .i64 n23), (.sl xs14)])] [] (.dat [(.int .i64 n24), (.int .i64 n25), (.sl xs15)]) [] ∧ ((.dat [(.int .i64 n24), (.int .i64 n25), (.sl xs15)]) = r ∧ [] = O))))))))))))))
  ((∃ (b6 : Bool), (XC Try.prog 99 [(Z f), (Z ((0 : Int))), (Z (IntKind.wrap IntKind.i64 ((↑(List.length s) : Int) - (1 : Int))))] [] (B b6) [] ∧ ifB (!b6)
  ((∃ (xs16 : List (List Da)), (XC Try.prog 107 [(L kids)] [] (L xs16) [] ∧ (∃ (n26 : Int), (∃ (n27 : Int), (∃ (xs17 : List (List Da)), (XC Try.prog 106 [(Z f), (L xs16)] [] (.dat [(.int .i64 n26), (.int .i64 n27), (.sl xs17)]) [] ∧ ((.dat [(.int .i64 n26), (.int .i64 n27), (.sl xs17)]) = r ∧ [] = O))))))))
  ((∃ (n28 : Int), (∃ (n29 : Int), (∃ (xs18 : List (List Da)), (XC Try.prog 106 [(Z f), (L kids)] [] (.dat [(.int .i64 n28), (.int .i64 n29), (.sl xs18)]) [] ∧ (∃ (n30 : Int), (∃ (n31 : Int), (∃ (xs19 : List (List Da)), (XC Try.prog 59 [(L s), (.dat [(.int .i64 n28), (.int .i64 n29), (.sl xs18)])] [] (.dat [(.int .i64 n30), (.int .i64 n31), (.sl xs19)]) [] ∧ ((.dat [(.int .i64 n30), (.int .i64 n31), (.sl xs19)]) = r ∧ [] = O))))))))))))))))))) : XC Try.prog 73 [(L s), (Z f), (L kids)] [] r O :=
  xc_of (E := env) (hs := spec_Make_h) (c := (bodyOf Try.f73)) (n := 44) (res := [.cell 6 31]) (rs := .d [(.i .i64), (.i .i64), .l]) (ks := []) (dir := []) envOk mixed rfl Try.func73 (by kernel_rfl) (by kernel_rfl) (by kernel_rfl) (by kernel_rfl) (to_vc (by kernel_rfl) h)

/-- loop.example/g00461/impl.Blind -/
def impl_Blind_h : Hints := ⟨[], []⟩
theorem impl_Blind_of {s : List (List Da)} {f : Int} {r : AV} {O : List (Nat × Ob)} (h : (∃ (b : Bool), (XC Try.prog 108 [(L s), (Z f)] [] (B b) [] ∧ ifB b
  ((∃ (m : Nat), (f = ((↑m : Int)) ∧ (∃ (q : ByteArray), (∃ (n : Int), (∃ (b1 : Bool), ((s[m]?) = some [(.str q), (.int .i64 n), (.bool b1)] ∧ ((B b1) = r ∧ [] = O))))))))
  (((B (false)) = r ∧ [] = O))))) : XC Try.prog 75 [(L s), (Z f)] [] r O :=
  xc_of (E := env) (hs := impl_Blind_h) (c := (bodyOf Try.f75)) (n := 15) (res := [.tmp 4]) (rs := .c .b) (ks := []) (dir := []) envOk mixed rfl Try.func75 (by kernel_rfl) (by kernel_rfl) (by kernel_rfl) (by kernel_rfl) (to_vc (by kernel_rfl) h)

/-- loop.example/g00461/impl.copyTerm -/
def impl_copyTerm_h : Hints := ⟨[], []⟩
theorem impl_copyTerm_of {t : Int} {t1 : Int} {t2 : List (List Da)} {r : AV} {O : List (Nat × Ob)} (h : (∃ (xs : List (List Da)), (XC Try.prog 109 [(L t2)] [] (.one (.ol 0)) [(0, (.tr 31 3 xs))] ∧ ((.agg [(.d (.int .i64 t)), (.d (.int .i64 t1)), (.ol 0)]) = r ∧ [(0, (.tr 31 3 xs))] = O)))) : XC Try.prog 76 [(.dat [(.int .i64 t), (.int .i64 t1), (.sl t2)])] [] r O :=
  xc_of (E := env) (hs := impl_copyTerm_h) (c := (bodyOf Try.f76)) (n := 8) (res := [.cell 2 31]) (rs := .s [.k (.i .i64), .k (.i .i64), .o 31 3]) (ks := []) (dir := []) envOk mixed rfl Try.func76 (by kernel_rfl) (by kernel_rfl) (by kernel_rfl) (by kernel_rfl) (to_vc (by kernel_rfl) h)

/-- loop.example/g00461/impl.variable -/
def impl_variable_h : Hints := ⟨[], []⟩
theorem impl_variable_of {v : Int} {r : AV} {O : List (Nat × Ob)} (h : ((.agg [(.d (.int .i64 ((-1 : Int)))), (.d (.int .i64 v)), .e0]) = r ∧ [] = O)) : XC Try.prog 78 [(Z v)] [] r O :=
  xc_of (E := env) (hs := impl_variable_h) (c := (bodyOf Try.f78)) (n := 5) (res := [.cell 2 31]) (rs := .s [.k (.i .i64), .k (.i .i64), .e]) (ks := []) (dir := []) envOk mixed rfl Try.func78 (by kernel_rfl) (by kernel_rfl) (by kernel_rfl) (by kernel_rfl) (to_vc (by kernel_rfl) h)

/-- loop.example/g00461/impl.Make -/
def impl_Make_h : Hints := ⟨[], []⟩
theorem impl_Make_of {s : List (List Da)} {f : Int} {kids : List (List Da)} {r : AV} {O : List (Nat × Ob)} (h : (∃ (b : Bool), (XC Try.prog 108 [(L s), (Z f)] [] (B b) [] ∧ ifB (!b)
  ((∃ (xs : List (List Da)), (XC Try.prog 109 [(L kids)] [] (.one (.ol 0)) [(0, (.tr 31 3 xs))] ∧ ((.agg [(.d (.int .i64 f)), (.d (.int .i64 ((0 : Int)))), (.ol 0)]) = r ∧ [(0, (.tr 31 3 xs))] = O))))
  ((∃ (m : Nat), (f = ((↑m : Int)) ∧ (∃ (q : ByteArray), (∃ (n : Int), (∃ (b1 : Bool), ((s[m]?) = some [(.str q), (.int .i64 n), (.bool b1)] ∧ ifB b1
  (ifB (decide ((↑(List.length kids) : Int) = (0 : Int)))
  (((.agg [(.d (.int .i64 ((0 : Int)))), (.d (.int .i64 ((0 : Int)))), (.ol 0)]) = r ∧ [(0, (.tr 31 3 []))] = O))
  ((∃ (m1 : Nat), (f = ((↑m1 : Int)) ∧ (∃ (q1 : ByteArray), (∃ (n1 : Int), (∃ (b2 : Bool), ((s[m1]?) = some [(.str q1), (.int .i64 n1), (.bool b2)] ∧ ifB b2
  (ifB (decide ((↑(List.length kids) : Int) = (1 : Int)))
  ((∃ (m2 : Nat), (((0 : Int)) = ((↑m2 : Int)) ∧ (∃ (n2 : Int), (∃ (n3 : Int), (∃ (xs1 : List (List Da)), ((kids[m2]?) = some [(.int .i64 n2), (.int .i64 n3), (.sl xs1)] ∧ (∃ (n4 : Int), (∃ (n5 : Int), (∃ (xs2 : List (List Da)), (XC Try.prog 65 [(L s), (.dat [(.int .i64 n2), (.int .i64 n3), (.sl xs1)])] [] (.agg [(.d (.int .i64 n4)), (.d (.int .i64 n5)), (.ol 0)]) [(0, (.tr 31 3 xs2))] ∧ ((.agg [(.d (.int .i64 n4)), (.d (.int .i64 n5)), (.ol 0)]) = r ∧ [(0, (.tr 31 3 xs2))] = O))))))))))))
  ((∃ (n6 : Int), (∃ (n7 : Int), (∃ (xs3 : List (List Da)), (XC Try.prog 65 [(L s), (.dat [(.int .i64 f), (.int .i64 ((0 : Int))), (.sl kids)])] [] (.agg [(.d (.int .i64 n6)), (.d (.int .i64 n7)), (.ol 0)]) [(0, (.tr 31 3 xs3))] ∧ ((.agg [(.d (.int .i64 n6)), (.d (.int .i64 n7)), (.ol 0)]) = r ∧ [(0, (.tr 31 3 xs3))] = O)))))))
  ((∃ (n8 : Int), (∃ (n9 : Int), (∃ (xs4 : List (List Da)), (XC Try.prog 65 [(L s), (.dat [(.int .i64 f), (.int .i64 ((0 : Int))), (.sl kids)])] [] (.agg [(.d (.int .i64 n8)), (.d (.int .i64 n9)), (.ol 0)]) [(0, (.tr 31 3 xs4))] ∧ ((.agg [(.d (.int .i64 n8)), (.d (.int .i64 n9)), (.ol 0)]) = r ∧ [(0, (.tr 31 3 xs4))] = O))))))))))))))
  ((∃ (m3 : Nat), (f = ((↑m3 : Int)) ∧ (∃ (q2 : ByteArray), (∃ (n10 : Int), (∃ (b3 : Bool), ((s[m3]?) = some [(.str q2), (.int .i64 n10), (.bool b3)] ∧ ifB b3
  (ifB (decide ((↑(List.length kids) : Int) = (1 : Int)))
  ((∃ (m4 : Nat), (((0 : Int)) = ((↑m4 : Int)) ∧ (∃ (n11 : Int), (∃ (n12 : Int), (∃ (xs5 : List (List Da)), ((kids[m4]?) = some [(.int .i64 n11), (.int .i64 n12), (.sl xs5)] ∧ (∃ (n13 : Int), (∃ (n14 : Int), (∃ (xs6 : List (List Da)), (XC Try.prog 65 [(L s), (.dat [(.int .i64 n11), (.int .i64 n12), (.sl xs5)])] [] (.agg [(.d (.int .i64 n13)), (.d (.int .i64 n14)), (.ol 0)]) [(0, (.tr 31 3 xs6))] ∧ ((.agg [(.d (.int .i64 n13)), (.d (.int .i64 n14)), (.ol 0)]) = r ∧ [(0, (.tr 31 3 xs6))] = O))))))))))))
  ((∃ (n15 : Int), (∃ (n16 : Int), (∃ (xs7 : List (List Da)), (XC Try.prog 65 [(L s), (.dat [(.int .i64 f), (.int .i64 ((0 : Int))), (.sl kids)])] [] (.agg [(.d (.int .i64 n15)), (.d (.int .i64 n16)), (.ol 0)]) [(0, (.tr 31 3 xs7))] ∧ ((.agg [(.d (.int .i64 n15)), (.d (.int .i64 n16)), (.ol 0)]) = r ∧ [(0, (.tr 31 3 xs7))] = O)))))))
  ((∃ (n17 : Int), (∃ (n18 : Int), (∃ (xs8 : List (List Da)), (XC Try.prog 65 [(L s), (.dat [(.int .i64 f), (.int .i64 ((0 : Int))), (.sl kids)])] [] (.agg [(.d (.int .i64 n17)), (.d (.int .i64 n18)), (.ol 0)]) [(0, (.tr 31 3 xs8))] ∧ ((.agg [(.d (.int .i64 n17)), (.d (.int .i64 n18)), (.ol 0)]) = r ∧ [(0, (.tr 31 3 xs8))] = O))))))))))))))))))))))) : XC Try.prog 77 [(L s), (Z f), (L kids)] [] r O :=
  xc_of (E := env) (hs := impl_Make_h) (c := (bodyOf Try.f77)) (n := 49) (res := [.cell 6 31]) (rs := .s [.k (.i .i64), .k (.i .i64), .o 31 3]) (ks := []) (dir := []) envOk mixed rfl Try.func77 (by kernel_rfl) (by kernel_rfl) (by kernel_rfl) (by kernel_rfl) (to_vc (by kernel_rfl) h)

/-- loop.example/g00461/spec.l1In -/
def spec_l1In_h : Hints := ⟨[], []⟩
theorem spec_l1In_of {x : Int} {lo : Int} {hi : Int} {r : AV} {O : List (Nat × Ob)} (h : ifB (decide (lo ≤ x))
  (((B (decide (x ≤ hi))) = r ∧ [] = O))
  (((B (false)) = r ∧ [] = O))) : XC Try.prog 99 [(Z x), (Z lo), (Z hi)] [] r O :=
  xc_of (E := env) (hs := spec_l1In_h) (c := (bodyOf Try.f99)) (n := 15) (res := [.tmp 6]) (rs := .c .b) (ks := []) (dir := []) envOk mixed rfl Try.func99 (by kernel_rfl) (by kernel_rfl) (by kernel_rfl) (by kernel_rfl) (to_vc (by kernel_rfl) h)

/-- loop.example/g00461/spec.l3Copy -/
def spec_l3Copy_h : Hints := ⟨[(3, ⟨[1, 2, 3, 4], [], [], [(3, (2, (31, 3)))], [], [3], []⟩)], []⟩
def spec_l3Copy_L3 (r : AV) (O : List (Nat × Ob)) (i : Int) (t : Int) (t1 : Int) (t2 : List (List Da)) (s2 : Int) (s21 : Int) (out : Int) (out1 : Int) (out2 : List (List Da)) : Prop := CL 29 Try.prog (subC (bodyOf Try.f100) [1, 1, 0, 1, 0, 0]) (kont Try.prog env spec_l3Copy_h 29 (bodyOf Try.f100) [1, 1, 0, 1, 0, 0] (vRet env [.cell 2 31] (.d [(.i .i64), (.i .i64), .l]) [] [] r O) (retKE (vRet env [.cell 2 31] (.d [(.i .i64), (.i .i64), .l]) [] [] r O))).1 (kont Try.prog env spec_l3Copy_h 29 (bodyOf Try.f100) [1, 1, 0, 1, 0, 0] (vRet env [.cell 2 31] (.d [(.i .i64), (.i .i64), .l]) [] [] r O) (retKE (vRet env [.cell 2 31] (.d [(.i .i64), (.i .i64), .l]) [] [] r O))).2 ⟨[(1, (.one (.op 1900 0))), (2, (.one (.op 1901 0))), (3, (.one (.op 1902 0))), (4, (Z i))], [(1900, (.var [(.d (.int .i64 t)), (.d (.int .i64 t1)), (.d (.sl t2))])), (1901, (.var [(.d (.int .i64 s2)), (.d (.int .i64 s21)), .e0])), (1902, (.var [(.d (.int .i64 out)), (.d (.int .i64 out1)), (.ol 1903)])), (1903, (.lst 31 3 out2))]⟩
theorem spec_l3Copy_L3_of {r : AV} {O : List (Nat × Ob)} {i : Int} {t : Int} {t1 : Int} {t2 : List (List Da)} {s2 : Int} {s21 : Int} {out : Int} {out1 : Int} {out2 : List (List Da)} (h : ifB (decide (i < (↑(List.length t2) : Int)))
  ((∃ (m : Nat), (i = ((↑m : Int)) ∧ (∃ (n : Int), (∃ (n1 : Int), (∃ (xs : List (List Da)), ((t2[m]?) = some [(.int .i64 n), (.int .i64 n1), (.sl xs)] ∧ (∃ (n2 : Int), (∃ (n3 : Int), (∃ (xs1 : List (List Da)), (XC Try.prog 100 [(.dat [(.int .i64 n), (.int .i64 n1), (.sl xs)])] [] (.dat [(.int .i64 n2), (.int .i64 n3), (.sl xs1)]) [] ∧ (Do ((List.length out2 + List.length [[Da.int IntKind.i64 n2, Da.int IntKind.i64 n3, Da.sl xs1]]) * (40 : Nat) ≤ (140737488355328 : Nat)) ∧ spec_l3Copy_L3 r O (IntKind.wrap IntKind.i64 (i + (1 : Int))) t t1 t2 s2 s21 out out1 (out2 ++ [[Da.int IntKind.i64 n2, Da.int IntKind.i64 n3, Da.sl xs1]])))))))))))))
  (((.dat [(.int .i64 out), (.int .i64 out1), (.sl out2)]) = r ∧ [] = O))) : spec_l3Copy_L3 r O i t t1 t2 s2 s21 out out1 out2 := by
  unfold spec_l3Copy_L3
  refine cl_of (E := env) (hs := spec_l3Copy_h) envOk mixed ?_
  exact to_vc (by kernel_rfl) h
theorem spec_l3Copy_of {t : Int} {t1 : Int} {t2 : List (List Da)} {r : AV} {O : List (Nat × Ob)} (h : spec_l3Copy_L3 r O ((0 : Int)) t t1 t2 ((0 : Int)) ((0 : Int)) t t1 []) : XC Try.prog 100 [(.dat [(.int .i64 t), (.int .i64 t1), (.sl t2)])] [] r O :=
  xc_of (E := env) (hs := spec_l3Copy_h) (c := (bodyOf Try.f100)) (n := 29) (res := [.cell 2 31]) (rs := .d [(.i .i64), (.i .i64), .l]) (ks := []) (dir := []) envOk mixed rfl Try.func100 (by kernel_rfl) (by kernel_rfl) (by kernel_rfl) (by kernel_rfl) (to_vc (by kernel_rfl) h)

/-- loop.example/g00461/spec.l4Put -/
def spec_l4Put_h : Hints := ⟨[(2, ⟨[0, 3, 5], [], [], [], [], [], []⟩)], []⟩
def spec_l4Put_L2 (r : AV) (O : List (Nat × Ob)) (list : List (List Da)) (at_ : Int) (t : Int) (t1 : Int) (t2 : List (List Da)) : Prop := CL 36 Try.prog (subC (bodyOf Try.f101) [1, 1, 0, 0, 0]) (kont Try.prog env spec_l4Put_h 36 (bodyOf Try.f101) [1, 1, 0, 0, 0] (vRet env [.tmp 4] (.b 31 3) [] [] r O) (retKE (vRet env [.tmp 4] (.b 31 3) [] [] r O))).1 (kont Try.prog env spec_l4Put_h 36 (bodyOf Try.f101) [1, 1, 0, 0, 0] (vRet env [.tmp 4] (.b 31 3) [] [] r O) (retKE (vRet env [.tmp 4] (.b 31 3) [] [] r O))).2 ⟨[(0, (L list)), (3, (.one (.op 1900 0))), (5, (Z at_))], [(1900, (.var [(.d (.int .i64 t)), (.d (.int .i64 t1)), (.d (.sl t2))]))]⟩
theorem spec_l4Put_L2_of {r : AV} {O : List (Nat × Ob)} {list : List (List Da)} {at_ : Int} {t : Int} {t1 : Int} {t2 : List (List Da)} (h : ifB (decide (at_ < (↑(List.length list) : Int)))
  ((∃ (m : Nat), (at_ = ((↑m : Int)) ∧ (∃ (n : Int), (∃ (n1 : Int), (∃ (xs : List (List Da)), ((list[m]?) = some [(.int .i64 n), (.int .i64 n1), (.sl xs)] ∧ (∃ (b : Bool), (XC Try.prog 110 [(.dat [(.int .i64 t), (.int .i64 t1), (.sl t2)]), (.dat [(.int .i64 n), (.int .i64 n1), (.sl xs)])] [] (B b) [] ∧ ifB (!b)
  (spec_l4Put_L2 r O list (IntKind.wrap IntKind.i64 (at_ + (1 : Int))) t t1 t2)
  ((∃ (n2 : Nat), (at_ = ((↑n2 : Int)) ∧ (Do ((0 : Nat) ≤ n2 ∧ n2 ≤ List.length list) ∧ (Do (∀ (c : List Da), c ∈ list → List.length c = TI.n { agg := true, n := (3 : Nat), b := (40 : Nat), el := none, fs := [some ((0 : Nat), (1 : Nat), false), some ((1 : Nat), (1 : Nat), false), some ((2 : Nat), (1 : Nat), false)], pr := (5 : Nat), ik := none }) ∧ (Do (∀ (y : List Da), y ∈ List.drop (0 : Nat) (List.take n2 list) → List.length y = Prod.fst ((3 : Nat), (40 : Nat), [At.d (Da.int IntKind.i64 (0 : Int)), At.d (Da.int IntKind.i64 (0 : Int)), At.e0])) ∧ (Do ((List.length ([] : List (List Da)) + List.length (List.drop (0 : Nat) (List.take n2 list))) * (40 : Nat) ≤ (140737488355328 : Nat)) ∧ (Do ((List.length ([] ++ List.drop (0 : Nat) (List.take n2 list)) + List.length [[Da.int IntKind.i64 t, Da.int IntKind.i64 t1, Da.sl t2]]) * (40 : Nat) ≤ (140737488355328 : Nat)) ∧ (∃ (n3 : Nat), (at_ = ((↑n3 : Int)) ∧ (Do (n3 ≤ List.length list ∧ List.length list ≤ List.length list) ∧ (Do (∀ (c : List Da), c ∈ list → List.length c = TI.n { agg := true, n := (3 : Nat), b := (40 : Nat), el := none, fs := [some ((0 : Nat), (1 : Nat), false), some ((1 : Nat), (1 : Nat), false), some ((2 : Nat), (1 : Nat), false)], pr := (5 : Nat), ik := none }) ∧ (Do (∀ (y : List Da), y ∈ List.drop n3 (List.take (List.length list) list) → List.length y = Prod.fst ((3 : Nat), (40 : Nat), [At.d (Da.int IntKind.i64 (0 : Int)), At.d (Da.int IntKind.i64 (0 : Int)), At.e0])) ∧ (Do ((List.length ([] ++ List.drop (0 : Nat) (List.take n2 list) ++ [[Da.int IntKind.i64 t, Da.int IntKind.i64 t1, Da.sl t2]]) + List.length (List.drop n3 (List.take (List.length list) list))) * (40 : Nat) ≤ (140737488355328 : Nat)) ∧ ((.one (.ol 0)) = r ∧ [(0, (.lst 31 3 ([] ++ List.drop (0 : Nat) (List.take n2 list) ++ [[Da.int IntKind.i64 t, Da.int IntKind.i64 t1, Da.sl t2]] ++ List.drop n3 (List.take (List.length list) list))))] = O))))))))))))))))))))))))
  ((∃ (n4 : Nat), (at_ = ((↑n4 : Int)) ∧ (Do ((0 : Nat) ≤ n4 ∧ n4 ≤ List.length list) ∧ (Do (∀ (c : List Da), c ∈ list → List.length c = TI.n { agg := true, n := (3 : Nat), b := (40 : Nat), el := none, fs := [some ((0 : Nat), (1 : Nat), false), some ((1 : Nat), (1 : Nat), false), some ((2 : Nat), (1 : Nat), false)], pr := (5 : Nat), ik := none }) ∧ (Do (∀ (y : List Da), y ∈ List.drop (0 : Nat) (List.take n4 list) → List.length y = Prod.fst ((3 : Nat), (40 : Nat), [At.d (Da.int IntKind.i64 (0 : Int)), At.d (Da.int IntKind.i64 (0 : Int)), At.e0])) ∧ (Do ((List.length ([] : List (List Da)) + List.length (List.drop (0 : Nat) (List.take n4 list))) * (40 : Nat) ≤ (140737488355328 : Nat)) ∧ (Do ((List.length ([] ++ List.drop (0 : Nat) (List.take n4 list)) + List.length [[Da.int IntKind.i64 t, Da.int IntKind.i64 t1, Da.sl t2]]) * (40 : Nat) ≤ (140737488355328 : Nat)) ∧ (∃ (n5 : Nat), (at_ = ((↑n5 : Int)) ∧ (Do (n5 ≤ List.length list ∧ List.length list ≤ List.length list) ∧ (Do (∀ (c : List Da), c ∈ list → List.length c = TI.n { agg := true, n := (3 : Nat), b := (40 : Nat), el := none, fs := [some ((0 : Nat), (1 : Nat), false), some ((1 : Nat), (1 : Nat), false), some ((2 : Nat), (1 : Nat), false)], pr := (5 : Nat), ik := none }) ∧ (Do (∀ (y : List Da), y ∈ List.drop n5 (List.take (List.length list) list) → List.length y = Prod.fst ((3 : Nat), (40 : Nat), [At.d (Da.int IntKind.i64 (0 : Int)), At.d (Da.int IntKind.i64 (0 : Int)), At.e0])) ∧ (Do ((List.length ([] ++ List.drop (0 : Nat) (List.take n4 list) ++ [[Da.int IntKind.i64 t, Da.int IntKind.i64 t1, Da.sl t2]]) + List.length (List.drop n5 (List.take (List.length list) list))) * (40 : Nat) ≤ (140737488355328 : Nat)) ∧ ((.one (.ol 0)) = r ∧ [(0, (.lst 31 3 ([] ++ List.drop (0 : Nat) (List.take n4 list) ++ [[Da.int IntKind.i64 t, Da.int IntKind.i64 t1, Da.sl t2]] ++ List.drop n5 (List.take (List.length list) list))))] = O)))))))))))))))) : spec_l4Put_L2 r O list at_ t t1 t2 := by
  unfold spec_l4Put_L2
  refine cl_of (E := env) (hs := spec_l4Put_h) envOk mixed ?_
  exact to_vc (by kernel_rfl) h
theorem spec_l4Put_of {list : List (List Da)} {t : Int} {t1 : Int} {t2 : List (List Da)} {r : AV} {O : List (Nat × Ob)} (h : spec_l4Put_L2 r O list ((0 : Int)) t t1 t2) : XC Try.prog 101 [(L list), (.dat [(.int .i64 t), (.int .i64 t1), (.sl t2)])] [] r O :=
  xc_of (E := env) (hs := spec_l4Put_h) (c := (bodyOf Try.f101)) (n := 36) (res := [.tmp 4]) (rs := .b 31 3) (ks := []) (dir := []) envOk mixed rfl Try.func101 (by kernel_rfl) (by kernel_rfl) (by kernel_rfl) (by kernel_rfl) (to_vc (by kernel_rfl) h)

/-- loop.example/g00461/impl.from -/
def impl_from_h : Hints := ⟨[], []⟩
theorem impl_from_of {n : Int} {low : Int} {high : Int} {r : AV} {O : List (Nat × Ob)} (h : ifB (decide (low ≤ n))
  (((B (decide (n ≤ high))) = r ∧ [] = O))
  (((B (false)) = r ∧ [] = O))) : XC Try.prog 102 [(Z n), (Z low), (Z high)] [] r O :=
  xc_of (E := env) (hs := impl_from_h) (c := (bodyOf Try.f102)) (n := 15) (res := [.tmp 6]) (rs := .c .b) (ks := []) (dir := []) envOk mixed rfl Try.func102 (by kernel_rfl) (by kernel_rfl) (by kernel_rfl) (by kernel_rfl) (to_vc (by kernel_rfl) h)

/-- slices.Clone[[]loop.example/g00461/impl.Term,loop.example/g00461/impl.Term] -/
def slices_Clone_Term_h : Hints := ⟨[], []⟩
theorem slices_Clone_Term_of {s : List (List Da)} {r : AV} {O : List (Nat × Ob)} (h : (((List.flatten s = []) → ((.one (.ol 0)) = r ∧ [(0, (.lst 31 3 []))] = O)) ∧ (Do (∀ (y : List Da), y ∈ s → List.length y = Prod.fst ((3 : Nat), (40 : Nat), [At.d (Da.int IntKind.i64 (0 : Int)), At.d (Da.int IntKind.i64 (0 : Int)), At.e0])) ∧ (Do ((List.length ([] : List (List Da)) + List.length s) * (40 : Nat) ≤ (140737488355328 : Nat)) ∧ ((.one (.ol 0)) = r ∧ [(0, (.lst 31 3 ([] ++ s)))] = O))))) : XC Try.prog 103 [(L s)] [] r O :=
  xc_of (E := env) (hs := slices_Clone_Term_h) (c := (bodyOf Try.f103)) (n := 8) (res := [.tmp 2]) (rs := .b 31 3) (ks := []) (dir := []) envOk mixed rfl Try.func103 (by kernel_rfl) (by kernel_rfl) (by kernel_rfl) (by kernel_rfl) (to_vc (by kernel_rfl) h)

/-- slices.SortStableFunc[[]loop.example/g00461/impl.Term,loop.example/g00461/impl.Term] -/
def slices_SortStableFunc_Term_impl_compare_h : Hints := ⟨[], []⟩
theorem slices_SortStableFunc_Term_impl_compare_of {o2000 : List (List Da)} {r : AV} {O : List (Nat × Ob)} (h : (∃ (xs : List (List Da)), (XC Try.prog 121 [(.one (.ol 2000)), (Z ((↑(List.length o2000) : Int))), (.one (.d (.fn 105)))] [(2000, (.lst 31 3 o2000))] (.tup []) [(2000, (.lst 31 3 xs))] ∧ ((.tup []) = r ∧ [(2000, (.lst 31 3 xs))] = O)))) : XC Try.prog 104 [(.one (.ol 2000)), (.one (.d (.fn 105)))] [(2000, (.lst 31 3 o2000))] r O :=
  xc_of (E := envA) (hs := slices_SortStableFunc_Term_impl_compare_h) (c := (bodyOf Try.f104)) (n := 9) (res := []) (rs := .t []) (ks := [(2000, (false))]) (dir := [2000]) envAOk mixed rfl Try.func104 (by kernel_rfl) (by kernel_rfl) (by kernel_rfl) (by kernel_rfl) (to_vc (by kernel_rfl) h)

/-- loop.example/g00461/spec.l3List -/
def spec_l3List_h : Hints := ⟨[(3, ⟨[0, 3, 4], [], [], [], [], [3], []⟩)], []⟩
def spec_l3List_L3 (r : AV) (O : List (Nat × Ob)) (list : List (List Da)) (i : Int) (out : List (List Da)) : Prop := CL 21 Try.prog (subC (bodyOf Try.f107) [1, 1, 0, 1, 0, 0]) (kont Try.prog env spec_l3List_h 21 (bodyOf Try.f107) [1, 1, 0, 1, 0, 0] (vRet env [.tmp 2] (.c .l) [] [] r O) (retKE (vRet env [.tmp 2] (.c .l) [] [] r O))).1 (kont Try.prog env spec_l3List_h 21 (bodyOf Try.f107) [1, 1, 0, 1, 0, 0] (vRet env [.tmp 2] (.c .l) [] [] r O) (retKE (vRet env [.tmp 2] (.c .l) [] [] r O))).2 ⟨[(0, (L list)), (3, (.one (.ol 1900))), (4, (Z i))], [(1900, (.lst 31 3 out))]⟩
theorem spec_l3List_L3_of {r : AV} {O : List (Nat × Ob)} {list : List (List Da)} {i : Int} {out : List (List Da)} (h : ifB (decide (i < (↑(List.length list) : Int)))
  ((∃ (m : Nat), (i = ((↑m : Int)) ∧ (∃ (n : Int), (∃ (n1 : Int), (∃ (xs : List (List Da)), ((list[m]?) = some [(.int .i64 n), (.int .i64 n1), (.sl xs)] ∧ (∃ (n2 : Int), (∃ (n3 : Int), (∃ (xs1 : List (List Da)), (XC Try.prog 100 [(.dat [(.int .i64 n), (.int .i64 n1), (.sl xs)])] [] (.dat [(.int .i64 n2), (.int .i64 n3), (.sl xs1)]) [] ∧ (Do ((List.length out + List.length [[Da.int IntKind.i64 n2, Da.int IntKind.i64 n3, Da.sl xs1]]) * (40 : Nat) ≤ (140737488355328 : Nat)) ∧ spec_l3List_L3 r O list (IntKind.wrap IntKind.i64 (i + (1 : Int))) (out ++ [[Da.int IntKind.i64 n2, Da.int IntKind.i64 n3, Da.sl xs1]])))))))))))))
  (((L out) = r ∧ [] = O))) : spec_l3List_L3 r O list i out := by
  unfold spec_l3List_L3
  refine cl_of (E := env) (hs := spec_l3List_h) envOk mixed ?_
  exact to_vc (by kernel_rfl) h
theorem spec_l3List_of {list : List (List Da)} {r : AV} {O : List (Nat × Ob)} (h : spec_l3List_L3 r O list ((0 : Int)) []) : XC Try.prog 107 [(L list)] [] r O :=
  xc_of (E := env) (hs := spec_l3List_h) (c := (bodyOf Try.f107)) (n := 21) (res := [.tmp 2]) (rs := .c .l) (ks := []) (dir := []) envOk mixed rfl Try.func107 (by kernel_rfl) (by kernel_rfl) (by kernel_rfl) (by kernel_rfl) (to_vc (by kernel_rfl) h)

/-- loop.example/g00461/spec.l3Of -/
def spec_l3Of_h : Hints := ⟨[], []⟩
theorem spec_l3Of_of {f : Int} {kids : List (List Da)} {r : AV} {O : List (Nat × Ob)} (h : ((.dat [(.int .i64 f), (.int .i64 ((0 : Int))), (.sl kids)]) = r ∧ [] = O)) : XC Try.prog 106 [(Z f), (L kids)] [] r O :=
  xc_of (E := env) (hs := spec_l3Of_h) (c := (bodyOf Try.f106)) (n := 8) (res := [.cell 4 31]) (rs := .d [(.i .i64), (.i .i64), .l]) (ks := []) (dir := []) envOk mixed rfl Try.func106 (by kernel_rfl) (by kernel_rfl) (by kernel_rfl) (by kernel_rfl) (to_vc (by kernel_rfl) h)

/-- loop.example/g00461/impl.isSym -/
def impl_isSym_h : Hints := ⟨[], []⟩
theorem impl_isSym_of {s : List (List Da)} {f : Int} {r : AV} {O : List (Nat × Ob)} (h : (∃ (b : Bool), (XC Try.prog 102 [(Z f), (Z ((0 : Int))), (Z (IntKind.wrap IntKind.i64 ((↑(List.length s) : Int) - (1 : Int))))] [] (B b) [] ∧ ((B b) = r ∧ [] = O)))) : XC Try.prog 108 [(L s), (Z f)] [] r O :=
  xc_of (E := env) (hs := impl_isSym_h) (c := (bodyOf Try.f108)) (n := 10) (res := [.tmp 4]) (rs := .c .b) (ks := []) (dir := []) envOk mixed rfl Try.func108 (by kernel_rfl) (by kernel_rfl) (by kernel_rfl) (by kernel_rfl) (to_vc (by kernel_rfl) h)

/-- loop.example/g00461/impl.copyTerms -/
def impl_copyTerms_h : Hints := ⟨[(3, ⟨[3, 7, 8, 9], [], [], [], [], [], []⟩)], []⟩
def impl_copyTerms_L3 (r : AV) (O : List (Nat × Ob)) (s7 : List (List Da)) (s8 : Int) (s9 : Int) (out : List (List Da)) : Prop := CL 20 Try.prog (subC (bodyOf Try.f109) [1, 1, 0, 1, 0, 0]) (kont Try.prog env impl_copyTerms_h 20 (bodyOf Try.f109) [1, 1, 0, 1, 0, 0] (vRet env [.tmp 2] (.o 31 3) [] [] r O) (retKE (vRet env [.tmp 2] (.o 31 3) [] [] r O))).1 (kont Try.prog env impl_copyTerms_h 20 (bodyOf Try.f109) [1, 1, 0, 1, 0, 0] (vRet env [.tmp 2] (.o 31 3) [] [] r O) (retKE (vRet env [.tmp 2] (.o 31 3) [] [] r O))).2 ⟨[(3, (.one (.ol 1900))), (7, (L s7)), (8, (Z s8)), (9, (Z s9))], [(1900, (.tr 31 3 out))]⟩
theorem impl_copyTerms_L3_of {r : AV} {O : List (Nat × Ob)} {s7 : List (List Da)} {s8 : Int} {s9 : Int} {out : List (List Da)} (h : ifB (decide (s9 < s8))
  ((∃ (m : Nat), (s9 = ((↑m : Int)) ∧ (∃ (n : Int), (∃ (n1 : Int), (∃ (xs : List (List Da)), ((s7[m]?) = some [(.int .i64 n), (.int .i64 n1), (.sl xs)] ∧ (∃ (n2 : Int), (∃ (n3 : Int), (∃ (xs1 : List (List Da)), (XC Try.prog 76 [(.dat [(.int .i64 n), (.int .i64 n1), (.sl xs)])] [] (.agg [(.d (.int .i64 n2)), (.d (.int .i64 n3)), (.ol 0)]) [(0, (.tr 31 3 xs1))] ∧ (Do ((List.length out + List.length [[Da.int IntKind.i64 n2, Da.int IntKind.i64 n3, Da.sl xs1]]) * (40 : Nat) ≤ (140737488355328 : Nat)) ∧ impl_copyTerms_L3 r O s7 s8 (IntKind.wrap IntKind.i64 (s9 + (1 : Int))) (out ++ [[Da.int IntKind.i64 n2, Da.int IntKind.i64 n3, Da.sl xs1]])))))))))))))
  (((.one (.ol 0)) = r ∧ [(0, (.tr 31 3 out))] = O))) : impl_copyTerms_L3 r O s7 s8 s9 out := by
  unfold impl_copyTerms_L3
  refine cl_of (E := env) (hs := impl_copyTerms_h) envOk mixed ?_
  exact to_vc (by kernel_rfl) h
theorem impl_copyTerms_of {list : List (List Da)} {r : AV} {O : List (Nat × Ob)} (h : impl_copyTerms_L3 r O list ((↑(List.length list) : Int)) ((0 : Int)) []) : XC Try.prog 109 [(L list)] [] r O :=
  xc_of (E := env) (hs := impl_copyTerms_h) (c := (bodyOf Try.f109)) (n := 20) (res := [.tmp 2]) (rs := .o 31 3) (ks := []) (dir := []) envOk mixed rfl Try.func109 (by kernel_rfl) (by kernel_rfl) (by kernel_rfl) (by kernel_rfl) (to_vc (by kernel_rfl) h)

/-- loop.example/g00461/spec.Before -/
def spec_Before_h : Hints := ⟨[(8, ⟨[2, 3, 5], [], [], [], [], [], []⟩)], []⟩
def spec_Before_L8 (r : AV) (O : List (Nat × Ob)) (s5 : Int) (s2 : Int) (s21 : Int) (s22 : List (List Da)) (s3 : Int) (s31 : Int) (s32 : List (List Da)) : Prop := CL 70 Try.prog (subC (bodyOf Try.f110) [1, 1, 1, 1, 0, 1, 0, 0]) (kont Try.prog env spec_Before_h 70 (bodyOf Try.f110) [1, 1, 1, 1, 0, 1, 0, 0] (vRet env [.tmp 4] (.c .b) [] [] r O) (retKE (vRet env [.tmp 4] (.c .b) [] [] r O))).1 (kont Try.prog env spec_Before_h 70 (bodyOf Try.f110) [1, 1, 1, 1, 0, 1, 0, 0] (vRet env [.tmp 4] (.c .b) [] [] r O) (retKE (vRet env [.tmp 4] (.c .b) [] [] r O))).2 ⟨[(2, (.one (.op 1900 0))), (3, (.one (.op 1901 0))), (5, (Z s5))], [(1900, (.var [(.d (.int .i64 s2)), (.d (.int .i64 s21)), (.d (.sl s22))])), (1901, (.var [(.d (.int .i64 s3)), (.d (.int .i64 s31)), (.d (.sl s32))]))]⟩
theorem spec_Before_L8_of {r : AV} {O : List (Nat × Ob)} {s5 : Int} {s2 : Int} {s21 : Int} {s22 : List (List Da)} {s3 : Int} {s31 : Int} {s32 : List (List Da)} (h : ifB (decide (s5 < (↑(List.length s22) : Int)))
  ((∃ (m : Nat), (s5 = ((↑m : Int)) ∧ (∃ (n : Int), (∃ (n1 : Int), (∃ (xs : List (List Da)), ((s22[m]?) = some [(.int .i64 n), (.int .i64 n1), (.sl xs)] ∧ (∃ (m1 : Nat), (s5 = ((↑m1 : Int)) ∧ (∃ (n2 : Int), (∃ (n3 : Int), (∃ (xs1 : List (List Da)), ((s32[m1]?) = some [(.int .i64 n2), (.int .i64 n3), (.sl xs1)] ∧ (∃ (b : Bool), (XC Try.prog 114 [(.dat [(.int .i64 n), (.int .i64 n1), (.sl xs)]), (.dat [(.int .i64 n2), (.int .i64 n3), (.sl xs1)])] [] (B b) [] ∧ ifB (!b)
  ((∃ (m2 : Nat), (s5 = ((↑m2 : Int)) ∧ (∃ (n4 : Int), (∃ (n5 : Int), (∃ (xs2 : List (List Da)), ((s22[m2]?) = some [(.int .i64 n4), (.int .i64 n5), (.sl xs2)] ∧ (∃ (m3 : Nat), (s5 = ((↑m3 : Int)) ∧ (∃ (n6 : Int), (∃ (n7 : Int), (∃ (xs3 : List (List Da)), ((s32[m3]?) = some [(.int .i64 n6), (.int .i64 n7), (.sl xs3)] ∧ (∃ (b1 : Bool), (XC Try.prog 110 [(.dat [(.int .i64 n4), (.int .i64 n5), (.sl xs2)]), (.dat [(.int .i64 n6), (.int .i64 n7), (.sl xs3)])] [] (B b1) [] ∧ ((B b1) = r ∧ [] = O))))))))))))))))
  (spec_Before_L8 r O (IntKind.wrap IntKind.i64 (s5 + (1 : Int))) s2 s21 s22 s3 s31 s32))))))))))))))))
  (((B (false)) = r ∧ [] = O))) : spec_Before_L8 r O s5 s2 s21 s22 s3 s31 s32 := by
  unfold spec_Before_L8
  refine cl_of (E := env) (hs := spec_Before_h) envOk mixed ?_
  exact to_vc (by kernel_rfl) h
theorem spec_Before_of {p : Int} {p1 : Int} {p2 : List (List Da)} {p3 : Int} {p4 : Int} {p5 : List (List Da)} {r : AV} {O : List (Nat × Ob)} (h : ifB (decide (p ≠ p3))
  (((B (decide (p < p3))) = r ∧ [] = O))
  (ifB (decide (p1 ≠ p4))
  (((B (decide (p1 < p4))) = r ∧ [] = O))
  (ifB (decide ((↑(List.length p2) : Int) ≠ (↑(List.length p5) : Int)))
  (((B (decide ((↑(List.length p2) : Int) < (↑(List.length p5) : Int)))) = r ∧ [] = O))
  (spec_Before_L8 r O ((0 : Int)) p p1 p2 p3 p4 p5)))) : XC Try.prog 110 [(.dat [(.int .i64 p), (.int .i64 p1), (.sl p2)]), (.dat [(.int .i64 p3), (.int .i64 p4), (.sl p5)])] [] r O :=
  xc_of (E := env) (hs := spec_Before_h) (c := (bodyOf Try.f110)) (n := 70) (res := [.tmp 4]) (rs := .c .b) (ks := []) (dir := []) envOk mixed rfl Try.func110 (by kernel_rfl) (by kernel_rfl) (by kernel_rfl) (by kernel_rfl) (to_vc (by kernel_rfl) h)

/-- slices.stableCmpFunc[loop.example/g00461/impl.Term] -/
def slices_stableCmpFunc_Term_impl_compare_h : Hints := ⟨[(2, ⟨[0, 1, 2, 6, 7, 8], [], [], [], [], [], []⟩), (7, ⟨[0, 1, 2, 6], [], [], [], [], [], []⟩), (9, ⟨[0, 1, 2, 6, 7, 8], [], [], [], [], [], []⟩)], []⟩
def slices_stableCmpFunc_Term_impl_compare_L2 (r : AV) (O : List (Nat × Ob)) (n : Int) (blockSize : Int) (a : Int) (b : Int) (data : List (List Da)) : Prop := CL 63 Try.prog (subC (bodyOf Try.f121) [1, 1, 0, 0, 0]) (kont Try.prog envA slices_stableCmpFunc_Term_impl_compare_h 63 (bodyOf Try.f121) [1, 1, 0, 0, 0] (vRet envA [] (.t []) [(2000, (false))] [2000] r O) (retKE (vRet envA [] (.t []) [(2000, (false))] [2000] r O))).1 (kont Try.prog envA slices_stableCmpFunc_Term_impl_compare_h 63 (bodyOf Try.f121) [1, 1, 0, 0, 0] (vRet envA [] (.t []) [(2000, (false))] [2000] r O) (retKE (vRet envA [] (.t []) [(2000, (false))] [2000] r O))).2 ⟨[(0, (.one (.ol 2000))), (1, (Z n)), (2, (.one (.d (.fn 105)))), (6, (Z blockSize)), (7, (Z a)), (8, (Z b))], [(2000, (.lst 31 3 data))]⟩
def slices_stableCmpFunc_Term_impl_compare_L7 (r : AV) (O : List (Nat × Ob)) (n : Int) (blockSize : Int) (data : List (List Da)) : Prop := CL 63 Try.prog (subC (bodyOf Try.f121) [1, 1, 1, 1, 0, 0]) (kont Try.prog envA slices_stableCmpFunc_Term_impl_compare_h 63 (bodyOf Try.f121) [1, 1, 1, 1, 0, 0] (vRet envA [] (.t []) [(2000, (false))] [2000] r O) (retKE (vRet envA [] (.t []) [(2000, (false))] [2000] r O))).1 (kont Try.prog envA slices_stableCmpFunc_Term_impl_compare_h 63 (bodyOf Try.f121) [1, 1, 1, 1, 0, 0] (vRet envA [] (.t []) [(2000, (false))] [2000] r O) (retKE (vRet envA [] (.t []) [(2000, (false))] [2000] r O))).2 ⟨[(0, (.one (.ol 2000))), (1, (Z n)), (2, (.one (.d (.fn 105)))), (6, (Z blockSize))], [(2000, (.lst 31 3 data))]⟩
def slices_stableCmpFunc_Term_impl_compare_L9 (r : AV) (O : List (Nat × Ob)) (n : Int) (blockSize : Int) (a : Int) (b : Int) (data : List (List Da)) : Prop := CL 63 Try.prog (subC (bodyOf Try.f121) [1, 1, 1, 1, 0, 0, 1, 0, 1, 0, 0, 0]) (kont Try.prog envA slices_stableCmpFunc_Term_impl_compare_h 63 (bodyOf Try.f121) [1, 1, 1, 1, 0, 0, 1, 0, 1, 0, 0, 0] (vRet envA [] (.t []) [(2000, (false))] [2000] r O) (retKE (vRet envA [] (.t []) [(2000, (false))] [2000] r O))).1 (kont Try.prog envA slices_stableCmpFunc_Term_impl_compare_h 63 (bodyOf Try.f121) [1, 1, 1, 1, 0, 0, 1, 0, 1, 0, 0, 0] (vRet envA [] (.t []) [(2000, (false))] [2000] r O) (retKE (vRet envA [] (.t []) [(2000, (false))] [2000] r O))).2 ⟨[(0, (.one (.ol 2000))), (1, (Z n)), (2, (.one (.d (.fn 105)))), (6, (Z blockSize)), (7, (Z a)), (8, (Z b))], [(2000, (.lst 31 3 data))]⟩
theorem slices_stableCmpFunc_Term_impl_compare_L2_of {r : AV} {O : List (Nat × Ob)} {n : Int} {blockSize : Int} {a : Int} {b : Int} {data : List (List Da)} (h : ifB (decide (b ≤ n))
  ((∃ (xs : List (List Da)), (XC Try.prog 136 [(.one (.ol 2000)), (Z a), (Z b), (.one (.d (.fn 105)))] [(2000, (.lst 31 3 data))] (.tup []) [(2000, (.lst 31 3 xs))] ∧ slices_stableCmpFunc_Term_impl_compare_L2 r O n blockSize b (IntKind.wrap IntKind.i64 (b + blockSize)) xs)))
  ((∃ (xs1 : List (List Da)), (XC Try.prog 136 [(.one (.ol 2000)), (Z a), (Z n), (.one (.d (.fn 105)))] [(2000, (.lst 31 3 data))] (.tup []) [(2000, (.lst 31 3 xs1))] ∧ slices_stableCmpFunc_Term_impl_compare_L7 r O n blockSize xs1)))) : slices_stableCmpFunc_Term_impl_compare_L2 r O n blockSize a b data := by
  unfold slices_stableCmpFunc_Term_impl_compare_L2
  refine cl_of (E := envA) (hs := slices_stableCmpFunc_Term_impl_compare_h) envAOk mixed ?_
  exact to_vc (by kernel_rfl) h
theorem slices_stableCmpFunc_Term_impl_compare_L7_of {r : AV} {O : List (Nat × Ob)} {n : Int} {blockSize : Int} {data : List (List Da)} (h : ifB (decide (blockSize < n))
  (slices_stableCmpFunc_Term_impl_compare_L9 r O n blockSize ((0 : Int)) (IntKind.wrap IntKind.i64 ((2 : Int) * blockSize)) data)
  (((.tup []) = r ∧ [(2000, (.lst 31 3 data))] = O))) : slices_stableCmpFunc_Term_impl_compare_L7 r O n blockSize data := by
  unfold slices_stableCmpFunc_Term_impl_compare_L7
  refine cl_of (E := envA) (hs := slices_stableCmpFunc_Term_impl_compare_h) envAOk mixed ?_
  exact to_vc (by kernel_rfl) h
theorem slices_stableCmpFunc_Term_impl_compare_L9_of {r : AV} {O : List (Nat × Ob)} {n : Int} {blockSize : Int} {a : Int} {b : Int} {data : List (List Da)} (h : ifB (decide (b ≤ n))
  ((∃ (xs : List (List Da)), (XC Try.prog 137 [(.one (.ol 2000)), (Z a), (Z (IntKind.wrap IntKind.i64 (a + blockSize))), (Z b), (.one (.d (.fn 105)))] [(2000, (.lst 31 3 data))] (.tup []) [(2000, (.lst 31 3 xs))] ∧ slices_stableCmpFunc_Term_impl_compare_L9 r O n blockSize b (IntKind.wrap IntKind.i64 (b + IntKind.wrap IntKind.i64 ((2 : Int) * blockSize))) xs)))
  (ifB (decide (IntKind.wrap IntKind.i64 (a + blockSize) < n))
  ((∃ (xs1 : List (List Da)), (XC Try.prog 137 [(.one (.ol 2000)), (Z a), (Z (IntKind.wrap IntKind.i64 (a + blockSize))), (Z n), (.one (.d (.fn 105)))] [(2000, (.lst 31 3 data))] (.tup []) [(2000, (.lst 31 3 xs1))] ∧ slices_stableCmpFunc_Term_impl_compare_L7 r O n (IntKind.wrap IntKind.i64 (blockSize * (2 : Int))) xs1)))
  (slices_stableCmpFunc_Term_impl_compare_L7 r O n (IntKind.wrap IntKind.i64 (blockSize * (2 : Int))) data))) : slices_stableCmpFunc_Term_impl_compare_L9 r O n blockSize a b data := by
  unfold slices_stableCmpFunc_Term_impl_compare_L9
  refine cl_of (E := envA) (hs := slices_stableCmpFunc_Term_impl_compare_h) envAOk mixed ?_
  exact to_vc (by kernel_rfl) h
theorem slices_stableCmpFunc_Term_impl_compare_of {n : Int} {o2000 : List (List Da)} {r : AV} {O : List (Nat × Ob)} (h : slices_stableCmpFunc_Term_impl_compare_L2 r O n ((20 : Int)) ((0 : Int)) ((20 : Int)) o2000) : XC Try.prog 121 [(.one (.ol 2000)), (Z n), (.one (.d (.fn 105)))] [(2000, (.lst 31 3 o2000))] r O :=
  xc_of (E := envA) (hs := slices_stableCmpFunc_Term_impl_compare_h) (c := (bodyOf Try.f121)) (n := 63) (res := []) (rs := .t []) (ks := [(2000, (false))]) (dir := [2000]) envAOk mixed rfl Try.func121 (by kernel_rfl) (by kernel_rfl) (by kernel_rfl) (by kernel_rfl) (to_vc (by kernel_rfl) h)

/-- loop.example/g00461/spec.TermSame -/
def spec_TermSame_h : Hints := ⟨[(4, ⟨[2, 3, 5], [], [], [], [], [], []⟩)], []⟩
def spec_TermSame_L4 (r : AV) (O : List (Nat × Ob)) (i : Int) (a : Int) (a1 : Int) (a2 : List (List Da)) (b : Int) (b1 : Int) (b2 : List (List Da)) : Prop := CL 46 Try.prog (subC (bodyOf Try.f114) [1, 1, 0, 1, 0, 0]) (kont Try.prog env spec_TermSame_h 46 (bodyOf Try.f114) [1, 1, 0, 1, 0, 0] (vRet env [.tmp 4] (.c .b) [] [] r O) (retKE (vRet env [.tmp 4] (.c .b) [] [] r O))).1 (kont Try.prog env spec_TermSame_h 46 (bodyOf Try.f114) [1, 1, 0, 1, 0, 0] (vRet env [.tmp 4] (.c .b) [] [] r O) (retKE (vRet env [.tmp 4] (.c .b) [] [] r O))).2 ⟨[(2, (.one (.op 1900 0))), (3, (.one (.op 1901 0))), (5, (Z i))], [(1900, (.var [(.d (.int .i64 a)), (.d (.int .i64 a1)), (.d (.sl a2))])), (1901, (.var [(.d (.int .i64 b)), (.d (.int .i64 b1)), (.d (.sl b2))]))]⟩
theorem spec_TermSame_L4_of {r : AV} {O : List (Nat × Ob)} {i : Int} {a : Int} {a1 : Int} {a2 : List (List Da)} {b : Int} {b1 : Int} {b2 : List (List Da)} (h : ifB (decide (i < (↑(List.length a2) : Int)))
  ((∃ (m : Nat), (i = ((↑m : Int)) ∧ (∃ (n : Int), (∃ (n1 : Int), (∃ (xs : List (List Da)), ((a2[m]?) = some [(.int .i64 n), (.int .i64 n1), (.sl xs)] ∧ (∃ (m1 : Nat), (i = ((↑m1 : Int)) ∧ (∃ (n2 : Int), (∃ (n3 : Int), (∃ (xs1 : List (List Da)), ((b2[m1]?) = some [(.int .i64 n2), (.int .i64 n3), (.sl xs1)] ∧ (∃ (b4 : Bool), (XC Try.prog 114 [(.dat [(.int .i64 n), (.int .i64 n1), (.sl xs)]), (.dat [(.int .i64 n2), (.int .i64 n3), (.sl xs1)])] [] (B b4) [] ∧ ifB (!b4)
  (((B (false)) = r ∧ [] = O))
  (spec_TermSame_L4 r O (IntKind.wrap IntKind.i64 (i + (1 : Int))) a a1 a2 b b1 b2))))))))))))))))
  (((B (true)) = r ∧ [] = O))) : spec_TermSame_L4 r O i a a1 a2 b b1 b2 := by
  unfold spec_TermSame_L4
  refine cl_of (E := env) (hs := spec_TermSame_h) envOk mixed ?_
  exact to_vc (by kernel_rfl) h
theorem spec_TermSame_of {a : Int} {a1 : Int} {a2 : List (List Da)} {b : Int} {b1 : Int} {b2 : List (List Da)} {r : AV} {O : List (Nat × Ob)} (h : ifB (decide (a ≠ b))
  (((B (false)) = r ∧ [] = O))
  (ifB (decide (a1 ≠ b1))
  (((B (false)) = r ∧ [] = O))
  (ifB (decide ((↑(List.length a2) : Int) ≠ (↑(List.length b2) : Int)))
  (((B (false)) = r ∧ [] = O))
  (spec_TermSame_L4 r O ((0 : Int)) a a1 a2 b b1 b2)))) : XC Try.prog 114 [(.dat [(.int .i64 a), (.int .i64 a1), (.sl a2)]), (.dat [(.int .i64 b), (.int .i64 b1), (.sl b2)])] [] r O :=
  xc_of (E := env) (hs := spec_TermSame_h) (c := (bodyOf Try.f114)) (n := 46) (res := [.tmp 4]) (rs := .c .b) (ks := []) (dir := []) envOk mixed rfl Try.func114 (by kernel_rfl) (by kernel_rfl) (by kernel_rfl) (by kernel_rfl) (to_vc (by kernel_rfl) h)

/-- slices.insertionSortCmpFunc[loop.example/g00461/impl.Term] -/
def slices_insertionSortCmpFunc_Term_impl_compare_h : Hints := ⟨[(1, ⟨[0, 1, 2, 3, 8], [], [], [], [], [], []⟩), (4, ⟨[0, 1, 2, 3, 8, 9], [], [], [], [], [], []⟩)], []⟩
def slices_insertionSortCmpFunc_Term_impl_compare_L1 (r : AV) (O : List (Nat × Ob)) (a : Int) (b : Int) (i : Int) (data : List (List Da)) : Prop := CL 53 Try.prog (subC (bodyOf Try.f136) [1, 0, 0]) (kont Try.prog envA slices_insertionSortCmpFunc_Term_impl_compare_h 53 (bodyOf Try.f136) [1, 0, 0] (vRet envA [] (.t []) [(2000, (false))] [2000] r O) (retKE (vRet envA [] (.t []) [(2000, (false))] [2000] r O))).1 (kont Try.prog envA slices_insertionSortCmpFunc_Term_impl_compare_h 53 (bodyOf Try.f136) [1, 0, 0] (vRet envA [] (.t []) [(2000, (false))] [2000] r O) (retKE (vRet envA [] (.t []) [(2000, (false))] [2000] r O))).2 ⟨[(0, (.one (.ol 2000))), (1, (Z a)), (2, (Z b)), (3, (.one (.d (.fn 105)))), (8, (Z i))], [(2000, (.lst 31 3 data))]⟩
def slices_insertionSortCmpFunc_Term_impl_compare_L4 (r : AV) (O : List (Nat × Ob)) (a : Int) (b : Int) (i : Int) (j : Int) (data : List (List Da)) : Prop := CL 53 Try.prog (subC (bodyOf Try.f136) [1, 0, 0, 1, 0, 0, 1, 0, 0]) (kont Try.prog envA slices_insertionSortCmpFunc_Term_impl_compare_h 53 (bodyOf Try.f136) [1, 0, 0, 1, 0, 0, 1, 0, 0] (vRet envA [] (.t []) [(2000, (false))] [2000] r O) (retKE (vRet envA [] (.t []) [(2000, (false))] [2000] r O))).1 (kont Try.prog envA slices_insertionSortCmpFunc_Term_impl_compare_h 53 (bodyOf Try.f136) [1, 0, 0, 1, 0, 0, 1, 0, 0] (vRet envA [] (.t []) [(2000, (false))] [2000] r O) (retKE (vRet envA [] (.t []) [(2000, (false))] [2000] r O))).2 ⟨[(0, (.one (.ol 2000))), (1, (Z a)), (2, (Z b)), (3, (.one (.d (.fn 105)))), (8, (Z i)), (9, (Z j))], [(2000, (.lst 31 3 data))]⟩
theorem slices_insertionSortCmpFunc_Term_impl_compare_L1_of {r : AV} {O : List (Nat × Ob)} {a : Int} {b : Int} {i : Int} {data : List (List Da)} (h : ifB (decide (i < b))
  (slices_insertionSortCmpFunc_Term_impl_compare_L4 r O a b i i data)
  (((.tup []) = r ∧ [(2000, (.lst 31 3 data))] = O))) : slices_insertionSortCmpFunc_Term_impl_compare_L1 r O a b i data := by
  unfold slices_insertionSortCmpFunc_Term_impl_compare_L1
  refine cl_of (E := envA) (hs := slices_insertionSortCmpFunc_Term_impl_compare_h) envAOk mixed ?_
  exact to_vc (by kernel_rfl) h
theorem slices_insertionSortCmpFunc_Term_impl_compare_L4_of {r : AV} {O : List (Nat × Ob)} {a : Int} {b : Int} {i : Int} {j : Int} {data : List (List Da)} (h : ifB (decide (a < j))
  ((∃ (m : Nat), (j = ((↑m : Int)) ∧ (Do (m < List.length data) ∧ (∃ (n : Nat), ((m * (3 : Nat)) = (n * (3 : Nat)) ∧ (∃ (n1 : Int), (∃ (n2 : Int), (∃ (d : Da), ((data[n]?) = some [(.int .i64 n1), (.int .i64 n2), d] ∧ (∃ (m1 : Nat), ((IntKind.wrap IntKind.i64 (j - (1 : Int))) = ((↑m1 : Int)) ∧ (Do (m1 < List.length data) ∧ (∃ (n3 : Nat), ((m1 * (3 : Nat)) = (n3 * (3 : Nat)) ∧ (∃ (n4 : Int), (∃ (n5 : Int), (∃ (d1 : Da), ((data[n3]?) = some [(.int .i64 n4), (.int .i64 n5), d1] ∧ (∃ (n6 : Int), (XC Try.prog 105 [(.dat [(.int .i64 n1), (.int .i64 n2), d]), (.dat [(.int .i64 n4), (.int .i64 n5), d1])] [] (Z n6) [] ∧ ifB (decide (n6 < (0 : Int)))
  ((∃ (m2 : Nat), ((IntKind.wrap IntKind.i64 (j - (1 : Int))) = ((↑m2 : Int)) ∧ (Do (m2 < List.length data) ∧ (∃ (n7 : Nat), ((m2 * (3 : Nat)) = (n7 * (3 : Nat)) ∧ (∃ (n8 : Int), (∃ (n9 : Int), (∃ (d2 : Da), ((data[n7]?) = some [(.int .i64 n8), (.int .i64 n9), d2] ∧ (∃ (m3 : Nat), (j = ((↑m3 : Int)) ∧ (Do (m3 < List.length data) ∧ (∃ (n10 : Nat), ((m3 * (3 : Nat)) = (n10 * (3 : Nat)) ∧ (∃ (n11 : Int), (∃ (n12 : Int), (∃ (d3 : Da), ((data[n10]?) = some [(.int .i64 n11), (.int .i64 n12), d3] ∧ (∃ (m4 : Nat), (j = ((↑m4 : Int)) ∧ (Do (m4 < List.length data) ∧ (∃ (m5 : Nat), ((m4 * (3 : Nat)) = (m5 * (3 : Nat) + (0 : Nat)) ∧ (∃ (n13 : Int), (∃ (n14 : Int), (∃ (d4 : Da), ((data[m5]?) = some [(.int .i64 n13), (.int .i64 n14), d4] ∧ (∃ (m6 : Nat), ((IntKind.wrap IntKind.i64 (j - (1 : Int))) = ((↑m6 : Int)) ∧ (Do (m6 < List.length (List.set data m5 ([] ++ [Da.int IntKind.i64 n8, Da.int IntKind.i64 n9, d2] ++ []))) ∧ (∃ (m7 : Nat), ((m6 * (3 : Nat)) = (m7 * (3 : Nat) + (0 : Nat)) ∧ (∃ (n15 : Int), (∃ (n16 : Int), (∃ (d5 : Da), (((List.set data m5 ([] ++ [Da.int IntKind.i64 n8, Da.int IntKind.i64 n9, d2] ++ []))[m7]?) = some [(.int .i64 n15), (.int .i64 n16), d5] ∧ slices_insertionSortCmpFunc_Term_impl_compare_L4 r O a b i (IntKind.wrap IntKind.i64 (j - (1 : Int))) (List.set (List.set data m5 ([] ++ [Da.int IntKind.i64 n8, Da.int IntKind.i64 n9, d2] ++ [])) m7 ([] ++ [Da.int IntKind.i64 n11, Da.int IntKind.i64 n12, d3] ++ [])))))))))))))))))))))))))))))))))))))))
  (slices_insertionSortCmpFunc_Term_impl_compare_L1 r O a b (IntKind.wrap IntKind.i64 (i + (1 : Int))) data))))))))))))))))))))))
  (slices_insertionSortCmpFunc_Term_impl_compare_L1 r O a b (IntKind.wrap IntKind.i64 (i + (1 : Int))) data)) : slices_insertionSortCmpFunc_Term_impl_compare_L4 r O a b i j data := by
  unfold slices_insertionSortCmpFunc_Term_impl_compare_L4
  refine cl_of (E := envA) (hs := slices_insertionSortCmpFunc_Term_impl_compare_h) envAOk mixed ?_
  exact to_vc (by kernel_rfl) h
theorem slices_insertionSortCmpFunc_Term_impl_compare_of {a : Int} {b : Int} {o2000 : List (List Da)} {r : AV} {O : List (Nat × Ob)} (h : slices_insertionSortCmpFunc_Term_impl_compare_L1 r O a b (IntKind.wrap IntKind.i64 (a + (1 : Int))) o2000) : XC Try.prog 136 [(.one (.ol 2000)), (Z a), (Z b), (.one (.d (.fn 105)))] [(2000, (.lst 31 3 o2000))] r O :=
  xc_of (E := envA) (hs := slices_insertionSortCmpFunc_Term_impl_compare_h) (c := (bodyOf Try.f136)) (n := 53) (res := []) (rs := .t []) (ks := [(2000, (false))]) (dir := [2000]) envAOk mixed rfl Try.func136 (by kernel_rfl) (by kernel_rfl) (by kernel_rfl) (by kernel_rfl) (to_vc (by kernel_rfl) h)

/-- slices.symMergeCmpFunc[loop.example/g00461/impl.Term] -/
def slices_symMergeCmpFunc_Term_impl_compare_h : Hints := ⟨[(3, ⟨[0, 1, 4, 10, 11], [], [], [], [], [], []⟩), (9, ⟨[0, 10, 13], [], [], [], [], [], []⟩), (15, ⟨[0, 2, 4, 14, 15], [], [], [], [], [], []⟩), (21, ⟨[0, 14, 17], [], [], [], [], [], []⟩), (33, ⟨[0, 1, 2, 3, 4, 18, 19, 20, 21, 22], [], [], [], [], [], []⟩)], []⟩
def slices_symMergeCmpFunc_Term_impl_compare_L3 (r : AV) (O : List (Nat × Ob)) (s1 : Int) (s10 : Int) (s11 : Int) (s0 : List (List Da)) : Prop := CL 220 Try.prog (subC (bodyOf Try.f137) [0, 1, 0, 1, 1, 0, 0, 0]) (kont Try.prog envA slices_symMergeCmpFunc_Term_impl_compare_h 220 (bodyOf Try.f137) [0, 1, 0, 1, 1, 0, 0, 0] (vRet envA [] (.t []) [(2000, (false))] [2000] r O) (retKE (vRet envA [] (.t []) [(2000, (false))] [2000] r O))).1 (kont Try.prog envA slices_symMergeCmpFunc_Term_impl_compare_h 220 (bodyOf Try.f137) [0, 1, 0, 1, 1, 0, 0, 0] (vRet envA [] (.t []) [(2000, (false))] [2000] r O) (retKE (vRet envA [] (.t []) [(2000, (false))] [2000] r O))).2 ⟨[(0, (.one (.ol 2000))), (1, (Z s1)), (4, (.one (.d (.fn 105)))), (10, (Z s10)), (11, (Z s11))], [(2000, (.lst 31 3 s0))]⟩
def slices_symMergeCmpFunc_Term_impl_compare_L15 (r : AV) (O : List (Nat × Ob)) (s2 : Int) (s14 : Int) (s15 : Int) (s0 : List (List Da)) : Prop := CL 220 Try.prog (subC (bodyOf Try.f137) [1, 0, 1, 0, 1, 1, 0, 0, 0]) (kont Try.prog envA slices_symMergeCmpFunc_Term_impl_compare_h 220 (bodyOf Try.f137) [1, 0, 1, 0, 1, 1, 0, 0, 0] (vRet envA [] (.t []) [(2000, (false))] [2000] r O) (retKE (vRet envA [] (.t []) [(2000, (false))] [2000] r O))).1 (kont Try.prog envA slices_symMergeCmpFunc_Term_impl_compare_h 220 (bodyOf Try.f137) [1, 0, 1, 0, 1, 1, 0, 0, 0] (vRet envA [] (.t []) [(2000, (false))] [2000] r O) (retKE (vRet envA [] (.t []) [(2000, (false))] [2000] r O))).2 ⟨[(0, (.one (.ol 2000))), (2, (Z s2)), (4, (.one (.d (.fn 105)))), (14, (Z s14)), (15, (Z s15))], [(2000, (.lst 31 3 s0))]⟩
def slices_symMergeCmpFunc_Term_impl_compare_L33 (r : AV) (O : List (Nat × Ob)) (s1 : Int) (s2 : Int) (s3 : Int) (s18 : Int) (s19 : Int) (s20 : Int) (s21 : Int) (s22 : Int) (s0 : List (List Da)) : Prop := CL 220 Try.prog (subC (bodyOf Try.f137) [1, 1, 1, 1, 1, 1, 1, 0, 0, 0]) (kont Try.prog envA slices_symMergeCmpFunc_Term_impl_compare_h 220 (bodyOf Try.f137) [1, 1, 1, 1, 1, 1, 1, 0, 0, 0] (vRet envA [] (.t []) [(2000, (false))] [2000] r O) (retKE (vRet envA [] (.t []) [(2000, (false))] [2000] r O))).1 (kont Try.prog envA slices_symMergeCmpFunc_Term_impl_compare_h 220 (bodyOf Try.f137) [1, 1, 1, 1, 1, 1, 1, 0, 0, 0] (vRet envA [] (.t []) [(2000, (false))] [2000] r O) (retKE (vRet envA [] (.t []) [(2000, (false))] [2000] r O))).2 ⟨[(0, (.one (.ol 2000))), (1, (Z s1)), (2, (Z s2)), (3, (Z s3)), (4, (.one (.d (.fn 105)))), (18, (Z s18)), (19, (Z s19)), (20, (Z s20)), (21, (Z s21)), (22, (Z s22))], [(2000, (.lst 31 3 s0))]⟩
def slices_symMergeCmpFunc_Term_impl_compare_L9 (r : AV) (O : List (Nat × Ob)) (s10 : Int) (s13 : Int) (s0 : List (List Da)) : Prop := CL 220 Try.prog (subC (bodyOf Try.f137) [0, 1, 0, 1, 1, 1, 0, 1, 0, 0]) (kont Try.prog envA slices_symMergeCmpFunc_Term_impl_compare_h 220 (bodyOf Try.f137) [0, 1, 0, 1, 1, 1, 0, 1, 0, 0] (vRet envA [] (.t []) [(2000, (false))] [2000] r O) (retKE (vRet envA [] (.t []) [(2000, (false))] [2000] r O))).1 (kont Try.prog envA slices_symMergeCmpFunc_Term_impl_compare_h 220 (bodyOf Try.f137) [0, 1, 0, 1, 1, 1, 0, 1, 0, 0] (vRet envA [] (.t []) [(2000, (false))] [2000] r O) (retKE (vRet envA [] (.t []) [(2000, (false))] [2000] r O))).2 ⟨[(0, (.one (.ol 2000))), (10, (Z s10)), (13, (Z s13))], [(2000, (.lst 31 3 s0))]⟩
def slices_symMergeCmpFunc_Term_impl_compare_L21 (r : AV) (O : List (Nat × Ob)) (s14 : Int) (s17 : Int) (s0 : List (List Da)) : Prop := CL 220 Try.prog (subC (bodyOf Try.f137) [1, 0, 1, 0, 1, 1, 1, 0, 1, 0, 0]) (kont Try.prog envA slices_symMergeCmpFunc_Term_impl_compare_h 220 (bodyOf Try.f137) [1, 0, 1, 0, 1, 1, 1, 0, 1, 0, 0] (vRet envA [] (.t []) [(2000, (false))] [2000] r O) (retKE (vRet envA [] (.t []) [(2000, (false))] [2000] r O))).1 (kont Try.prog envA slices_symMergeCmpFunc_Term_impl_compare_h 220 (bodyOf Try.f137) [1, 0, 1, 0, 1, 1, 1, 0, 1, 0, 0] (vRet envA [] (.t []) [(2000, (false))] [2000] r O) (retKE (vRet envA [] (.t []) [(2000, (false))] [2000] r O))).2 ⟨[(0, (.one (.ol 2000))), (14, (Z s14)), (17, (Z s17))], [(2000, (.lst 31 3 s0))]⟩
theorem slices_symMergeCmpFunc_Term_impl_compare_L3_of {r : AV} {O : List (Nat × Ob)} {s1 : Int} {s10 : Int} {s11 : Int} {s0 : List (List Da)} (h : ifB (decide (s10 < s11))
  ((Do ((0 : Int) ≤ (1 : Int) ∧ (1 : Int) ≤ (↑(IntKind.bits IntKind.u64) : Int)) ∧ (∃ (m : Nat), ((IntKind.wrap IntKind.i64 (IntKind.wrap IntKind.u64 (IntKind.wrap IntKind.i64 (s10 + s11)) / (2 : Int) ^ Int.toNat (1 : Int))) = ((↑m : Int)) ∧ (Do (m < List.length s0) ∧ (∃ (n : Nat), ((m * (3 : Nat)) = (n * (3 : Nat)) ∧ (∃ (n1 : Int), (∃ (n2 : Int), (∃ (d : Da), ((s0[n]?) = some [(.int .i64 n1), (.int .i64 n2), d] ∧ (∃ (m1 : Nat), (s1 = ((↑m1 : Int)) ∧ (Do (m1 < List.length s0) ∧ (∃ (n3 : Nat), ((m1 * (3 : Nat)) = (n3 * (3 : Nat)) ∧ (∃ (n4 : Int), (∃ (n5 : Int), (∃ (d1 : Da), ((s0[n3]?) = some [(.int .i64 n4), (.int .i64 n5), d1] ∧ (∃ (n6 : Int), (XC Try.prog 105 [(.dat [(.int .i64 n1), (.int .i64 n2), d]), (.dat [(.int .i64 n4), (.int .i64 n5), d1])] [] (Z n6) [] ∧ ifB (decide (n6 < (0 : Int)))
  (slices_symMergeCmpFunc_Term_impl_compare_L3 r O s1 (IntKind.wrap IntKind.i64 (IntKind.wrap IntKind.i64 (IntKind.wrap IntKind.u64 (IntKind.wrap IntKind.i64 (s10 + s11)) / (2 : Int) ^ Int.toNat (1 : Int)) + (1 : Int))) s11 s0)
  (slices_symMergeCmpFunc_Term_impl_compare_L3 r O s1 s10 (IntKind.wrap IntKind.i64 (IntKind.wrap IntKind.u64 (IntKind.wrap IntKind.i64 (s10 + s11)) / (2 : Int) ^ Int.toNat (1 : Int))) s0)))))))))))))))))))))))
  (slices_symMergeCmpFunc_Term_impl_compare_L9 r O s10 s1 s0)) : slices_symMergeCmpFunc_Term_impl_compare_L3 r O s1 s10 s11 s0 := by
  unfold slices_symMergeCmpFunc_Term_impl_compare_L3
  refine cl_of (E := envA) (hs := slices_symMergeCmpFunc_Term_impl_compare_h) envAOk mixed ?_
  exact to_vc (by kernel_rfl) h
theorem slices_symMergeCmpFunc_Term_impl_compare_L15_of {r : AV} {O : List (Nat × Ob)} {s2 : Int} {s14 : Int} {s15 : Int} {s0 : List (List Da)} (h : ifB (decide (s14 < s15))
  ((Do ((0 : Int) ≤ (1 : Int) ∧ (1 : Int) ≤ (↑(IntKind.bits IntKind.u64) : Int)) ∧ (∃ (m : Nat), (s2 = ((↑m : Int)) ∧ (Do (m < List.length s0) ∧ (∃ (n : Nat), ((m * (3 : Nat)) = (n * (3 : Nat)) ∧ (∃ (n1 : Int), (∃ (n2 : Int), (∃ (d : Da), ((s0[n]?) = some [(.int .i64 n1), (.int .i64 n2), d] ∧ (∃ (m1 : Nat), ((IntKind.wrap IntKind.i64 (IntKind.wrap IntKind.u64 (IntKind.wrap IntKind.i64 (s14 + s15)) / (2 : Int) ^ Int.toNat (1 : Int))) = ((↑m1 : Int)) ∧ (Do (m1 < List.length s0) ∧ (∃ (n3 : Nat), ((m1 * (3 : Nat)) = (n3 * (3 : Nat)) ∧ (∃ (n4 : Int), (∃ (n5 : Int), (∃ (d1 : Da), ((s0[n3]?) = some [(.int .i64 n4), (.int .i64 n5), d1] ∧ (∃ (n6 : Int), (XC Try.prog 105 [(.dat [(.int .i64 n1), (.int .i64 n2), d]), (.dat [(.int .i64 n4), (.int .i64 n5), d1])] [] (Z n6) [] ∧ ifB (!decide (n6 < (0 : Int)))
  (slices_symMergeCmpFunc_Term_impl_compare_L15 r O s2 (IntKind.wrap IntKind.i64 (IntKind.wrap IntKind.i64 (IntKind.wrap IntKind.u64 (IntKind.wrap IntKind.i64 (s14 + s15)) / (2 : Int) ^ Int.toNat (1 : Int)) + (1 : Int))) s15 s0)
  (slices_symMergeCmpFunc_Term_impl_compare_L15 r O s2 s14 (IntKind.wrap IntKind.i64 (IntKind.wrap IntKind.u64 (IntKind.wrap IntKind.i64 (s14 + s15)) / (2 : Int) ^ Int.toNat (1 : Int))) s0)))))))))))))))))))))))
  (slices_symMergeCmpFunc_Term_impl_compare_L21 r O s14 s2 s0)) : slices_symMergeCmpFunc_Term_impl_compare_L15 r O s2 s14 s15 s0 := by
  unfold slices_symMergeCmpFunc_Term_impl_compare_L15
  refine cl_of (E := envA) (hs := slices_symMergeCmpFunc_Term_impl_compare_h) envAOk mixed ?_
  exact to_vc (by kernel_rfl) h
theorem slices_symMergeCmpFunc_Term_impl_compare_L33_of {r : AV} {O : List (Nat × Ob)} {s1 : Int} {s2 : Int} {s3 : Int} {s18 : Int} {s19 : Int} {s20 : Int} {s21 : Int} {s22 : Int} {s0 : List (List Da)} (h : ifB (decide (s20 < s21))
  ((Do ((0 : Int) ≤ (1 : Int) ∧ (1 : Int) ≤ (↑(IntKind.bits IntKind.u64) : Int)) ∧ (∃ (m : Nat), ((IntKind.wrap IntKind.i64 (s22 - IntKind.wrap IntKind.i64 (IntKind.wrap IntKind.u64 (IntKind.wrap IntKind.i64 (s20 + s21)) / (2 : Int) ^ Int.toNat (1 : Int)))) = ((↑m : Int)) ∧ (Do (m < List.length s0) ∧ (∃ (n : Nat), ((m * (3 : Nat)) = (n * (3 : Nat)) ∧ (∃ (n1 : Int), (∃ (n2 : Int), (∃ (d : Da), ((s0[n]?) = some [(.int .i64 n1), (.int .i64 n2), d] ∧ (∃ (m1 : Nat), ((IntKind.wrap IntKind.i64 (IntKind.wrap IntKind.u64 (IntKind.wrap IntKind.i64 (s20 + s21)) / (2 : Int) ^ Int.toNat (1 : Int))) = ((↑m1 : Int)) ∧ (Do (m1 < List.length s0) ∧ (∃ (n3 : Nat), ((m1 * (3 : Nat)) = (n3 * (3 : Nat)) ∧ (∃ (n4 : Int), (∃ (n5 : Int), (∃ (d1 : Da), ((s0[n3]?) = some [(.int .i64 n4), (.int .i64 n5), d1] ∧ (∃ (n6 : Int), (XC Try.prog 105 [(.dat [(.int .i64 n1), (.int .i64 n2), d]), (.dat [(.int .i64 n4), (.int .i64 n5), d1])] [] (Z n6) [] ∧ ifB (!decide (n6 < (0 : Int)))
  (slices_symMergeCmpFunc_Term_impl_compare_L33 r O s1 s2 s3 s18 s19 (IntKind.wrap IntKind.i64 (IntKind.wrap IntKind.i64 (IntKind.wrap IntKind.u64 (IntKind.wrap IntKind.i64 (s20 + s21)) / (2 : Int) ^ Int.toNat (1 : Int)) + (1 : Int))) s21 s22 s0)
  (slices_symMergeCmpFunc_Term_impl_compare_L33 r O s1 s2 s3 s18 s19 s20 (IntKind.wrap IntKind.i64 (IntKind.wrap IntKind.u64 (IntKind.wrap IntKind.i64 (s20 + s21)) / (2 : Int) ^ Int.toNat (1 : Int))) s22 s0)))))))))))))))))))))))
  (ifB (decide (s20 < s2))
  (ifB (decide (s2 < IntKind.wrap IntKind.i64 (s19 - s20)))
  ((∃ (xs : List (List Da)), (XC Try.prog 144 [(.one (.ol 2000)), (Z s20), (Z s2), (Z (IntKind.wrap IntKind.i64 (s19 - s20))), (.one (.d (.fn 105)))] [(2000, (.lst 31 3 s0))] (.tup []) [(2000, (.lst 31 3 xs))] ∧ ifB (decide (s1 < s20))
  (ifB (decide (s20 < s18))
  ((∃ (xs1 : List (List Da)), (XC Try.prog 137 [(.one (.ol 2000)), (Z s1), (Z s20), (Z s18), (.one (.d (.fn 105)))] [(2000, (.lst 31 3 xs))] (.tup []) [(2000, (.lst 31 3 xs1))] ∧ ifB (decide (s18 < IntKind.wrap IntKind.i64 (s19 - s20)))
  (ifB (decide (IntKind.wrap IntKind.i64 (s19 - s20) < s3))
  ((∃ (xs2 : List (List Da)), (XC Try.prog 137 [(.one (.ol 2000)), (Z s18), (Z (IntKind.wrap IntKind.i64 (s19 - s20))), (Z s3), (.one (.d (.fn 105)))] [(2000, (.lst 31 3 xs1))] (.tup []) [(2000, (.lst 31 3 xs2))] ∧ ((.tup []) = r ∧ [(2000, (.lst 31 3 xs2))] = O))))
  (((.tup []) = r ∧ [(2000, (.lst 31 3 xs1))] = O)))
  (((.tup []) = r ∧ [(2000, (.lst 31 3 xs1))] = O)))))
  (ifB (decide (s18 < IntKind.wrap IntKind.i64 (s19 - s20)))
  (ifB (decide (IntKind.wrap IntKind.i64 (s19 - s20) < s3))
  ((∃ (xs3 : List (List Da)), (XC Try.prog 137 [(.one (.ol 2000)), (Z s18), (Z (IntKind.wrap IntKind.i64 (s19 - s20))), (Z s3), (.one (.d (.fn 105)))] [(2000, (.lst 31 3 xs))] (.tup []) [(2000, (.lst 31 3 xs3))] ∧ ((.tup []) = r ∧ [(2000, (.lst 31 3 xs3))] = O))))
  (((.tup []) = r ∧ [(2000, (.lst 31 3 xs))] = O)))
  (((.tup []) = r ∧ [(2000, (.lst 31 3 xs))] = O))))
  (ifB (decide (s18 < IntKind.wrap IntKind.i64 (s19 - s20)))
  (ifB (decide (IntKind.wrap IntKind.i64 (s19 - s20) < s3))
  ((∃ (xs4 : List (List Da)), (XC Try.prog 137 [(.one (.ol 2000)), (Z s18), (Z (IntKind.wrap IntKind.i64 (s19 - s20))), (Z s3), (.one (.d (.fn 105)))] [(2000, (.lst 31 3 xs))] (.tup []) [(2000, (.lst 31 3 xs4))] ∧ ((.tup []) = r ∧ [(2000, (.lst 31 3 xs4))] = O))))
  (((.tup []) = r ∧ [(2000, (.lst 31 3 xs))] = O)))
  (((.tup []) = r ∧ [(2000, (.lst 31 3 xs))] = O))))))
  (ifB (decide (s1 < s20))
  (ifB (decide (s20 < s18))
  ((∃ (xs5 : List (List Da)), (XC Try.prog 137 [(.one (.ol 2000)), (Z s1), (Z s20), (Z s18), (.one (.d (.fn 105)))] [(2000, (.lst 31 3 s0))] (.tup []) [(2000, (.lst 31 3 xs5))] ∧ ifB (decide (s18 < IntKind.wrap IntKind.i64 (s19 - s20)))
  (ifB (decide (IntKind.wrap IntKind.i64 (s19 - s20) < s3))
  ((∃ (xs6 : List (List Da)), (XC Try.prog 137 [(.one (.ol 2000)), (Z s18), (Z (IntKind.wrap IntKind.i64 (s19 - s20))), (Z s3), (.one (.d (.fn 105)))] [(2000, (.lst 31 3 xs5))] (.tup []) [(2000, (.lst 31 3 xs6))] ∧ ((.tup []) = r ∧ [(2000, (.lst 31 3 xs6))] = O))))
  (((.tup []) = r ∧ [(2000, (.lst 31 3 xs5))] = O)))
  (((.tup []) = r ∧ [(2000, (.lst 31 3 xs5))] = O)))))
  (ifB (decide (s18 < IntKind.wrap IntKind.i64 (s19 - s20)))
  (ifB (decide (IntKind.wrap IntKind.i64 (s19 - s20) < s3))
  ((∃ (xs7 : List (List Da)), (XC Try.prog 137 [(.one (.ol 2000)), (Z s18), (Z (IntKind.wrap IntKind.i64 (s19 - s20))), (Z s3), (.one (.d (.fn 105)))] [(2000, (.lst 31 3 s0))] (.tup []) [(2000, (.lst 31 3 xs7))] ∧ ((.tup []) = r ∧ [(2000, (.lst 31 3 xs7))] = O))))
  (((.tup []) = r ∧ [(2000, (.lst 31 3 s0))] = O)))
  (((.tup []) = r ∧ [(2000, (.lst 31 3 s0))] = O))))
  (ifB (decide (s18 < IntKind.wrap IntKind.i64 (s19 - s20)))
  (ifB (decide (IntKind.wrap IntKind.i64 (s19 - s20) < s3))
  ((∃ (xs8 : List (List Da)), (XC Try.prog 137 [(.one (.ol 2000)), (Z s18), (Z (IntKind.wrap IntKind.i64 (s19 - s20))), (Z s3), (.one (.d (.fn 105)))] [(2000, (.lst 31 3 s0))] (.tup []) [(2000, (.lst 31 3 xs8))] ∧ ((.tup []) = r ∧ [(2000, (.lst 31 3 xs8))] = O))))
  (((.tup []) = r ∧ [(2000, (.lst 31 3 s0))] = O)))
  (((.tup []) = r ∧ [(2000, (.lst 31 3 s0))] = O)))))
  (ifB (decide (s1 < s20))
  (ifB (decide (s20 < s18))
  ((∃ (xs9 : List (List Da)), (XC Try.prog 137 [(.one (.ol 2000)), (Z s1), (Z s20), (Z s18), (.one (.d (.fn 105)))] [(2000, (.lst 31 3 s0))] (.tup []) [(2000, (.lst 31 3 xs9))] ∧ ifB (decide (s18 < IntKind.wrap IntKind.i64 (s19 - s20)))
  (ifB (decide (IntKind.wrap IntKind.i64 (s19 - s20) < s3))
  ((∃ (xs10 : List (List Da)), (XC Try.prog 137 [(.one (.ol 2000)), (Z s18), (Z (IntKind.wrap IntKind.i64 (s19 - s20))), (Z s3), (.one (.d (.fn 105)))] [(2000, (.lst 31 3 xs9))] (.tup []) [(2000, (.lst 31 3 xs10))] ∧ ((.tup []) = r ∧ [(2000, (.lst 31 3 xs10))] = O))))
  (((.tup []) = r ∧ [(2000, (.lst 31 3 xs9))] = O)))
  (((.tup []) = r ∧ [(2000, (.lst 31 3 xs9))] = O)))))
  (ifB (decide (s18 < IntKind.wrap IntKind.i64 (s19 - s20)))
  (ifB (decide (IntKind.wrap IntKind.i64 (s19 - s20) < s3))
  ((∃ (xs11 : List (List Da)), (XC Try.prog 137 [(.one (.ol 2000)), (Z s18), (Z (IntKind.wrap IntKind.i64 (s19 - s20))), (Z s3), (.one (.d (.fn 105)))] [(2000, (.lst 31 3 s0))] (.tup []) [(2000, (.lst 31 3 xs11))] ∧ ((.tup []) = r ∧ [(2000, (.lst 31 3 xs11))] = O))))
  (((.tup []) = r ∧ [(2000, (.lst 31 3 s0))] = O)))
  (((.tup []) = r ∧ [(2000, (.lst 31 3 s0))] = O))))
  (ifB (decide (s18 < IntKind.wrap IntKind.i64 (s19 - s20)))
  (ifB (decide (IntKind.wrap IntKind.i64 (s19 - s20) < s3))
  ((∃ (xs12 : List (List Da)), (XC Try.prog 137 [(.one (.ol 2000)), (Z s18), (Z (IntKind.wrap IntKind.i64 (s19 - s20))), (Z s3), (.one (.d (.fn 105)))] [(2000, (.lst 31 3 s0))] (.tup []) [(2000, (.lst 31 3 xs12))] ∧ ((.tup []) = r ∧ [(2000, (.lst 31 3 xs12))] = O))))
  (((.tup []) = r ∧ [(2000, (.lst 31 3 s0))] = O)))
  (((.tup []) = r ∧ [(2000, (.lst 31 3 s0))] = O)))))) : slices_symMergeCmpFunc_Term_impl_compare_L33 r O s1 s2 s3 s18 s19 s20 s21 s22 s0 := by
  unfold slices_symMergeCmpFunc_Term_impl_compare_L33
  refine cl_of (E := envA) (hs := slices_symMergeCmpFunc_Term_impl_compare_h) envAOk mixed ?_
  exact to_vc (by kernel_rfl) h
theorem slices_symMergeCmpFunc_Term_impl_compare_L9_of {r : AV} {O : List (Nat × Ob)} {s10 : Int} {s13 : Int} {s0 : List (List Da)} (h : ifB (decide (s13 < IntKind.wrap IntKind.i64 (s10 - (1 : Int))))
  ((∃ (m : Nat), ((IntKind.wrap IntKind.i64 (s13 + (1 : Int))) = ((↑m : Int)) ∧ (Do (m < List.length s0) ∧ (∃ (n : Nat), ((m * (3 : Nat)) = (n * (3 : Nat)) ∧ (∃ (n1 : Int), (∃ (n2 : Int), (∃ (d : Da), ((s0[n]?) = some [(.int .i64 n1), (.int .i64 n2), d] ∧ (∃ (m1 : Nat), (s13 = ((↑m1 : Int)) ∧ (Do (m1 < List.length s0) ∧ (∃ (n3 : Nat), ((m1 * (3 : Nat)) = (n3 * (3 : Nat)) ∧ (∃ (n4 : Int), (∃ (n5 : Int), (∃ (d1 : Da), ((s0[n3]?) = some [(.int .i64 n4), (.int .i64 n5), d1] ∧ (∃ (m2 : Nat), (s13 = ((↑m2 : Int)) ∧ (Do (m2 < List.length s0) ∧ (∃ (m3 : Nat), ((m2 * (3 : Nat)) = (m3 * (3 : Nat) + (0 : Nat)) ∧ (∃ (n6 : Int), (∃ (n7 : Int), (∃ (d2 : Da), ((s0[m3]?) = some [(.int .i64 n6), (.int .i64 n7), d2] ∧ (∃ (m4 : Nat), ((IntKind.wrap IntKind.i64 (s13 + (1 : Int))) = ((↑m4 : Int)) ∧ (Do (m4 < List.length (List.set s0 m3 ([] ++ [Da.int IntKind.i64 n1, Da.int IntKind.i64 n2, d] ++ []))) ∧ (∃ (m5 : Nat), ((m4 * (3 : Nat)) = (m5 * (3 : Nat) + (0 : Nat)) ∧ (∃ (n8 : Int), (∃ (n9 : Int), (∃ (d3 : Da), (((List.set s0 m3 ([] ++ [Da.int IntKind.i64 n1, Da.int IntKind.i64 n2, d] ++ []))[m5]?) = some [(.int .i64 n8), (.int .i64 n9), d3] ∧ slices_symMergeCmpFunc_Term_impl_compare_L9 r O s10 (IntKind.wrap IntKind.i64 (s13 + (1 : Int))) (List.set (List.set s0 m3 ([] ++ [Da.int IntKind.i64 n1, Da.int IntKind.i64 n2, d] ++ [])) m5 ([] ++ [Da.int IntKind.i64 n4, Da.int IntKind.i64 n5, d1] ++ [])))))))))))))))))))))))))))))))))))))))
  (((.tup []) = r ∧ [(2000, (.lst 31 3 s0))] = O))) : slices_symMergeCmpFunc_Term_impl_compare_L9 r O s10 s13 s0 := by
  unfold slices_symMergeCmpFunc_Term_impl_compare_L9
  refine cl_of (E := envA) (hs := slices_symMergeCmpFunc_Term_impl_compare_h) envAOk mixed ?_
  exact to_vc (by kernel_rfl) h
theorem slices_symMergeCmpFunc_Term_impl_compare_L21_of {r : AV} {O : List (Nat × Ob)} {s14 : Int} {s17 : Int} {s0 : List (List Da)} (h : ifB (decide (s14 < s17))
  ((∃ (m : Nat), ((IntKind.wrap IntKind.i64 (s17 - (1 : Int))) = ((↑m : Int)) ∧ (Do (m < List.length s0) ∧ (∃ (n : Nat), ((m * (3 : Nat)) = (n * (3 : Nat)) ∧ (∃ (n1 : Int), (∃ (n2 : Int), (∃ (d : Da), ((s0[n]?) = some [(.int .i64 n1), (.int .i64 n2), d] ∧ (∃ (m1 : Nat), (s17 = ((↑m1 : Int)) ∧ (Do (m1 < List.length s0) ∧ (∃ (n3 : Nat), ((m1 * (3 : Nat)) = (n3 * (3 : Nat)) ∧ (∃ (n4 : Int), (∃ (n5 : Int), (∃ (d1 : Da), ((s0[n3]?) = some [(.int .i64 n4), (.int .i64 n5), d1] ∧ (∃ (m2 : Nat), (s17 = ((↑m2 : Int)) ∧ (Do (m2 < List.length s0) ∧ (∃ (m3 : Nat), ((m2 * (3 : Nat)) = (m3 * (3 : Nat) + (0 : Nat)) ∧ (∃ (n6 : Int), (∃ (n7 : Int), (∃ (d2 : Da), ((s0[m3]?) = some [(.int .i64 n6), (.int .i64 n7), d2] ∧ (∃ (m4 : Nat), ((IntKind.wrap IntKind.i64 (s17 - (1 : Int))) = ((↑m4 : Int)) ∧ (Do (m4 < List.length (List.set s0 m3 ([] ++ [Da.int IntKind.i64 n1, Da.int IntKind.i64 n2, d] ++ []))) ∧ (∃ (m5 : Nat), ((m4 * (3 : Nat)) = (m5 * (3 : Nat) + (0 : Nat)) ∧ (∃ (n8 : Int), (∃ (n9 : Int), (∃ (d3 : Da), (((List.set s0 m3 ([] ++ [Da.int IntKind.i64 n1, Da.int IntKind.i64 n2, d] ++ []))[m5]?) = some [(.int .i64 n8), (.int .i64 n9), d3] ∧ slices_symMergeCmpFunc_Term_impl_compare_L21 r O s14 (IntKind.wrap IntKind.i64 (s17 - (1 : Int))) (List.set (List.set s0 m3 ([] ++ [Da.int IntKind.i64 n1, Da.int IntKind.i64 n2, d] ++ [])) m5 ([] ++ [Da.int IntKind.i64 n4, Da.int IntKind.i64 n5, d1] ++ [])))))))))))))))))))))))))))))))))))))))
  (((.tup []) = r ∧ [(2000, (.lst 31 3 s0))] = O))) : slices_symMergeCmpFunc_Term_impl_compare_L21 r O s14 s17 s0 := by
  unfold slices_symMergeCmpFunc_Term_impl_compare_L21
  refine cl_of (E := envA) (hs := slices_symMergeCmpFunc_Term_impl_compare_h) envAOk mixed ?_
  exact to_vc (by kernel_rfl) h
theorem slices_symMergeCmpFunc_Term_impl_compare_of {p : Int} {p1 : Int} {p2 : Int} {o2000 : List (List Da)} {r : AV} {O : List (Nat × Ob)} (h : ifB (decide (IntKind.wrap IntKind.i64 (p1 - p) = (1 : Int)))
  (slices_symMergeCmpFunc_Term_impl_compare_L3 r O p p1 p2 o2000)
  (ifB (decide (IntKind.wrap IntKind.i64 (p2 - p1) = (1 : Int)))
  (slices_symMergeCmpFunc_Term_impl_compare_L15 r O p1 p p1 o2000)
  ((Do ((0 : Int) ≤ (1 : Int) ∧ (1 : Int) ≤ (↑(IntKind.bits IntKind.u64) : Int)) ∧ ifB (decide (IntKind.wrap IntKind.i64 (IntKind.wrap IntKind.u64 (IntKind.wrap IntKind.i64 (p + p2)) / (2 : Int) ^ Int.toNat (1 : Int)) < p1))
  (slices_symMergeCmpFunc_Term_impl_compare_L33 r O p p1 p2 (IntKind.wrap IntKind.i64 (IntKind.wrap IntKind.u64 (IntKind.wrap IntKind.i64 (p + p2)) / (2 : Int) ^ Int.toNat (1 : Int))) (IntKind.wrap IntKind.i64 (IntKind.wrap IntKind.i64 (IntKind.wrap IntKind.u64 (IntKind.wrap IntKind.i64 (p + p2)) / (2 : Int) ^ Int.toNat (1 : Int)) + p1)) (IntKind.wrap IntKind.i64 (IntKind.wrap IntKind.i64 (IntKind.wrap IntKind.i64 (IntKind.wrap IntKind.u64 (IntKind.wrap IntKind.i64 (p + p2)) / (2 : Int) ^ Int.toNat (1 : Int)) + p1) - p2)) (IntKind.wrap IntKind.i64 (IntKind.wrap IntKind.u64 (IntKind.wrap IntKind.i64 (p + p2)) / (2 : Int) ^ Int.toNat (1 : Int))) (IntKind.wrap IntKind.i64 (IntKind.wrap IntKind.i64 (IntKind.wrap IntKind.i64 (IntKind.wrap IntKind.u64 (IntKind.wrap IntKind.i64 (p + p2)) / (2 : Int) ^ Int.toNat (1 : Int)) + p1) - (1 : Int))) o2000)
  (slices_symMergeCmpFunc_Term_impl_compare_L33 r O p p1 p2 (IntKind.wrap IntKind.i64 (IntKind.wrap IntKind.u64 (IntKind.wrap IntKind.i64 (p + p2)) / (2 : Int) ^ Int.toNat (1 : Int))) (IntKind.wrap IntKind.i64 (IntKind.wrap IntKind.i64 (IntKind.wrap IntKind.u64 (IntKind.wrap IntKind.i64 (p + p2)) / (2 : Int) ^ Int.toNat (1 : Int)) + p1)) p p1 (IntKind.wrap IntKind.i64 (IntKind.wrap IntKind.i64 (IntKind.wrap IntKind.i64 (IntKind.wrap IntKind.u64 (IntKind.wrap IntKind.i64 (p + p2)) / (2 : Int) ^ Int.toNat (1 : Int)) + p1) - (1 : Int))) o2000))))) : XC Try.prog 137 [(.one (.ol 2000)), (Z p), (Z p1), (Z p2), (.one (.d (.fn 105)))] [(2000, (.lst 31 3 o2000))] r O :=
  xc_of (E := envA) (hs := slices_symMergeCmpFunc_Term_impl_compare_h) (c := (bodyOf Try.f137)) (n := 220) (res := []) (rs := .t []) (ks := [(2000, (false))]) (dir := [2000]) envAOk mixed rfl Try.func137 (by kernel_rfl) (by kernel_rfl) (by kernel_rfl) (by kernel_rfl) (to_vc (by kernel_rfl) h)

/-- slices.rotateCmpFunc[loop.example/g00461/impl.Term] -/
def slices_rotateCmpFunc_Term_impl_compare_h : Hints := ⟨[(2, ⟨[0, 2, 4, 10, 11], [], [], [], [], [], []⟩)], []⟩
def slices_rotateCmpFunc_Term_impl_compare_L2 (r : AV) (O : List (Nat × Ob)) (m : Int) (i : Int) (j : Int) (data : List (List Da)) : Prop := CL 58 Try.prog (subC (bodyOf Try.f144) [1, 1, 0, 0, 0]) (kont Try.prog envA slices_rotateCmpFunc_Term_impl_compare_h 58 (bodyOf Try.f144) [1, 1, 0, 0, 0] (vRet envA [] (.t []) [(2000, (false))] [2000] r O) (retKE (vRet envA [] (.t []) [(2000, (false))] [2000] r O))).1 (kont Try.prog envA slices_rotateCmpFunc_Term_impl_compare_h 58 (bodyOf Try.f144) [1, 1, 0, 0, 0] (vRet envA [] (.t []) [(2000, (false))] [2000] r O) (retKE (vRet envA [] (.t []) [(2000, (false))] [2000] r O))).2 ⟨[(0, (.one (.ol 2000))), (2, (Z m)), (4, (.one (.d (.fn 105)))), (10, (Z i)), (11, (Z j))], [(2000, (.lst 31 3 data))]⟩
theorem slices_rotateCmpFunc_Term_impl_compare_L2_of {r : AV} {O : List (Nat × Ob)} {m : Int} {i : Int} {j : Int} {data : List (List Da)} (h : ifB (decide (i ≠ j))
  (ifB (decide (j < i))
  ((∃ (xs : List (List Da)), (XC Try.prog 147 [(.one (.ol 2000)), (Z (IntKind.wrap IntKind.i64 (m - i))), (Z m), (Z j), (.one (.d (.fn 105)))] [(2000, (.lst 31 3 data))] (.tup []) [(2000, (.lst 31 3 xs))] ∧ slices_rotateCmpFunc_Term_impl_compare_L2 r O m (IntKind.wrap IntKind.i64 (i - j)) j xs)))
  ((∃ (xs1 : List (List Da)), (XC Try.prog 147 [(.one (.ol 2000)), (Z (IntKind.wrap IntKind.i64 (m - i))), (Z (IntKind.wrap IntKind.i64 (IntKind.wrap IntKind.i64 (m + j) - i))), (Z i), (.one (.d (.fn 105)))] [(2000, (.lst 31 3 data))] (.tup []) [(2000, (.lst 31 3 xs1))] ∧ slices_rotateCmpFunc_Term_impl_compare_L2 r O m i (IntKind.wrap IntKind.i64 (j - i)) xs1))))
  ((∃ (xs2 : List (List Da)), (XC Try.prog 147 [(.one (.ol 2000)), (Z (IntKind.wrap IntKind.i64 (m - i))), (Z m), (Z i), (.one (.d (.fn 105)))] [(2000, (.lst 31 3 data))] (.tup []) [(2000, (.lst 31 3 xs2))] ∧ ((.tup []) = r ∧ [(2000, (.lst 31 3 xs2))] = O))))) : slices_rotateCmpFunc_Term_impl_compare_L2 r O m i j data := by
  unfold slices_rotateCmpFunc_Term_impl_compare_L2
  refine cl_of (E := envA) (hs := slices_rotateCmpFunc_Term_impl_compare_h) envAOk mixed ?_
  exact to_vc (by kernel_rfl) h
theorem slices_rotateCmpFunc_Term_impl_compare_of {a : Int} {m : Int} {b : Int} {o2000 : List (List Da)} {r : AV} {O : List (Nat × Ob)} (h : slices_rotateCmpFunc_Term_impl_compare_L2 r O m (IntKind.wrap IntKind.i64 (m - a)) (IntKind.wrap IntKind.i64 (b - m)) o2000) : XC Try.prog 144 [(.one (.ol 2000)), (Z a), (Z m), (Z b), (.one (.d (.fn 105)))] [(2000, (.lst 31 3 o2000))] r O :=
  xc_of (E := envA) (hs := slices_rotateCmpFunc_Term_impl_compare_h) (c := (bodyOf Try.f144)) (n := 58) (res := []) (rs := .t []) (ks := [(2000, (false))]) (dir := [2000]) envAOk mixed rfl Try.func144 (by kernel_rfl) (by kernel_rfl) (by kernel_rfl) (by kernel_rfl) (to_vc (by kernel_rfl) h)

/-- slices.swapRangeCmpFunc[loop.example/g00461/impl.Term] -/
def slices_swapRangeCmpFunc_Term_impl_compare_h : Hints := ⟨[(1, ⟨[0, 1, 2, 3, 10], [], [], [], [], [], []⟩)], []⟩
def slices_swapRangeCmpFunc_Term_impl_compare_L1 (r : AV) (O : List (Nat × Ob)) (a : Int) (b : Int) (n : Int) (i : Int) (data : List (List Da)) : Prop := CL 38 Try.prog (subC (bodyOf Try.f147) [1, 0, 0]) (kont Try.prog envA slices_swapRangeCmpFunc_Term_impl_compare_h 38 (bodyOf Try.f147) [1, 0, 0] (vRet envA [] (.t []) [(2000, (false))] [2000] r O) (retKE (vRet envA [] (.t []) [(2000, (false))] [2000] r O))).1 (kont Try.prog envA slices_swapRangeCmpFunc_Term_impl_compare_h 38 (bodyOf Try.f147) [1, 0, 0] (vRet envA [] (.t []) [(2000, (false))] [2000] r O) (retKE (vRet envA [] (.t []) [(2000, (false))] [2000] r O))).2 ⟨[(0, (.one (.ol 2000))), (1, (Z a)), (2, (Z b)), (3, (Z n)), (10, (Z i))], [(2000, (.lst 31 3 data))]⟩
theorem slices_swapRangeCmpFunc_Term_impl_compare_L1_of {r : AV} {O : List (Nat × Ob)} {a : Int} {b : Int} {n : Int} {i : Int} {data : List (List Da)} (h : ifB (decide (i < n))
  ((∃ (m : Nat), ((IntKind.wrap IntKind.i64 (b + i)) = ((↑m : Int)) ∧ (Do (m < List.length data) ∧ (∃ (n2 : Nat), ((m * (3 : Nat)) = (n2 * (3 : Nat)) ∧ (∃ (n3 : Int), (∃ (n4 : Int), (∃ (d : Da), ((data[n2]?) = some [(.int .i64 n3), (.int .i64 n4), d] ∧ (∃ (m1 : Nat), ((IntKind.wrap IntKind.i64 (a + i)) = ((↑m1 : Int)) ∧ (Do (m1 < List.length data) ∧ (∃ (n5 : Nat), ((m1 * (3 : Nat)) = (n5 * (3 : Nat)) ∧ (∃ (n6 : Int), (∃ (n7 : Int), (∃ (d1 : Da), ((data[n5]?) = some [(.int .i64 n6), (.int .i64 n7), d1] ∧ (∃ (m2 : Nat), ((IntKind.wrap IntKind.i64 (a + i)) = ((↑m2 : Int)) ∧ (Do (m2 < List.length data) ∧ (∃ (m3 : Nat), ((m2 * (3 : Nat)) = (m3 * (3 : Nat) + (0 : Nat)) ∧ (∃ (n8 : Int), (∃ (n9 : Int), (∃ (d2 : Da), ((data[m3]?) = some [(.int .i64 n8), (.int .i64 n9), d2] ∧ (∃ (m4 : Nat), ((IntKind.wrap IntKind.i64 (b + i)) = ((↑m4 : Int)) ∧ (Do (m4 < List.length (List.set data m3 ([] ++ [Da.int IntKind.i64 n3, Da.int IntKind.i64 n4, d] ++ []))) ∧ (∃ (m5 : Nat), ((m4 * (3 : Nat)) = (m5 * (3 : Nat) + (0 : Nat)) ∧ (∃ (n10 : Int), (∃ (n11 : Int), (∃ (d3 : Da), (((List.set data m3 ([] ++ [Da.int IntKind.i64 n3, Da.int IntKind.i64 n4, d] ++ []))[m5]?) = some [(.int .i64 n10), (.int .i64 n11), d3] ∧ slices_swapRangeCmpFunc_Term_impl_compare_L1 r O a b n (IntKind.wrap IntKind.i64 (i + (1 : Int))) (List.set (List.set data m3 ([] ++ [Da.int IntKind.i64 n3, Da.int IntKind.i64 n4, d] ++ [])) m5 ([] ++ [Da.int IntKind.i64 n6, Da.int IntKind.i64 n7, d1] ++ [])))))))))))))))))))))))))))))))))))))))
  (((.tup []) = r ∧ [(2000, (.lst 31 3 data))] = O))) : slices_swapRangeCmpFunc_Term_impl_compare_L1 r O a b n i data := by
  unfold slices_swapRangeCmpFunc_Term_impl_compare_L1
  refine cl_of (E := envA) (hs := slices_swapRangeCmpFunc_Term_impl_compare_h) envAOk mixed ?_
  exact to_vc (by kernel_rfl) h
theorem slices_swapRangeCmpFunc_Term_impl_compare_of {a : Int} {b : Int} {n : Int} {o2000 : List (List Da)} {r : AV} {O : List (Nat × Ob)} (h : slices_swapRangeCmpFunc_Term_impl_compare_L1 r O a b n ((0 : Int)) o2000) : XC Try.prog 147 [(.one (.ol 2000)), (Z a), (Z b), (Z n), (.one (.d (.fn 105)))] [(2000, (.lst 31 3 o2000))] r O :=
  xc_of (E := envA) (hs := slices_swapRangeCmpFunc_Term_impl_compare_h) (c := (bodyOf Try.f147)) (n := 38) (res := []) (rs := .t []) (ks := [(2000, (false))]) (dir := [2000]) envAOk mixed rfl Try.func147 (by kernel_rfl) (by kernel_rfl) (by kernel_rfl) (by kernel_rfl) (to_vc (by kernel_rfl) h)

end AM
end Go.Proofs.Ytajcoogpmockiaa
