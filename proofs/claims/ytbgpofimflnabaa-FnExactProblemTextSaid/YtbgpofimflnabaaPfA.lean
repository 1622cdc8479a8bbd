/- What functions of the program ask, printed by a program of this session's and held against the loaded text by the kernel; no conditions. -/
import Derived.Test.YtbgpofimflnabaaEn
set_option linter.unusedVariables false
set_option maxRecDepth 100000
namespace Go.Proofs.Ytbgpofimflnabaa
namespace AM
open Go
attribute [local irreducible] vC

/-- loop.example/g00461/laws.FnExactLitText -/
def laws_FnExactLitText_h : Hints := ⟨[], []⟩
theorem laws_FnExactLitText_of {aS : List (List Da)} {aL : Bool} {aL1 : Int} {aL2 : Int} {aL3 : List (List Da)} {aL4 : Int} {aL5 : Int} {aL6 : List (List Da)} {r : AV} {O : List (Nat × Ob)} (h : (∃ (n : Int), (XC Try.prog 15 [(L aS), (Z ((1048576 : Int)))] [] (Z n) [] ∧ ifB (decide (n < (0 : Int)))
  (((B (true)) = r ∧ [] = O))
  ((∃ (n1 : Int), (XC Try.prog 16 [(.dat [(.bool aL), (.int .i64 aL1), (.int .i64 aL2), (.sl aL3), (.int .i64 aL4), (.int .i64 aL5), (.sl aL6)]), (Z n)] [] (Z n1) [] ∧ ifB (decide (n1 < (0 : Int)))
  (((B (true)) = r ∧ [] = O))
  ((∃ (xs : List (List Da)), (XC Try.prog 18 [(L aS)] [] (L xs) [] ∧ (∃ (b : Bool), (∃ (n2 : Int), (∃ (n3 : Int), (∃ (xs1 : List (List Da)), (∃ (n4 : Int), (∃ (n5 : Int), (∃ (xs2 : List (List Da)), (XC Try.prog 19 [(.dat [(.bool aL), (.int .i64 aL1), (.int .i64 aL2), (.sl aL3), (.int .i64 aL4), (.int .i64 aL5), (.sl aL6)])] [] (.dat [(.bool b), (.int .i64 n2), (.int .i64 n3), (.sl xs1), (.int .i64 n4), (.int .i64 n5), (.sl xs2)]) [] ∧ (∃ (q : ByteArray), (XC Try.prog 17 [(L xs), (.dat [(.bool b), (.int .i64 n2), (.int .i64 n3), (.sl xs1), (.int .i64 n4), (.int .i64 n5), (.sl xs2)])] [] (T q) [] ∧ (∃ (xs3 : List (List Da)), (XC Try.prog 18 [(L aS)] [] (L xs3) [] ∧ (∃ (b1 : Bool), (∃ (n6 : Int), (∃ (n7 : Int), (∃ (xs4 : List (List Da)), (∃ (n8 : Int), (∃ (n9 : Int), (∃ (xs5 : List (List Da)), (XC Try.prog 19 [(.dat [(.bool aL), (.int .i64 aL1), (.int .i64 aL2), (.sl aL3), (.int .i64 aL4), (.int .i64 aL5), (.sl aL6)])] [] (.dat [(.bool b1), (.int .i64 n6), (.int .i64 n7), (.sl xs4), (.int .i64 n8), (.int .i64 n9), (.sl xs5)]) [] ∧ (∃ (q1 : ByteArray), (XC Try.prog 20 [(L xs3), (.dat [(.bool b1), (.int .i64 n6), (.int .i64 n7), (.sl xs4), (.int .i64 n8), (.int .i64 n9), (.sl xs5)])] [] (T q1) [] ∧ ifB (decide (q1 ≠ q))
  (((B (false)) = r ∧ [] = O))
  ((∃ (xs6 : List (List Da)), (XC Try.prog 18 [(L aS)] [] (L xs6) [] ∧ (∃ (b2 : Bool), (XC Try.prog 21 [(L xs3), (L xs6)] [] (B b2) [] ∧ ifB (!b2)
  (((B (false)) = r ∧ [] = O))
  ((∃ (b3 : Bool), (∃ (n10 : Int), (∃ (n11 : Int), (∃ (xs7 : List (List Da)), (∃ (n12 : Int), (∃ (n13 : Int), (∃ (xs8 : List (List Da)), (XC Try.prog 19 [(.dat [(.bool aL), (.int .i64 aL1), (.int .i64 aL2), (.sl aL3), (.int .i64 aL4), (.int .i64 aL5), (.sl aL6)])] [] (.dat [(.bool b3), (.int .i64 n10), (.int .i64 n11), (.sl xs7), (.int .i64 n12), (.int .i64 n13), (.sl xs8)]) [] ∧ (∃ (b4 : Bool), (XC Try.prog 22 [(.dat [(.bool b1), (.int .i64 n6), (.int .i64 n7), (.sl xs4), (.int .i64 n8), (.int .i64 n9), (.sl xs5)]), (.dat [(.bool b3), (.int .i64 n10), (.int .i64 n11), (.sl xs7), (.int .i64 n12), (.int .i64 n13), (.sl xs8)])] [] (B b4) [] ∧ ifB (!b4)
  (((B (false)) = r ∧ [] = O))
  (((B (true)) = r ∧ [] = O))))))))))))))))))))))))))))))))))))))))))))))))) : XC Try.prog 3 [.one (.d (.sl aS)), .dat [.bool aL, .int .i64 aL1, .int .i64 aL2, .sl aL3, .int .i64 aL4, .int .i64 aL5, .sl aL6]] [] r O :=
  xc_of (E := env) (hs := laws_FnExactLitText_h) (c := (bodyOf Try.f3)) (n := 45) (res := [.tmp 4]) (rs := .c .b) (ks := []) (dir := []) envOk mixed rfl Try.func3 (by kernel_rfl) (by kernel_rfl) (by kernel_rfl) (by kernel_rfl) (to_vc (by kernel_rfl) h)

/-- loop.example/g00461/laws.FnExactLitOk -/
def laws_FnExactLitOk_h : Hints := ⟨[], []⟩
theorem laws_FnExactLitOk_of {aS : List (List Da)} {aL : Bool} {aL1 : Int} {aL2 : Int} {aL3 : List (List Da)} {aL4 : Int} {aL5 : Int} {aL6 : List (List Da)} {r : AV} {O : List (Nat × Ob)} (h : (∃ (n : Int), (XC Try.prog 15 [(L aS), (Z ((1048576 : Int)))] [] (Z n) [] ∧ ifB (decide (n < (0 : Int)))
  (((B (true)) = r ∧ [] = O))
  ((∃ (n1 : Int), (XC Try.prog 16 [(.dat [(.bool aL), (.int .i64 aL1), (.int .i64 aL2), (.sl aL3), (.int .i64 aL4), (.int .i64 aL5), (.sl aL6)]), (Z n)] [] (Z n1) [] ∧ ifB (decide (n1 < (0 : Int)))
  (((B (true)) = r ∧ [] = O))
  ((∃ (xs : List (List Da)), (XC Try.prog 18 [(L aS)] [] (L xs) [] ∧ (∃ (b : Bool), (∃ (n2 : Int), (∃ (n3 : Int), (∃ (xs1 : List (List Da)), (∃ (n4 : Int), (∃ (n5 : Int), (∃ (xs2 : List (List Da)), (XC Try.prog 19 [(.dat [(.bool aL), (.int .i64 aL1), (.int .i64 aL2), (.sl aL3), (.int .i64 aL4), (.int .i64 aL5), (.sl aL6)])] [] (.dat [(.bool b), (.int .i64 n2), (.int .i64 n3), (.sl xs1), (.int .i64 n4), (.int .i64 n5), (.sl xs2)]) [] ∧ (∃ (b1 : Bool), (XC Try.prog 23 [(L xs), (.dat [(.bool b), (.int .i64 n2), (.int .i64 n3), (.sl xs1), (.int .i64 n4), (.int .i64 n5), (.sl xs2)])] [] (B b1) [] ∧ (∃ (xs3 : List (List Da)), (XC Try.prog 18 [(L aS)] [] (L xs3) [] ∧ (∃ (b2 : Bool), (∃ (n6 : Int), (∃ (n7 : Int), (∃ (xs4 : List (List Da)), (∃ (n8 : Int), (∃ (n9 : Int), (∃ (xs5 : List (List Da)), (XC Try.prog 19 [(.dat [(.bool aL), (.int .i64 aL1), (.int .i64 aL2), (.sl aL3), (.int .i64 aL4), (.int .i64 aL5), (.sl aL6)])] [] (.dat [(.bool b2), (.int .i64 n6), (.int .i64 n7), (.sl xs4), (.int .i64 n8), (.int .i64 n9), (.sl xs5)]) [] ∧ (∃ (b3 : Bool), (XC Try.prog 24 [(L xs3), (.dat [(.bool b2), (.int .i64 n6), (.int .i64 n7), (.sl xs4), (.int .i64 n8), (.int .i64 n9), (.sl xs5)])] [] (B b3) [] ∧ ifB (decide (b3 ≠ b1))
  (((B (false)) = r ∧ [] = O))
  ((∃ (xs6 : List (List Da)), (XC Try.prog 18 [(L aS)] [] (L xs6) [] ∧ (∃ (b4 : Bool), (XC Try.prog 21 [(L xs3), (L xs6)] [] (B b4) [] ∧ ifB (!b4)
  (((B (false)) = r ∧ [] = O))
  ((∃ (b5 : Bool), (∃ (n10 : Int), (∃ (n11 : Int), (∃ (xs7 : List (List Da)), (∃ (n12 : Int), (∃ (n13 : Int), (∃ (xs8 : List (List Da)), (XC Try.prog 19 [(.dat [(.bool aL), (.int .i64 aL1), (.int .i64 aL2), (.sl aL3), (.int .i64 aL4), (.int .i64 aL5), (.sl aL6)])] [] (.dat [(.bool b5), (.int .i64 n10), (.int .i64 n11), (.sl xs7), (.int .i64 n12), (.int .i64 n13), (.sl xs8)]) [] ∧ (∃ (b6 : Bool), (XC Try.prog 22 [(.dat [(.bool b2), (.int .i64 n6), (.int .i64 n7), (.sl xs4), (.int .i64 n8), (.int .i64 n9), (.sl xs5)]), (.dat [(.bool b5), (.int .i64 n10), (.int .i64 n11), (.sl xs7), (.int .i64 n12), (.int .i64 n13), (.sl xs8)])] [] (B b6) [] ∧ ifB (!b6)
  (((B (false)) = r ∧ [] = O))
  (((B (true)) = r ∧ [] = O))))))))))))))))))))))))))))))))))))))))))))))))) : XC Try.prog 4 [.one (.d (.sl aS)), .dat [.bool aL, .int .i64 aL1, .int .i64 aL2, .sl aL3, .int .i64 aL4, .int .i64 aL5, .sl aL6]] [] r O :=
  xc_of (E := env) (hs := laws_FnExactLitOk_h) (c := (bodyOf Try.f4)) (n := 45) (res := [.tmp 4]) (rs := .c .b) (ks := []) (dir := []) envOk mixed rfl Try.func4 (by kernel_rfl) (by kernel_rfl) (by kernel_rfl) (by kernel_rfl) (to_vc (by kernel_rfl) h)

/-- loop.example/g00461/laws.FnExactStepText -/
def laws_FnExactStepText_h : Hints := ⟨[], []⟩
theorem laws_FnExactStepText_of {aP : Int} {aP1 : Int} {aP2 : Int} {aP3 : Int} {aP4 : Int} {aP5 : Bool} {aP6 : Bool} {aP7 : List (List Da)} {aP8 : Bool} {aP9 : List (List Da)} {aP10 : List (List Da)} {r : AV} {O : List (Nat × Ob)} (h : (∃ (n : Int), (XC Try.prog 25 [(.dat [(.int .i64 aP), (.int .i64 aP1), (.int .i64 aP2), (.int .i64 aP3), (.int .i64 aP4), (.bool aP5), (.bool aP6), (.sl aP7), (.bool aP8), (.sl aP9), (.sl aP10)]), (Z ((1048576 : Int)))] [] (Z n) [] ∧ ifB (decide (n < (0 : Int)))
  (((B (true)) = r ∧ [] = O))
  ((∃ (n1 : Int), (∃ (n2 : Int), (∃ (n3 : Int), (∃ (n4 : Int), (∃ (n5 : Int), (∃ (b : Bool), (∃ (b1 : Bool), (∃ (xs : List (List Da)), (∃ (b2 : Bool), (∃ (xs1 : List (List Da)), (∃ (xs2 : List (List Da)), (XC Try.prog 27 [(.dat [(.int .i64 aP), (.int .i64 aP1), (.int .i64 aP2), (.int .i64 aP3), (.int .i64 aP4), (.bool aP5), (.bool aP6), (.sl aP7), (.bool aP8), (.sl aP9), (.sl aP10)])] [] (.dat [(.int .i64 n1), (.int .i64 n2), (.int .i64 n3), (.int .i64 n4), (.int .i64 n5), (.bool b), (.bool b1), (.sl xs), (.bool b2), (.sl xs1), (.sl xs2)]) [] ∧ (∃ (q : ByteArray), (XC Try.prog 26 [(.dat [(.int .i64 n1), (.int .i64 n2), (.int .i64 n3), (.int .i64 n4), (.int .i64 n5), (.bool b), (.bool b1), (.sl xs), (.bool b2), (.sl xs1), (.sl xs2)])] [] (T q) [] ∧ (∃ (n6 : Int), (∃ (n7 : Int), (∃ (n8 : Int), (∃ (n9 : Int), (∃ (n10 : Int), (∃ (b3 : Bool), (∃ (b4 : Bool), (∃ (xs3 : List (List Da)), (∃ (b5 : Bool), (∃ (xs4 : List (List Da)), (∃ (xs5 : List (List Da)), (XC Try.prog 27 [(.dat [(.int .i64 aP), (.int .i64 aP1), (.int .i64 aP2), (.int .i64 aP3), (.int .i64 aP4), (.bool aP5), (.bool aP6), (.sl aP7), (.bool aP8), (.sl aP9), (.sl aP10)])] [] (.dat [(.int .i64 n6), (.int .i64 n7), (.int .i64 n8), (.int .i64 n9), (.int .i64 n10), (.bool b3), (.bool b4), (.sl xs3), (.bool b5), (.sl xs4), (.sl xs5)]) [] ∧ (∃ (q1 : ByteArray), (XC Try.prog 28 [(.dat [(.int .i64 n6), (.int .i64 n7), (.int .i64 n8), (.int .i64 n9), (.int .i64 n10), (.bool b3), (.bool b4), (.sl xs3), (.bool b5), (.sl xs4), (.sl xs5)])] [] (T q1) [] ∧ ifB (decide (q1 ≠ q))
  (((B (false)) = r ∧ [] = O))
  ((∃ (n11 : Int), (∃ (n12 : Int), (∃ (n13 : Int), (∃ (n14 : Int), (∃ (n15 : Int), (∃ (b6 : Bool), (∃ (b7 : Bool), (∃ (xs6 : List (List Da)), (∃ (b8 : Bool), (∃ (xs7 : List (List Da)), (∃ (xs8 : List (List Da)), (XC Try.prog 27 [(.dat [(.int .i64 aP), (.int .i64 aP1), (.int .i64 aP2), (.int .i64 aP3), (.int .i64 aP4), (.bool aP5), (.bool aP6), (.sl aP7), (.bool aP8), (.sl aP9), (.sl aP10)])] [] (.dat [(.int .i64 n11), (.int .i64 n12), (.int .i64 n13), (.int .i64 n14), (.int .i64 n15), (.bool b6), (.bool b7), (.sl xs6), (.bool b8), (.sl xs7), (.sl xs8)]) [] ∧ (∃ (b9 : Bool), (XC Try.prog 29 [(.dat [(.int .i64 n6), (.int .i64 n7), (.int .i64 n8), (.int .i64 n9), (.int .i64 n10), (.bool b3), (.bool b4), (.sl xs3), (.bool b5), (.sl xs4), (.sl xs5)]), (.dat [(.int .i64 n11), (.int .i64 n12), (.int .i64 n13), (.int .i64 n14), (.int .i64 n15), (.bool b6), (.bool b7), (.sl xs6), (.bool b8), (.sl xs7), (.sl xs8)])] [] (B b9) [] ∧ ifB (!b9)
  (((B (false)) = r ∧ [] = O))
  (((B (true)) = r ∧ [] = O))))))))))))))))))))))))))))))))))))))))))))))))) : XC Try.prog 5 [.dat [.int .i64 aP, .int .i64 aP1, .int .i64 aP2, .int .i64 aP3, .int .i64 aP4, .bool aP5, .bool aP6, .sl aP7, .bool aP8, .sl aP9, .sl aP10]] [] r O :=
  xc_of (E := env) (hs := laws_FnExactStepText_h) (c := (bodyOf Try.f5)) (n := 27) (res := [.tmp 2]) (rs := .c .b) (ks := []) (dir := []) envOk mixed rfl Try.func5 (by kernel_rfl) (by kernel_rfl) (by kernel_rfl) (by kernel_rfl) (to_vc (by kernel_rfl) h)

/-- loop.example/g00461/laws.FnExactRefuted -/
def laws_FnExactRefuted_h : Hints := ⟨[], []⟩
theorem laws_FnExactRefuted_of {aLog : List (List Da)} {r : AV} {O : List (Nat × Ob)} (h : (∃ (n : Int), (XC Try.prog 30 [(L aLog), (Z ((1048576 : Int)))] [] (Z n) [] ∧ ifB (decide (n < (0 : Int)))
  (((B (true)) = r ∧ [] = O))
  ((∃ (xs : List (List Da)), (XC Try.prog 32 [(L aLog)] [] (L xs) [] ∧ (∃ (n1 : Int), (XC Try.prog 31 [(L xs)] [] (Z n1) [] ∧ (∃ (xs1 : List (List Da)), (XC Try.prog 32 [(L aLog)] [] (L xs1) [] ∧ (∃ (n2 : Int), (XC Try.prog 33 [(L xs1)] [] (Z n2) [] ∧ ifB (decide (n2 ≠ n1))
  (((B (false)) = r ∧ [] = O))
  ((∃ (xs2 : List (List Da)), (XC Try.prog 32 [(L aLog)] [] (L xs2) [] ∧ (∃ (b : Bool), (XC Try.prog 34 [(L xs1), (L xs2)] [] (B b) [] ∧ ifB (!b)
  (((B (false)) = r ∧ [] = O))
  (((B (true)) = r ∧ [] = O))))))))))))))))))) : XC Try.prog 6 [.one (.d (.sl aLog))] [] r O :=
  xc_of (E := env) (hs := laws_FnExactRefuted_h) (c := (bodyOf Try.f6)) (n := 27) (res := [.tmp 2]) (rs := .c .b) (ks := []) (dir := []) envOk mixed rfl Try.func6 (by kernel_rfl) (by kernel_rfl) (by kernel_rfl) (by kernel_rfl) (to_vc (by kernel_rfl) h)

/-- loop.example/g00461/laws.FnExactClauseText -/
def laws_FnExactClauseText_h : Hints := ⟨[], []⟩
theorem laws_FnExactClauseText_of {aS : List (List Da)} {aC : List (List Da)} {r : AV} {O : List (Nat × Ob)} (h : (∃ (n : Int), (XC Try.prog 15 [(L aS), (Z ((1048576 : Int)))] [] (Z n) [] ∧ ifB (decide (n < (0 : Int)))
  (((B (true)) = r ∧ [] = O))
  ((∃ (n1 : Int), (XC Try.prog 35 [(.dat [(.sl aC)]), (Z n)] [] (Z n1) [] ∧ ifB (decide (n1 < (0 : Int)))
  (((B (true)) = r ∧ [] = O))
  ((∃ (xs : List (List Da)), (XC Try.prog 18 [(L aS)] [] (L xs) [] ∧ (∃ (xs1 : List (List Da)), (XC Try.prog 37 [(.dat [(.sl aC)])] [] (.dat [(.sl xs1)]) [] ∧ (∃ (q : ByteArray), (XC Try.prog 36 [(L xs), (.dat [(.sl xs1)])] [] (T q) [] ∧ (∃ (xs2 : List (List Da)), (XC Try.prog 18 [(L aS)] [] (L xs2) [] ∧ (∃ (xs3 : List (List Da)), (XC Try.prog 37 [(.dat [(.sl aC)])] [] (.dat [(.sl xs3)]) [] ∧ (∃ (q1 : ByteArray), (XC Try.prog 38 [(L xs2), (.dat [(.sl xs3)])] [] (T q1) [] ∧ ifB (decide (q1 ≠ q))
  (((B (false)) = r ∧ [] = O))
  ((∃ (xs4 : List (List Da)), (XC Try.prog 18 [(L aS)] [] (L xs4) [] ∧ (∃ (b : Bool), (XC Try.prog 21 [(L xs2), (L xs4)] [] (B b) [] ∧ ifB (!b)
  (((B (false)) = r ∧ [] = O))
  ((∃ (xs5 : List (List Da)), (XC Try.prog 37 [(.dat [(.sl aC)])] [] (.dat [(.sl xs5)]) [] ∧ (∃ (b1 : Bool), (XC Try.prog 39 [(.dat [(.sl xs3)]), (.dat [(.sl xs5)])] [] (B b1) [] ∧ ifB (!b1)
  (((B (false)) = r ∧ [] = O))
  (((B (true)) = r ∧ [] = O))))))))))))))))))))))))))))))) : XC Try.prog 7 [.one (.d (.sl aS)), .dat [.sl aC]] [] r O :=
  xc_of (E := env) (hs := laws_FnExactClauseText_h) (c := (bodyOf Try.f7)) (n := 45) (res := [.tmp 4]) (rs := .c .b) (ks := []) (dir := []) envOk mixed rfl Try.func7 (by kernel_rfl) (by kernel_rfl) (by kernel_rfl) (by kernel_rfl) (to_vc (by kernel_rfl) h)

/-- loop.example/g00461/laws.FnExactClauseOk -/
def laws_FnExactClauseOk_h : Hints := ⟨[], []⟩
theorem laws_FnExactClauseOk_of {aS : List (List Da)} {aC : List (List Da)} {r : AV} {O : List (Nat × Ob)} (h : (∃ (n : Int), (XC Try.prog 15 [(L aS), (Z ((1048576 : Int)))] [] (Z n) [] ∧ ifB (decide (n < (0 : Int)))
  (((B (true)) = r ∧ [] = O))
  ((∃ (n1 : Int), (XC Try.prog 35 [(.dat [(.sl aC)]), (Z n)] [] (Z n1) [] ∧ ifB (decide (n1 < (0 : Int)))
  (((B (true)) = r ∧ [] = O))
  ((∃ (xs : List (List Da)), (XC Try.prog 18 [(L aS)] [] (L xs) [] ∧ (∃ (xs1 : List (List Da)), (XC Try.prog 37 [(.dat [(.sl aC)])] [] (.dat [(.sl xs1)]) [] ∧ (∃ (b : Bool), (XC Try.prog 40 [(L xs), (.dat [(.sl xs1)])] [] (B b) [] ∧ (∃ (xs2 : List (List Da)), (XC Try.prog 18 [(L aS)] [] (L xs2) [] ∧ (∃ (xs3 : List (List Da)), (XC Try.prog 37 [(.dat [(.sl aC)])] [] (.dat [(.sl xs3)]) [] ∧ (∃ (b1 : Bool), (XC Try.prog 41 [(L xs2), (.dat [(.sl xs3)])] [] (B b1) [] ∧ ifB (decide (b1 ≠ b))
  (((B (false)) = r ∧ [] = O))
  ((∃ (xs4 : List (List Da)), (XC Try.prog 18 [(L aS)] [] (L xs4) [] ∧ (∃ (b2 : Bool), (XC Try.prog 21 [(L xs2), (L xs4)] [] (B b2) [] ∧ ifB (!b2)
  (((B (false)) = r ∧ [] = O))
  ((∃ (xs5 : List (List Da)), (XC Try.prog 37 [(.dat [(.sl aC)])] [] (.dat [(.sl xs5)]) [] ∧ (∃ (b3 : Bool), (XC Try.prog 39 [(.dat [(.sl xs3)]), (.dat [(.sl xs5)])] [] (B b3) [] ∧ ifB (!b3)
  (((B (false)) = r ∧ [] = O))
  (((B (true)) = r ∧ [] = O))))))))))))))))))))))))))))))) : XC Try.prog 8 [.one (.d (.sl aS)), .dat [.sl aC]] [] r O :=
  xc_of (E := env) (hs := laws_FnExactClauseOk_h) (c := (bodyOf Try.f8)) (n := 45) (res := [.tmp 4]) (rs := .c .b) (ks := []) (dir := []) envOk mixed rfl Try.func8 (by kernel_rfl) (by kernel_rfl) (by kernel_rfl) (by kernel_rfl) (to_vc (by kernel_rfl) h)

/-- loop.example/g00461/laws.FnExactProblemText -/
def laws_FnExactProblemText_h : Hints := ⟨[], []⟩
theorem laws_FnExactProblemText_of {aS : List (List Da)} {aList : List (List Da)} {r : AV} {O : List (Nat × Ob)} (h : (∃ (n : Int), (XC Try.prog 15 [(L aS), (Z ((1048576 : Int)))] [] (Z n) [] ∧ ifB (decide (n < (0 : Int)))
  (((B (true)) = r ∧ [] = O))
  ((∃ (n1 : Int), (XC Try.prog 42 [(L aList), (Z n)] [] (Z n1) [] ∧ ifB (decide (n1 < (0 : Int)))
  (((B (true)) = r ∧ [] = O))
  ((∃ (xs : List (List Da)), (XC Try.prog 18 [(L aS)] [] (L xs) [] ∧ (∃ (xs1 : List (List Da)), (XC Try.prog 44 [(L aList)] [] (L xs1) [] ∧ (∃ (q : ByteArray), (XC Try.prog 43 [(L xs), (L xs1)] [] (T q) [] ∧ (∃ (xs2 : List (List Da)), (XC Try.prog 18 [(L aS)] [] (L xs2) [] ∧ (∃ (xs3 : List (List Da)), (XC Try.prog 44 [(L aList)] [] (L xs3) [] ∧ (∃ (q1 : ByteArray), (XC Try.prog 45 [(L xs2), (L xs3)] [] (T q1) [] ∧ ifB (decide (q1 ≠ q))
  (((B (false)) = r ∧ [] = O))
  ((∃ (xs4 : List (List Da)), (XC Try.prog 18 [(L aS)] [] (L xs4) [] ∧ (∃ (b : Bool), (XC Try.prog 21 [(L xs2), (L xs4)] [] (B b) [] ∧ ifB (!b)
  (((B (false)) = r ∧ [] = O))
  ((∃ (xs5 : List (List Da)), (XC Try.prog 44 [(L aList)] [] (L xs5) [] ∧ (∃ (b1 : Bool), (XC Try.prog 46 [(L xs3), (L xs5)] [] (B b1) [] ∧ ifB (!b1)
  (((B (false)) = r ∧ [] = O))
  (((B (true)) = r ∧ [] = O))))))))))))))))))))))))))))))) : XC Try.prog 9 [.one (.d (.sl aS)), .one (.d (.sl aList))] [] r O :=
  xc_of (E := env) (hs := laws_FnExactProblemText_h) (c := (bodyOf Try.f9)) (n := 45) (res := [.tmp 4]) (rs := .c .b) (ks := []) (dir := []) envOk mixed rfl Try.func9 (by kernel_rfl) (by kernel_rfl) (by kernel_rfl) (by kernel_rfl) (to_vc (by kernel_rfl) h)

/-- loop.example/g00461/laws.FnExactVerdict -/
def laws_FnExactVerdict_h : Hints := ⟨[], []⟩
theorem laws_FnExactVerdict_of {aW : List (List Da)} {aW1 : List (List Da)} {aW2 : List (List Da)} {aW3 : List (List Da)} {aW4 : List (List Da)} {aW5 : Bool} {r : AV} {O : List (Nat × Ob)} (h : (∃ (n : Int), (XC Try.prog 47 [(.dat [(.sl aW), (.sl aW1), (.sl aW2), (.sl aW3), (.sl aW4), (.bool aW5)]), (Z ((1048576 : Int)))] [] (Z n) [] ∧ ifB (decide (n < (0 : Int)))
  (((B (true)) = r ∧ [] = O))
  ((∃ (xs : List (List Da)), (∃ (xs1 : List (List Da)), (∃ (xs2 : List (List Da)), (∃ (xs3 : List (List Da)), (∃ (xs4 : List (List Da)), (∃ (b : Bool), (XC Try.prog 49 [(.dat [(.sl aW), (.sl aW1), (.sl aW2), (.sl aW3), (.sl aW4), (.bool aW5)])] [] (.dat [(.sl xs), (.sl xs1), (.sl xs2), (.sl xs3), (.sl xs4), (.bool b)]) [] ∧ (∃ (n1 : Int), (XC Try.prog 48 [(.dat [(.sl xs), (.sl xs1), (.sl xs2), (.sl xs3), (.sl xs4), (.bool b)])] [] (Z n1) [] ∧ (∃ (xs5 : List (List Da)), (∃ (xs6 : List (List Da)), (∃ (xs7 : List (List Da)), (∃ (xs8 : List (List Da)), (∃ (xs9 : List (List Da)), (∃ (b1 : Bool), (XC Try.prog 49 [(.dat [(.sl aW), (.sl aW1), (.sl aW2), (.sl aW3), (.sl aW4), (.bool aW5)])] [] (.dat [(.sl xs5), (.sl xs6), (.sl xs7), (.sl xs8), (.sl xs9), (.bool b1)]) [] ∧ (∃ (n2 : Int), (XC Try.prog 50 [(.dat [(.sl xs5), (.sl xs6), (.sl xs7), (.sl xs8), (.sl xs9), (.bool b1)])] [] (Z n2) [] ∧ ifB (decide (n2 ≠ n1))
  (((B (false)) = r ∧ [] = O))
  ((∃ (xs10 : List (List Da)), (∃ (xs11 : List (List Da)), (∃ (xs12 : List (List Da)), (∃ (xs13 : List (List Da)), (∃ (xs14 : List (List Da)), (∃ (b2 : Bool), (XC Try.prog 49 [(.dat [(.sl aW), (.sl aW1), (.sl aW2), (.sl aW3), (.sl aW4), (.bool aW5)])] [] (.dat [(.sl xs10), (.sl xs11), (.sl xs12), (.sl xs13), (.sl xs14), (.bool b2)]) [] ∧ (∃ (b3 : Bool), (XC Try.prog 51 [(.dat [(.sl xs5), (.sl xs6), (.sl xs7), (.sl xs8), (.sl xs9), (.bool b1)]), (.dat [(.sl xs10), (.sl xs11), (.sl xs12), (.sl xs13), (.sl xs14), (.bool b2)])] [] (B b3) [] ∧ ifB (!b3)
  (((B (false)) = r ∧ [] = O))
  (((B (true)) = r ∧ [] = O)))))))))))))))))))))))))))))))))) : XC Try.prog 10 [.dat [.sl aW, .sl aW1, .sl aW2, .sl aW3, .sl aW4, .bool aW5]] [] r O :=
  xc_of (E := env) (hs := laws_FnExactVerdict_h) (c := (bodyOf Try.f10)) (n := 27) (res := [.tmp 2]) (rs := .c .b) (ks := []) (dir := []) envOk mixed rfl Try.func10 (by kernel_rfl) (by kernel_rfl) (by kernel_rfl) (by kernel_rfl) (to_vc (by kernel_rfl) h)

/-- loop.example/g00461/laws.FnExactWorkText -/
def laws_FnExactWorkText_h : Hints := ⟨[], []⟩
theorem laws_FnExactWorkText_of {aW : List (List Da)} {aW1 : List (List Da)} {aW2 : List (List Da)} {aW3 : List (List Da)} {aW4 : List (List Da)} {aW5 : Bool} {r : AV} {O : List (Nat × Ob)} (h : (∃ (n : Int), (XC Try.prog 47 [(.dat [(.sl aW), (.sl aW1), (.sl aW2), (.sl aW3), (.sl aW4), (.bool aW5)]), (Z ((1048576 : Int)))] [] (Z n) [] ∧ ifB (decide (n < (0 : Int)))
  (((B (true)) = r ∧ [] = O))
  ((∃ (xs : List (List Da)), (∃ (xs1 : List (List Da)), (∃ (xs2 : List (List Da)), (∃ (xs3 : List (List Da)), (∃ (xs4 : List (List Da)), (∃ (b : Bool), (XC Try.prog 49 [(.dat [(.sl aW), (.sl aW1), (.sl aW2), (.sl aW3), (.sl aW4), (.bool aW5)])] [] (.dat [(.sl xs), (.sl xs1), (.sl xs2), (.sl xs3), (.sl xs4), (.bool b)]) [] ∧ (∃ (q : ByteArray), (XC Try.prog 52 [(.dat [(.sl xs), (.sl xs1), (.sl xs2), (.sl xs3), (.sl xs4), (.bool b)])] [] (T q) [] ∧ (∃ (xs5 : List (List Da)), (∃ (xs6 : List (List Da)), (∃ (xs7 : List (List Da)), (∃ (xs8 : List (List Da)), (∃ (xs9 : List (List Da)), (∃ (b1 : Bool), (XC Try.prog 49 [(.dat [(.sl aW), (.sl aW1), (.sl aW2), (.sl aW3), (.sl aW4), (.bool aW5)])] [] (.dat [(.sl xs5), (.sl xs6), (.sl xs7), (.sl xs8), (.sl xs9), (.bool b1)]) [] ∧ (∃ (q1 : ByteArray), (XC Try.prog 53 [(.dat [(.sl xs5), (.sl xs6), (.sl xs7), (.sl xs8), (.sl xs9), (.bool b1)])] [] (T q1) [] ∧ ifB (decide (q1 ≠ q))
  (((B (false)) = r ∧ [] = O))
  ((∃ (xs10 : List (List Da)), (∃ (xs11 : List (List Da)), (∃ (xs12 : List (List Da)), (∃ (xs13 : List (List Da)), (∃ (xs14 : List (List Da)), (∃ (b2 : Bool), (XC Try.prog 49 [(.dat [(.sl aW), (.sl aW1), (.sl aW2), (.sl aW3), (.sl aW4), (.bool aW5)])] [] (.dat [(.sl xs10), (.sl xs11), (.sl xs12), (.sl xs13), (.sl xs14), (.bool b2)]) [] ∧ (∃ (b3 : Bool), (XC Try.prog 51 [(.dat [(.sl xs5), (.sl xs6), (.sl xs7), (.sl xs8), (.sl xs9), (.bool b1)]), (.dat [(.sl xs10), (.sl xs11), (.sl xs12), (.sl xs13), (.sl xs14), (.bool b2)])] [] (B b3) [] ∧ ifB (!b3)
  (((B (false)) = r ∧ [] = O))
  (((B (true)) = r ∧ [] = O)))))))))))))))))))))))))))))))))) : XC Try.prog 11 [.dat [.sl aW, .sl aW1, .sl aW2, .sl aW3, .sl aW4, .bool aW5]] [] r O :=
  xc_of (E := env) (hs := laws_FnExactWorkText_h) (c := (bodyOf Try.f11)) (n := 27) (res := [.tmp 2]) (rs := .c .b) (ks := []) (dir := []) envOk mixed rfl Try.func11 (by kernel_rfl) (by kernel_rfl) (by kernel_rfl) (by kernel_rfl) (to_vc (by kernel_rfl) h)

/-- loop.example/g00461/laws.FnExactRuleOk -/
def laws_FnExactRuleOk_h : Hints := ⟨[], []⟩
theorem laws_FnExactRuleOk_of {aS : List (List Da)} {aR : Int} {aR1 : Int} {aR2 : List (List Da)} {aR3 : Int} {aR4 : Int} {aR5 : List (List Da)} {r : AV} {O : List (Nat × Ob)} (h : (∃ (n : Int), (XC Try.prog 15 [(L aS), (Z ((1048576 : Int)))] [] (Z n) [] ∧ ifB (decide (n < (0 : Int)))
  (((B (true)) = r ∧ [] = O))
  ((∃ (n1 : Int), (XC Try.prog 54 [(.dat [(.int .i64 aR), (.int .i64 aR1), (.sl aR2), (.int .i64 aR3), (.int .i64 aR4), (.sl aR5)]), (Z n)] [] (Z n1) [] ∧ ifB (decide (n1 < (0 : Int)))
  (((B (true)) = r ∧ [] = O))
  ((∃ (xs : List (List Da)), (XC Try.prog 18 [(L aS)] [] (L xs) [] ∧ (∃ (n2 : Int), (∃ (n3 : Int), (∃ (xs1 : List (List Da)), (∃ (n4 : Int), (∃ (n5 : Int), (∃ (xs2 : List (List Da)), (XC Try.prog 56 [(.dat [(.int .i64 aR), (.int .i64 aR1), (.sl aR2), (.int .i64 aR3), (.int .i64 aR4), (.sl aR5)])] [] (.dat [(.int .i64 n2), (.int .i64 n3), (.sl xs1), (.int .i64 n4), (.int .i64 n5), (.sl xs2)]) [] ∧ (∃ (b : Bool), (XC Try.prog 55 [(L xs), (.dat [(.int .i64 n2), (.int .i64 n3), (.sl xs1), (.int .i64 n4), (.int .i64 n5), (.sl xs2)])] [] (B b) [] ∧ (∃ (xs3 : List (List Da)), (XC Try.prog 18 [(L aS)] [] (L xs3) [] ∧ (∃ (n6 : Int), (∃ (n7 : Int), (∃ (xs4 : List (List Da)), (∃ (n8 : Int), (∃ (n9 : Int), (∃ (xs5 : List (List Da)), (XC Try.prog 56 [(.dat [(.int .i64 aR), (.int .i64 aR1), (.sl aR2), (.int .i64 aR3), (.int .i64 aR4), (.sl aR5)])] [] (.dat [(.int .i64 n6), (.int .i64 n7), (.sl xs4), (.int .i64 n8), (.int .i64 n9), (.sl xs5)]) [] ∧ (∃ (b1 : Bool), (XC Try.prog 57 [(L xs3), (.dat [(.int .i64 n6), (.int .i64 n7), (.sl xs4), (.int .i64 n8), (.int .i64 n9), (.sl xs5)])] [] (B b1) [] ∧ ifB (decide (b1 ≠ b))
  (((B (false)) = r ∧ [] = O))
  ((∃ (xs6 : List (List Da)), (XC Try.prog 18 [(L aS)] [] (L xs6) [] ∧ (∃ (b2 : Bool), (XC Try.prog 21 [(L xs3), (L xs6)] [] (B b2) [] ∧ ifB (!b2)
  (((B (false)) = r ∧ [] = O))
  ((∃ (n10 : Int), (∃ (n11 : Int), (∃ (xs7 : List (List Da)), (∃ (n12 : Int), (∃ (n13 : Int), (∃ (xs8 : List (List Da)), (XC Try.prog 56 [(.dat [(.int .i64 aR), (.int .i64 aR1), (.sl aR2), (.int .i64 aR3), (.int .i64 aR4), (.sl aR5)])] [] (.dat [(.int .i64 n10), (.int .i64 n11), (.sl xs7), (.int .i64 n12), (.int .i64 n13), (.sl xs8)]) [] ∧ (∃ (b3 : Bool), (XC Try.prog 58 [(.dat [(.int .i64 n6), (.int .i64 n7), (.sl xs4), (.int .i64 n8), (.int .i64 n9), (.sl xs5)]), (.dat [(.int .i64 n10), (.int .i64 n11), (.sl xs7), (.int .i64 n12), (.int .i64 n13), (.sl xs8)])] [] (B b3) [] ∧ ifB (!b3)
  (((B (false)) = r ∧ [] = O))
  (((B (true)) = r ∧ [] = O)))))))))))))))))))))))))))))))))))))))))))))) : XC Try.prog 12 [.one (.d (.sl aS)), .dat [.int .i64 aR, .int .i64 aR1, .sl aR2, .int .i64 aR3, .int .i64 aR4, .sl aR5]] [] r O :=
  xc_of (E := env) (hs := laws_FnExactRuleOk_h) (c := (bodyOf Try.f12)) (n := 45) (res := [.tmp 4]) (rs := .c .b) (ks := []) (dir := []) envOk mixed rfl Try.func12 (by kernel_rfl) (by kernel_rfl) (by kernel_rfl) (by kernel_rfl) (to_vc (by kernel_rfl) h)

/-- loop.example/g00461/laws.FnExactClauseVars -/
def laws_FnExactClauseVars_h : Hints := ⟨[], []⟩
theorem laws_FnExactClauseVars_of {p : List (List Da)} {r : AV} {O : List (Nat × Ob)} (h : (∃ (n : Int), (XC Try.prog 35 [(.dat [(.sl p)]), (Z ((1048576 : Int)))] [] (Z n) [] ∧ ifB (decide (n < (0 : Int)))
  (((B (true)) = r ∧ [] = O))
  ((∃ (xs : List (List Da)), (XC Try.prog 37 [(.dat [(.sl p)])] [] (.dat [(.sl xs)]) [] ∧ (∃ (xs1 : List (List Da)), (XC Try.prog 59 [(.dat [(.sl xs)])] [] (L xs1) [] ∧ (∃ (xs2 : List (List Da)), (XC Try.prog 37 [(.dat [(.sl p)])] [] (.dat [(.sl xs2)]) [] ∧ (∃ (xs3 : List (List Da)), (XC Try.prog 60 [(.dat [(.sl xs2)])] [] (L xs3) [] ∧ (∃ (b : Bool), (XC Try.prog 61 [(L xs3), (L xs1)] [] (B b) [] ∧ ifB (!b)
  (((B (false)) = r ∧ [] = O))
  ((∃ (xs4 : List (List Da)), (XC Try.prog 37 [(.dat [(.sl p)])] [] (.dat [(.sl xs4)]) [] ∧ (∃ (b1 : Bool), (XC Try.prog 39 [(.dat [(.sl xs2)]), (.dat [(.sl xs4)])] [] (B b1) [] ∧ ifB (!b1)
  (((B (false)) = r ∧ [] = O))
  ((∃ (n1 : Int), (XC Try.prog 62 [(.dat [(.sl xs2)]), (Z ((1 : Int)))] [] (Z n1) [] ∧ ifB (decide (n1 < (0 : Int)))
  (((B (false)) = r ∧ [] = O))
  ((∃ (b2 : Bool), (XC Try.prog 61 [(L xs3), (L xs1)] [] (B b2) [] ∧ ifB (!b2)
  (((B (false)) = r ∧ [] = O))
  ((∃ (n2 : Int), (XC Try.prog 63 [(L xs3), (Z ((1 : Int)))] [] (Z n2) [] ∧ (∃ (n3 : Int), (XC Try.prog 64 [(L xs3), (Z ((1 : Int)))] [] (Z n3) [] ∧ ifB (decide (n3 < (0 : Int)))
  (((B (false)) = r ∧ [] = O))
  (ifB (decide (n3 ≠ n2))
  (((B (false)) = r ∧ [] = O))
  ((∃ (xs5 : List (List Da)), (XC Try.prog 37 [(.dat [(.sl p)])] [] (.dat [(.sl xs5)]) [] ∧ (∃ (xs6 : List (List Da)), (XC Try.prog 60 [(.dat [(.sl xs5)])] [] (L xs6) [] ∧ (∃ (b3 : Bool), (XC Try.prog 61 [(L xs6), (L xs1)] [] (B b3) [] ∧ ifB (!b3)
  (((B (false)) = r ∧ [] = O))
  ((∃ (n4 : Int), (XC Try.prog 64 [(L xs3), (Z ((1 : Int)))] [] (Z n4) [] ∧ ifB (decide (n4 < (0 : Int)))
  (((B (false)) = r ∧ [] = O))
  (ifB (decide (n4 ≠ n2))
  (((B (false)) = r ∧ [] = O))
  (((B (true)) = r ∧ [] = O)))))))))))))))))))))))))))))))))))))))))))) : XC Try.prog 13 [.dat [.sl p]] [] r O :=
  xc_of (E := env) (hs := laws_FnExactClauseVars_h) (c := (bodyOf Try.f13)) (n := 69) (res := [.tmp 2]) (rs := .c .b) (ks := []) (dir := []) envOk mixed rfl Try.func13 (by kernel_rfl) (by kernel_rfl) (by kernel_rfl) (by kernel_rfl) (to_vc (by kernel_rfl) h)

/-- loop.example/g00461/laws.FnExactNeeds -/
def laws_FnExactNeeds_h : Hints := ⟨[], []⟩
theorem laws_FnExactNeeds_of {p : List (List Da)} {p_1 : Int} {r : AV} {O : List (Nat × Ob)} (h : (∃ (n : Int), (XC Try.prog 30 [(L p), (Z ((1048576 : Int)))] [] (Z n) [] ∧ ifB (decide (n < (0 : Int)))
  (((B (true)) = r ∧ [] = O))
  ((∃ (xs : List (List Da)), (XC Try.prog 32 [(L p)] [] (L xs) [] ∧ (∃ (xs1 : List (List Da)), (XC Try.prog 65 [(L xs), (Z p_1)] [] (L xs1) [] ∧ (∃ (xs2 : List (List Da)), (XC Try.prog 32 [(L p)] [] (L xs2) [] ∧ (∃ (xs3 : List (List Da)), (XC Try.prog 66 [(L xs2), (Z p_1)] [] (L xs3) [] ∧ (∃ (b : Bool), (XC Try.prog 61 [(L xs3), (L xs1)] [] (B b) [] ∧ ifB (!b)
  (((B (false)) = r ∧ [] = O))
  ((∃ (xs4 : List (List Da)), (XC Try.prog 32 [(L p)] [] (L xs4) [] ∧ (∃ (b1 : Bool), (XC Try.prog 34 [(L xs2), (L xs4)] [] (B b1) [] ∧ ifB (!b1)
  (((B (false)) = r ∧ [] = O))
  ((∃ (n1 : Int), (XC Try.prog 67 [(L xs2), (Z ((1 : Int)))] [] (Z n1) [] ∧ ifB (decide (n1 < (0 : Int)))
  (((B (false)) = r ∧ [] = O))
  ((∃ (b2 : Bool), (XC Try.prog 61 [(L xs3), (L xs1)] [] (B b2) [] ∧ ifB (!b2)
  (((B (false)) = r ∧ [] = O))
  ((∃ (n2 : Int), (XC Try.prog 63 [(L xs3), (Z ((1 : Int)))] [] (Z n2) [] ∧ (∃ (n3 : Int), (XC Try.prog 64 [(L xs3), (Z ((1 : Int)))] [] (Z n3) [] ∧ ifB (decide (n3 < (0 : Int)))
  (((B (false)) = r ∧ [] = O))
  (ifB (decide (n3 ≠ n2))
  (((B (false)) = r ∧ [] = O))
  ((∃ (xs5 : List (List Da)), (XC Try.prog 32 [(L p)] [] (L xs5) [] ∧ (∃ (xs6 : List (List Da)), (XC Try.prog 66 [(L xs5), (Z p_1)] [] (L xs6) [] ∧ (∃ (b3 : Bool), (XC Try.prog 61 [(L xs6), (L xs1)] [] (B b3) [] ∧ ifB (!b3)
  (((B (false)) = r ∧ [] = O))
  ((∃ (n4 : Int), (XC Try.prog 64 [(L xs3), (Z ((1 : Int)))] [] (Z n4) [] ∧ ifB (decide (n4 < (0 : Int)))
  (((B (false)) = r ∧ [] = O))
  (ifB (decide (n4 ≠ n2))
  (((B (false)) = r ∧ [] = O))
  (((B (true)) = r ∧ [] = O)))))))))))))))))))))))))))))))))))))))))))) : XC Try.prog 14 [.one (.d (.sl p)), .one (.d (.int .i64 p_1))] [] r O :=
  xc_of (E := env) (hs := laws_FnExactNeeds_h) (c := (bodyOf Try.f14)) (n := 74) (res := [.tmp 4]) (rs := .c .b) (ks := []) (dir := []) envOk mixed rfl Try.func14 (by kernel_rfl) (by kernel_rfl) (by kernel_rfl) (by kernel_rfl) (to_vc (by kernel_rfl) h)

/-- loop.example/g00461/laws.szSymS -/
def laws_szSymS_h : Hints := ⟨[(5, ⟨[0, 1, 5], [], [], []⟩)], []⟩
def laws_szSymS_L5 (r : AV) (O : List (Nat × Ob)) (a : List (List Da)) (left : Int) (i : Int) : Prop := CL 27 Try.prog (subC (bodyOf Try.f15) [1, 1, 1, 0, 1, 0, 0]) (kont Try.prog env laws_szSymS_h 27 (bodyOf Try.f15) [1, 1, 1, 0, 1, 0, 0] (vRet env [.tmp 4] (.c (.i .i64)) [] [] r O) (retKE (vRet env [.tmp 4] (.c (.i .i64)) [] [] r O))).1 (kont Try.prog env laws_szSymS_h 27 (bodyOf Try.f15) [1, 1, 1, 0, 1, 0, 0] (vRet env [.tmp 4] (.c (.i .i64)) [] [] r O) (retKE (vRet env [.tmp 4] (.c (.i .i64)) [] [] r O))).2 ⟨[(0, (L a)), (1, (Z left)), (5, (Z i))], []⟩
theorem laws_szSymS_L5_of {r : AV} {O : List (Nat × Ob)} {a : List (List Da)} {left : Int} {i : Int} (h : ifB (decide (i < (↑(List.length a) : Int)))
  ((∃ (m : Nat), (i = ((↑m : Int)) ∧ (∃ (q : ByteArray), (∃ (n : Int), (∃ (b : Bool), ((a[m]?) = some [(.str q), (.int .i64 n), (.bool b)] ∧ (∃ (n1 : Int), (XC Try.prog 68 [(.dat [(.str q), (.int .i64 n), (.bool b)]), (Z left)] [] (Z n1) [] ∧ ifB (decide (n1 < (0 : Int)))
  (((Z ((-1 : Int))) = r ∧ [] = O))
  (laws_szSymS_L5 r O a n1 (IntKind.wrap IntKind.i64 (i + (1 : Int)))))))))))))
  (((Z left) = r ∧ [] = O))) : laws_szSymS_L5 r O a left i := by
  unfold laws_szSymS_L5
  refine cl_of (E := env) (hs := laws_szSymS_h) envOk mixed ?_
  exact to_vc (by kernel_rfl) h
theorem laws_szSymS_of {a : List (List Da)} {left : Int} {r : AV} {O : List (Nat × Ob)} (h : ifB (decide (IntKind.wrap IntKind.i64 (left - (↑(List.length a) : Int)) < (0 : Int)))
  (((Z ((-1 : Int))) = r ∧ [] = O))
  (laws_szSymS_L5 r O a (IntKind.wrap IntKind.i64 (left - (↑(List.length a) : Int))) ((0 : Int)))) : XC Try.prog 15 [(L a), (Z left)] [] r O :=
  xc_of (E := env) (hs := laws_szSymS_h) (c := (bodyOf Try.f15)) (n := 27) (res := [.tmp 4]) (rs := .c (.i .i64)) (ks := []) (dir := []) envOk mixed rfl Try.func15 (by kernel_rfl) (by kernel_rfl) (by kernel_rfl) (by kernel_rfl) (to_vc (by kernel_rfl) h)

/-- loop.example/g00461/laws.szLit -/
def laws_szLit_h : Hints := ⟨[], []⟩
theorem laws_szLit_of {a : Bool} {a1 : Int} {a2 : Int} {a3 : List (List Da)} {a4 : Int} {a5 : Int} {a6 : List (List Da)} {left : Int} {r : AV} {O : List (Nat × Ob)} (h : (∃ (n : Int), (XC Try.prog 69 [(.dat [(.int .i64 a1), (.int .i64 a2), (.sl a3)]), (Z left)] [] (Z n) [] ∧ ifB (decide (n < (0 : Int)))
  (((Z ((-1 : Int))) = r ∧ [] = O))
  ((∃ (n1 : Int), (XC Try.prog 69 [(.dat [(.int .i64 a4), (.int .i64 a5), (.sl a6)]), (Z n)] [] (Z n1) [] ∧ ifB (decide (n1 < (0 : Int)))
  (((Z ((-1 : Int))) = r ∧ [] = O))
  (((Z n1) = r ∧ [] = O)))))))) : XC Try.prog 16 [(.dat [(.bool a), (.int .i64 a1), (.int .i64 a2), (.sl a3), (.int .i64 a4), (.int .i64 a5), (.sl a6)]), (Z left)] [] r O :=
  xc_of (E := env) (hs := laws_szLit_h) (c := (bodyOf Try.f16)) (n := 18) (res := [.tmp 4]) (rs := .c (.i .i64)) (ks := []) (dir := []) envOk mixed rfl Try.func16 (by kernel_rfl) (by kernel_rfl) (by kernel_rfl) (by kernel_rfl) (to_vc (by kernel_rfl) h)

/-- loop.example/g00461/laws.toSymS -/
def laws_toSymS_h : Hints := ⟨[(3, ⟨[0, 3, 4], [], [], []⟩)], []⟩
def laws_toSymS_L3 (r : AV) (O : List (Nat × Ob)) (a : List (List Da)) (i : Int) (out : List (List Da)) : Prop := CL 23 Try.prog (subC (bodyOf Try.f18) [1, 1, 0, 1, 0, 0]) (kont Try.prog env laws_toSymS_h 23 (bodyOf Try.f18) [1, 1, 0, 1, 0, 0] (vRet env [.tmp 2] (.c .l) [] [] r O) (retKE (vRet env [.tmp 2] (.c .l) [] [] r O))).1 (kont Try.prog env laws_toSymS_h 23 (bodyOf Try.f18) [1, 1, 0, 1, 0, 0] (vRet env [.tmp 2] (.c .l) [] [] r O) (retKE (vRet env [.tmp 2] (.c .l) [] [] r O))).2 ⟨[(0, (L a)), (3, (.one (.ol 1900))), (4, (Z i))], [(1900, (.lst 113 3 out))]⟩
theorem laws_toSymS_L3_of {r : AV} {O : List (Nat × Ob)} {a : List (List Da)} {i : Int} {out : List (List Da)} (h : ifB (decide (i < (↑(List.length a) : Int)))
  ((∃ (m : Nat), (i = ((↑m : Int)) ∧ (∃ (q : ByteArray), (∃ (n : Int), (∃ (b : Bool), ((a[m]?) = some [(.str q), (.int .i64 n), (.bool b)] ∧ (∃ (q1 : ByteArray), (∃ (n1 : Int), (∃ (b1 : Bool), (XC Try.prog 71 [(.dat [(.str q), (.int .i64 n), (.bool b)])] [] (.dat [(.str q1), (.int .i64 n1), (.bool b1)]) [] ∧ (∃ (m1 : Nat), (i = ((↑m1 : Int)) ∧ (Do (m1 < List.length out) ∧ (∃ (m2 : Nat), ((m1 * (3 : Nat)) = (m2 * (3 : Nat) + (0 : Nat)) ∧ (∃ (q2 : ByteArray), (∃ (n2 : Int), (∃ (b2 : Bool), ((out[m2]?) = some [(.str q2), (.int .i64 n2), (.bool b2)] ∧ laws_toSymS_L3 r O a (IntKind.wrap IntKind.i64 (i + (1 : Int))) (List.set out m2 ([] ++ [Da.str q1, Da.int IntKind.i64 n1, Da.bool b1] ++ []))))))))))))))))))))))
  (((L out) = r ∧ [] = O))) : laws_toSymS_L3 r O a i out := by
  unfold laws_toSymS_L3
  refine cl_of (E := env) (hs := laws_toSymS_h) envOk mixed ?_
  exact to_vc (by kernel_rfl) h
theorem laws_toSymS_of {a : List (List Da)} {r : AV} {O : List (Nat × Ob)} (h : (∃ (l : Nat), (∃ (c : Nat), (((↑(List.length a) : Int)) = ((↑l : Int)) ∧ (((↑(List.length a) : Int)) = ((↑c : Int)) ∧ (Do (l ≤ c ∧ Prod.fst ((32 : Nat), [At.d (Da.str { data := #[] }), At.d (Da.int IntKind.i64 (0 : Int)), At.d (Da.bool false)]) * c ≤ (281474976710656 : Nat) ∧ c ≤ (281474976710656 : Nat)) ∧ laws_toSymS_L3 r O a ((0 : Int)) (List.replicate l [Da.str { data := #[] }, Da.int IntKind.i64 (0 : Int), Da.bool false]))))))) : XC Try.prog 18 [(L a)] [] r O :=
  xc_of (E := env) (hs := laws_toSymS_h) (c := (bodyOf Try.f18)) (n := 23) (res := [.tmp 2]) (rs := .c .l) (ks := []) (dir := []) envOk mixed rfl Try.func18 (by kernel_rfl) (by kernel_rfl) (by kernel_rfl) (by kernel_rfl) (to_vc (by kernel_rfl) h)

/-- loop.example/g00461/laws.toLit -/
def laws_toLit_h : Hints := ⟨[], []⟩
theorem laws_toLit_of {a : Bool} {a1 : Int} {a2 : Int} {a3 : List (List Da)} {a4 : Int} {a5 : Int} {a6 : List (List Da)} {r : AV} {O : List (Nat × Ob)} (h : (∃ (n : Int), (∃ (n1 : Int), (∃ (xs : List (List Da)), (XC Try.prog 72 [(.dat [(.int .i64 a1), (.int .i64 a2), (.sl a3)])] [] (.dat [(.int .i64 n), (.int .i64 n1), (.sl xs)]) [] ∧ (∃ (n2 : Int), (∃ (n3 : Int), (∃ (xs1 : List (List Da)), (XC Try.prog 72 [(.dat [(.int .i64 a4), (.int .i64 a5), (.sl a6)])] [] (.dat [(.int .i64 n2), (.int .i64 n3), (.sl xs1)]) [] ∧ ((.dat [(.bool a), (.int .i64 n), (.int .i64 n1), (.sl xs), (.int .i64 n2), (.int .i64 n3), (.sl xs1)]) = r ∧ [] = O)))))))))) : XC Try.prog 19 [(.dat [(.bool a), (.int .i64 a1), (.int .i64 a2), (.sl a3), (.int .i64 a4), (.int .i64 a5), (.sl a6)])] [] r O :=
  xc_of (E := env) (hs := laws_toLit_h) (c := (bodyOf Try.f19)) (n := 16) (res := [.cell 2 37]) (rs := .d [.b, (.i .i64), (.i .i64), .l, (.i .i64), (.i .i64), .l]) (ks := []) (dir := []) envOk mixed rfl Try.func19 (by kernel_rfl) (by kernel_rfl) (by kernel_rfl) (by kernel_rfl) (to_vc (by kernel_rfl) h)

/-- loop.example/g00461/spec.LitText -/
def spec_LitText_h : Hints := ⟨[], []⟩
theorem spec_LitText_of {s : List (List Da)} {l : Bool} {l1 : Int} {l2 : Int} {l3 : List (List Da)} {l4 : Int} {l5 : Int} {l6 : List (List Da)} {r : AV} {O : List (Nat × Ob)} (h : ifB l
  ((∃ (q : ByteArray), (XC Try.prog 70 [(L s), (.dat [(.int .i64 l1), (.int .i64 l2), (.sl l3)])] [] (T q) [] ∧ (Do (ByteArray.size (q ++ { data := #[(32 : UInt8), (61 : UInt8), (32 : UInt8)] }) ≤ (281474976710656 : Nat)) ∧ (∃ (q1 : ByteArray), (XC Try.prog 70 [(L s), (.dat [(.int .i64 l4), (.int .i64 l5), (.sl l6)])] [] (T q1) [] ∧ (Do (ByteArray.size (q ++ { data := #[(32 : UInt8), (61 : UInt8), (32 : UInt8)] } ++ q1) ≤ (281474976710656 : Nat)) ∧ ((T (q ++ { data := #[(32 : UInt8), (61 : UInt8), (32 : UInt8)] } ++ q1)) = r ∧ [] = O))))))))
  ((∃ (q2 : ByteArray), (XC Try.prog 70 [(L s), (.dat [(.int .i64 l1), (.int .i64 l2), (.sl l3)])] [] (T q2) [] ∧ (Do (ByteArray.size (q2 ++ { data := #[(32 : UInt8), (33 : UInt8), (61 : UInt8), (32 : UInt8)] }) ≤ (281474976710656 : Nat)) ∧ (∃ (q3 : ByteArray), (XC Try.prog 70 [(L s), (.dat [(.int .i64 l4), (.int .i64 l5), (.sl l6)])] [] (T q3) [] ∧ (Do (ByteArray.size (q2 ++ { data := #[(32 : UInt8), (33 : UInt8), (61 : UInt8), (32 : UInt8)] } ++ q3) ≤ (281474976710656 : Nat)) ∧ ((T (q2 ++ { data := #[(32 : UInt8), (33 : UInt8), (61 : UInt8), (32 : UInt8)] } ++ q3)) = r ∧ [] = O))))))))) : XC Try.prog 17 [(L s), (.dat [(.bool l), (.int .i64 l1), (.int .i64 l2), (.sl l3), (.int .i64 l4), (.int .i64 l5), (.sl l6)])] [] r O :=
  xc_of (E := env) (hs := spec_LitText_h) (c := (bodyOf Try.f17)) (n := 19) (res := [.tmp 4]) (rs := .c .s) (ks := []) (dir := []) envOk mixed rfl Try.func17 (by kernel_rfl) (by kernel_rfl) (by kernel_rfl) (by kernel_rfl) (to_vc (by kernel_rfl) h)

/-- loop.example/g00461/impl.LitText -/
def impl_LitText_h : Hints := ⟨[], []⟩
theorem impl_LitText_of {s : List (List Da)} {l : Bool} {l1 : Int} {l2 : Int} {l3 : List (List Da)} {l4 : Int} {l5 : Int} {l6 : List (List Da)} {r : AV} {O : List (Nat × Ob)} (h : ifB l
  ((∃ (q : ByteArray), (XC Try.prog 73 [(L s), (.dat [(.int .i64 l1), (.int .i64 l2), (.sl l3)])] [] (T q) [] ∧ (Do (ByteArray.size (q ++ { data := #[(32 : UInt8), (61 : UInt8), (32 : UInt8)] }) ≤ (281474976710656 : Nat)) ∧ (∃ (q1 : ByteArray), (XC Try.prog 73 [(L s), (.dat [(.int .i64 l4), (.int .i64 l5), (.sl l6)])] [] (T q1) [] ∧ (Do (ByteArray.size (q ++ { data := #[(32 : UInt8), (61 : UInt8), (32 : UInt8)] } ++ q1) ≤ (281474976710656 : Nat)) ∧ ((T (q ++ { data := #[(32 : UInt8), (61 : UInt8), (32 : UInt8)] } ++ q1)) = r ∧ [] = O))))))))
  ((∃ (q2 : ByteArray), (XC Try.prog 73 [(L s), (.dat [(.int .i64 l1), (.int .i64 l2), (.sl l3)])] [] (T q2) [] ∧ (Do (ByteArray.size (q2 ++ { data := #[(32 : UInt8), (33 : UInt8), (61 : UInt8), (32 : UInt8)] }) ≤ (281474976710656 : Nat)) ∧ (∃ (q3 : ByteArray), (XC Try.prog 73 [(L s), (.dat [(.int .i64 l4), (.int .i64 l5), (.sl l6)])] [] (T q3) [] ∧ (Do (ByteArray.size (q2 ++ { data := #[(32 : UInt8), (33 : UInt8), (61 : UInt8), (32 : UInt8)] } ++ q3) ≤ (281474976710656 : Nat)) ∧ ((T (q2 ++ { data := #[(32 : UInt8), (33 : UInt8), (61 : UInt8), (32 : UInt8)] } ++ q3)) = r ∧ [] = O))))))))) : XC Try.prog 20 [(L s), (.dat [(.bool l), (.int .i64 l1), (.int .i64 l2), (.sl l3), (.int .i64 l4), (.int .i64 l5), (.sl l6)])] [] r O :=
  xc_of (E := env) (hs := impl_LitText_h) (c := (bodyOf Try.f20)) (n := 19) (res := [.tmp 4]) (rs := .c .s) (ks := []) (dir := []) envOk mixed rfl Try.func20 (by kernel_rfl) (by kernel_rfl) (by kernel_rfl) (by kernel_rfl) (to_vc (by kernel_rfl) h)

/-- loop.example/g00461/laws.eqSymS -/
def laws_eqSymS_h : Hints := ⟨[(4, ⟨[0, 1, 5], [], [], []⟩)], []⟩
def laws_eqSymS_L4 (r : AV) (O : List (Nat × Ob)) (a : List (List Da)) (b : List (List Da)) (i : Int) : Prop := CL 27 Try.prog (subC (bodyOf Try.f21) [1, 1, 0, 1, 0, 0]) (kont Try.prog env laws_eqSymS_h 27 (bodyOf Try.f21) [1, 1, 0, 1, 0, 0] (vRet env [.tmp 4] (.c .b) [] [] r O) (retKE (vRet env [.tmp 4] (.c .b) [] [] r O))).1 (kont Try.prog env laws_eqSymS_h 27 (bodyOf Try.f21) [1, 1, 0, 1, 0, 0] (vRet env [.tmp 4] (.c .b) [] [] r O) (retKE (vRet env [.tmp 4] (.c .b) [] [] r O))).2 ⟨[(0, (L a)), (1, (L b)), (5, (Z i))], []⟩
theorem laws_eqSymS_L4_of {r : AV} {O : List (Nat × Ob)} {a : List (List Da)} {b : List (List Da)} {i : Int} (h : ifB (decide (i < (↑(List.length a) : Int)))
  ((∃ (m : Nat), (i = ((↑m : Int)) ∧ (∃ (q : ByteArray), (∃ (n : Int), (∃ (b2 : Bool), ((a[m]?) = some [(.str q), (.int .i64 n), (.bool b2)] ∧ (∃ (m1 : Nat), (i = ((↑m1 : Int)) ∧ (∃ (q1 : ByteArray), (∃ (n1 : Int), (∃ (b3 : Bool), ((b[m1]?) = some [(.str q1), (.int .i64 n1), (.bool b3)] ∧ (∃ (b4 : Bool), (XC Try.prog 74 [(.dat [(.str q), (.int .i64 n), (.bool b2)]), (.dat [(.str q1), (.int .i64 n1), (.bool b3)])] [] (B b4) [] ∧ ifB (!b4)
  (((B (false)) = r ∧ [] = O))
  (laws_eqSymS_L4 r O a b (IntKind.wrap IntKind.i64 (i + (1 : Int)))))))))))))))))))
  (((B (true)) = r ∧ [] = O))) : laws_eqSymS_L4 r O a b i := by
  unfold laws_eqSymS_L4
  refine cl_of (E := env) (hs := laws_eqSymS_h) envOk mixed ?_
  exact to_vc (by kernel_rfl) h
theorem laws_eqSymS_of {a : List (List Da)} {b : List (List Da)} {r : AV} {O : List (Nat × Ob)} (h : ifB (decide ((↑(List.length a) : Int) ≠ (↑(List.length b) : Int)))
  (((B (false)) = r ∧ [] = O))
  (laws_eqSymS_L4 r O a b ((0 : Int)))) : XC Try.prog 21 [(L a), (L b)] [] r O :=
  xc_of (E := env) (hs := laws_eqSymS_h) (c := (bodyOf Try.f21)) (n := 27) (res := [.tmp 4]) (rs := .c .b) (ks := []) (dir := []) envOk mixed rfl Try.func21 (by kernel_rfl) (by kernel_rfl) (by kernel_rfl) (by kernel_rfl) (to_vc (by kernel_rfl) h)

/-- loop.example/g00461/laws.eqLit -/
def laws_eqLit_h : Hints := ⟨[], []⟩
theorem laws_eqLit_of {a : Bool} {a1 : Int} {a2 : Int} {a3 : List (List Da)} {a4 : Int} {a5 : Int} {a6 : List (List Da)} {b : Bool} {b1 : Int} {b2 : Int} {b3 : List (List Da)} {b4 : Int} {b5 : Int} {b6 : List (List Da)} {r : AV} {O : List (Nat × Ob)} (h : ifB (decide (a ≠ b))
  (((B (false)) = r ∧ [] = O))
  ((∃ (b7 : Bool), (XC Try.prog 75 [(.dat [(.int .i64 a1), (.int .i64 a2), (.sl a3)]), (.dat [(.int .i64 b1), (.int .i64 b2), (.sl b3)])] [] (B b7) [] ∧ ifB (!b7)
  (((B (false)) = r ∧ [] = O))
  ((∃ (b8 : Bool), (XC Try.prog 75 [(.dat [(.int .i64 a4), (.int .i64 a5), (.sl a6)]), (.dat [(.int .i64 b4), (.int .i64 b5), (.sl b6)])] [] (B b8) [] ∧ ifB (!b8)
  (((B (false)) = r ∧ [] = O))
  (((B (true)) = r ∧ [] = O))))))))) : XC Try.prog 22 [(.dat [(.bool a), (.int .i64 a1), (.int .i64 a2), (.sl a3), (.int .i64 a4), (.int .i64 a5), (.sl a6)]), (.dat [(.bool b), (.int .i64 b1), (.int .i64 b2), (.sl b3), (.int .i64 b4), (.int .i64 b5), (.sl b6)])] [] r O :=
  xc_of (E := env) (hs := laws_eqLit_h) (c := (bodyOf Try.f22)) (n := 22) (res := [.tmp 4]) (rs := .c .b) (ks := []) (dir := []) envOk mixed rfl Try.func22 (by kernel_rfl) (by kernel_rfl) (by kernel_rfl) (by kernel_rfl) (to_vc (by kernel_rfl) h)

/-- loop.example/g00461/spec.LitOk -/
def spec_LitOk_h : Hints := ⟨[], []⟩
theorem spec_LitOk_of {s : List (List Da)} {l : Bool} {l1 : Int} {l2 : Int} {l3 : List (List Da)} {l4 : Int} {l5 : Int} {l6 : List (List Da)} {r : AV} {O : List (Nat × Ob)} (h : (∃ (b : Bool), (XC Try.prog 76 [(L s), (.dat [(.int .i64 l1), (.int .i64 l2), (.sl l3)])] [] (B b) [] ∧ ifB b
  ((∃ (b1 : Bool), (XC Try.prog 76 [(L s), (.dat [(.int .i64 l4), (.int .i64 l5), (.sl l6)])] [] (B b1) [] ∧ ifB b1
  ((∃ (b2 : Bool), (XC Try.prog 77 [(.dat [(.int .i64 l1), (.int .i64 l2), (.sl l3)]), (.dat [(.int .i64 l4), (.int .i64 l5), (.sl l6)])] [] (B b2) [] ∧ ((B (!b2)) = r ∧ [] = O))))
  (((B (false)) = r ∧ [] = O)))))
  (((B (false)) = r ∧ [] = O))))) : XC Try.prog 23 [(L s), (.dat [(.bool l), (.int .i64 l1), (.int .i64 l2), (.sl l3), (.int .i64 l4), (.int .i64 l5), (.sl l6)])] [] r O :=
  xc_of (E := env) (hs := spec_LitOk_h) (c := (bodyOf Try.f23)) (n := 23) (res := [.tmp 4]) (rs := .c .b) (ks := []) (dir := []) envOk mixed rfl Try.func23 (by kernel_rfl) (by kernel_rfl) (by kernel_rfl) (by kernel_rfl) (to_vc (by kernel_rfl) h)

/-- loop.example/g00461/impl.LitOk -/
def impl_LitOk_h : Hints := ⟨[], []⟩
theorem impl_LitOk_of {s : List (List Da)} {l : Bool} {l1 : Int} {l2 : Int} {l3 : List (List Da)} {l4 : Int} {l5 : Int} {l6 : List (List Da)} {r : AV} {O : List (Nat × Ob)} (h : (∃ (b : Bool), (XC Try.prog 78 [(L s), (.dat [(.int .i64 l1), (.int .i64 l2), (.sl l3)])] [] (B b) [] ∧ ifB b
  ((∃ (b1 : Bool), (XC Try.prog 78 [(L s), (.dat [(.int .i64 l4), (.int .i64 l5), (.sl l6)])] [] (B b1) [] ∧ ifB b1
  ((∃ (b2 : Bool), (XC Try.prog 79 [(.dat [(.int .i64 l1), (.int .i64 l2), (.sl l3)]), (.dat [(.int .i64 l4), (.int .i64 l5), (.sl l6)])] [] (B b2) [] ∧ ((B (!b2)) = r ∧ [] = O))))
  (((B (false)) = r ∧ [] = O)))))
  (((B (false)) = r ∧ [] = O))))) : XC Try.prog 24 [(L s), (.dat [(.bool l), (.int .i64 l1), (.int .i64 l2), (.sl l3), (.int .i64 l4), (.int .i64 l5), (.sl l6)])] [] r O :=
  xc_of (E := env) (hs := impl_LitOk_h) (c := (bodyOf Try.f24)) (n := 23) (res := [.tmp 4]) (rs := .c .b) (ks := []) (dir := []) envOk mixed rfl Try.func24 (by kernel_rfl) (by kernel_rfl) (by kernel_rfl) (by kernel_rfl) (to_vc (by kernel_rfl) h)

/-- loop.example/g00461/laws.szStep -/
def laws_szStep_h : Hints := ⟨[], []⟩
theorem laws_szStep_of {a : Int} {a1 : Int} {a2 : Int} {a3 : Int} {a4 : Int} {a5 : Bool} {a6 : Bool} {a7 : List (List Da)} {a8 : Bool} {a9 : List (List Da)} {a10 : List (List Da)} {left : Int} {r : AV} {O : List (Nat × Ob)} (h : (∃ (n : Int), (XC Try.prog 80 [(L a7), (Z left)] [] (Z n) [] ∧ ifB (decide (n < (0 : Int)))
  (((Z ((-1 : Int))) = r ∧ [] = O))
  ((∃ (n1 : Int), (XC Try.prog 81 [(L a9), (Z n)] [] (Z n1) [] ∧ ifB (decide (n1 < (0 : Int)))
  (((Z ((-1 : Int))) = r ∧ [] = O))
  ((∃ (n2 : Int), (XC Try.prog 35 [(.dat [(.sl a10)]), (Z n1)] [] (Z n2) [] ∧ ifB (decide (n2 < (0 : Int)))
  (((Z ((-1 : Int))) = r ∧ [] = O))
  (((Z n2) = r ∧ [] = O))))))))))) : XC Try.prog 25 [(.dat [(.int .i64 a), (.int .i64 a1), (.int .i64 a2), (.int .i64 a3), (.int .i64 a4), (.bool a5), (.bool a6), (.sl a7), (.bool a8), (.sl a9), (.sl a10)]), (Z left)] [] r O :=
  xc_of (E := env) (hs := laws_szStep_h) (c := (bodyOf Try.f25)) (n := 24) (res := [.tmp 4]) (rs := .c (.i .i64)) (ks := []) (dir := []) envOk mixed rfl Try.func25 (by kernel_rfl) (by kernel_rfl) (by kernel_rfl) (by kernel_rfl) (to_vc (by kernel_rfl) h)

/-- loop.example/g00461/laws.toStep -/
def laws_toStep_h : Hints := ⟨[], []⟩
theorem laws_toStep_of {a : Int} {a1 : Int} {a2 : Int} {a3 : Int} {a4 : Int} {a5 : Bool} {a6 : Bool} {a7 : List (List Da)} {a8 : Bool} {a9 : List (List Da)} {a10 : List (List Da)} {r : AV} {O : List (Nat × Ob)} (h : (∃ (xs : List (List Da)), (XC Try.prog 84 [(L a7)] [] (L xs) [] ∧ (∃ (xs1 : List (List Da)), (XC Try.prog 85 [(L a9)] [] (L xs1) [] ∧ (∃ (xs2 : List (List Da)), (XC Try.prog 37 [(.dat [(.sl a10)])] [] (.dat [(.sl xs2)]) [] ∧ ((.dat [(.int .i64 a), (.int .i64 a1), (.int .i64 a2), (.int .i64 a3), (.int .i64 a4), (.bool a5), (.bool a6), (.sl xs), (.bool a8), (.sl xs1), (.sl xs2)]) = r ∧ [] = O)))))))) : XC Try.prog 27 [(.dat [(.int .i64 a), (.int .i64 a1), (.int .i64 a2), (.int .i64 a3), (.int .i64 a4), (.bool a5), (.bool a6), (.sl a7), (.bool a8), (.sl a9), (.sl a10)])] [] r O :=
  xc_of (E := env) (hs := laws_toStep_h) (c := (bodyOf Try.f27)) (n := 41) (res := [.cell 2 57]) (rs := .d [(.i .i64), (.i .i64), (.i .i64), (.i .i64), (.i .i64), .b, .b, .l, .b, .l, .l]) (ks := []) (dir := []) envOk mixed rfl Try.func27 (by kernel_rfl) (by kernel_rfl) (by kernel_rfl) (by kernel_rfl) (to_vc (by kernel_rfl) h)

/-- loop.example/g00461/spec.StepText -/
def spec_StepText_h : Hints := ⟨[], []⟩
theorem spec_StepText_of {p : Int} {p1 : Int} {p2 : Int} {p3 : Int} {p4 : Int} {p5 : Bool} {p6 : Bool} {p7 : List (List Da)} {p8 : Bool} {p9 : List (List Da)} {p10 : List (List Da)} {r : AV} {O : List (Nat × Ob)} (h : (∃ (b : Bool), (XC Try.prog 82 [(Z p), (Z ((0 : Int))), (Z (IntKind.wrap IntKind.i64 ((↑(List.length [[Da.str { data := #[(110 : UInt8), (111 : UInt8), (110 : UInt8), (101 : UInt8)] }], [Da.str { data := #[(105 : UInt8), (110 : UInt8), (112 : UInt8), (117 : UInt8), (116 : UInt8)] }], [Da.str { data := #[(114 : UInt8), (101 : UInt8), (115 : UInt8), (111 : UInt8), (108 : UInt8), (118 : UInt8), (101 : UInt8)] }], [Da.str { data := #[(102 : UInt8), (97 : UInt8), (99 : UInt8), (116 : UInt8), (111 : UInt8), (114 : UInt8)] }], [Da.str { data := #[(112 : UInt8), (117 : UInt8), (116 : UInt8)] }], [Da.str { data := #[(114 : UInt8), (101 : UInt8), (119 : UInt8), (114 : UInt8), (105 : UInt8), (116 : UInt8), (101 : UInt8)] }], [Da.str { data := #[(108 : UInt8), (101 : UInt8), (115 : UInt8), (115 : UInt8)] }]]) : Int) - (1 : Int))))] [] (B b) [] ∧ ifB (!b)
  ((∃ (m : Nat), (((0 : Int)) = ((↑m : Int)) ∧ (Do (m < List.length [[Da.str { data := #[(110 : UInt8), (111 : UInt8), (110 : UInt8), (101 : UInt8)] }], [Da.str { data := #[(105 : UInt8), (110 : UInt8), (112 : UInt8), (117 : UInt8), (116 : UInt8)] }], [Da.str { data := #[(114 : UInt8), (101 : UInt8), (115 : UInt8), (111 : UInt8), (108 : UInt8), (118 : UInt8), (101 : UInt8)] }], [Da.str { data := #[(102 : UInt8), (97 : UInt8), (99 : UInt8), (116 : UInt8), (111 : UInt8), (114 : UInt8)] }], [Da.str { data := #[(112 : UInt8), (117 : UInt8), (116 : UInt8)] }], [Da.str { data := #[(114 : UInt8), (101 : UInt8), (119 : UInt8), (114 : UInt8), (105 : UInt8), (116 : UInt8), (101 : UInt8)] }], [Da.str { data := #[(108 : UInt8), (101 : UInt8), (115 : UInt8), (115 : UInt8)] }]]) ∧ (∃ (n : Nat), ((m * (1 : Nat)) = (n * (1 : Nat)) ∧ (∃ (q : ByteArray), (([[Da.str { data := #[(110 : UInt8), (111 : UInt8), (110 : UInt8), (101 : UInt8)] }], [Da.str { data := #[(105 : UInt8), (110 : UInt8), (112 : UInt8), (117 : UInt8), (116 : UInt8)] }], [Da.str { data := #[(114 : UInt8), (101 : UInt8), (115 : UInt8), (111 : UInt8), (108 : UInt8), (118 : UInt8), (101 : UInt8)] }], [Da.str { data := #[(102 : UInt8), (97 : UInt8), (99 : UInt8), (116 : UInt8), (111 : UInt8), (114 : UInt8)] }], [Da.str { data := #[(112 : UInt8), (117 : UInt8), (116 : UInt8)] }], [Da.str { data := #[(114 : UInt8), (101 : UInt8), (119 : UInt8), (114 : UInt8), (105 : UInt8), (116 : UInt8), (101 : UInt8)] }], [Da.str { data := #[(108 : UInt8), (101 : UInt8), (115 : UInt8), (115 : UInt8)] }]][n]?) = some [(.str q)] ∧ (Do (ByteArray.size (q ++ { data := #[(32 : UInt8)] }) ≤ (281474976710656 : Nat)) ∧ (∃ (q1 : ByteArray), (XC Try.prog 83 [(Z p1)] [] (T q1) [] ∧ (Do (ByteArray.size (q ++ { data := #[(32 : UInt8)] } ++ q1) ≤ (281474976710656 : Nat)) ∧ (Do (ByteArray.size (q ++ { data := #[(32 : UInt8)] } ++ q1 ++ { data := #[(32 : UInt8)] }) ≤ (281474976710656 : Nat)) ∧ (∃ (q2 : ByteArray), (XC Try.prog 83 [(Z p2)] [] (T q2) [] ∧ (Do (ByteArray.size (q ++ { data := #[(32 : UInt8)] } ++ q1 ++ { data := #[(32 : UInt8)] } ++ q2) ≤ (281474976710656 : Nat)) ∧ (Do (ByteArray.size (q ++ { data := #[(32 : UInt8)] } ++ q1 ++ { data := #[(32 : UInt8)] } ++ q2 ++ { data := #[(32 : UInt8)] }) ≤ (281474976710656 : Nat)) ∧ (∃ (q3 : ByteArray), (XC Try.prog 83 [(Z p3)] [] (T q3) [] ∧ (Do (ByteArray.size (q ++ { data := #[(32 : UInt8)] } ++ q1 ++ { data := #[(32 : UInt8)] } ++ q2 ++ { data := #[(32 : UInt8)] } ++ q3) ≤ (281474976710656 : Nat)) ∧ (Do (ByteArray.size (q ++ { data := #[(32 : UInt8)] } ++ q1 ++ { data := #[(32 : UInt8)] } ++ q2 ++ { data := #[(32 : UInt8)] } ++ q3 ++ { data := #[(32 : UInt8)] }) ≤ (281474976710656 : Nat)) ∧ (∃ (q4 : ByteArray), (XC Try.prog 83 [(Z p4)] [] (T q4) [] ∧ (Do (ByteArray.size (q ++ { data := #[(32 : UInt8)] } ++ q1 ++ { data := #[(32 : UInt8)] } ++ q2 ++ { data := #[(32 : UInt8)] } ++ q3 ++ { data := #[(32 : UInt8)] } ++ q4) ≤ (281474976710656 : Nat)) ∧ ((T (q ++ { data := #[(32 : UInt8)] } ++ q1 ++ { data := #[(32 : UInt8)] } ++ q2 ++ { data := #[(32 : UInt8)] } ++ q3 ++ { data := #[(32 : UInt8)] } ++ q4)) = r ∧ [] = O)))))))))))))))))))))))))
  ((∃ (m1 : Nat), (p = ((↑m1 : Int)) ∧ (Do (m1 < List.length [[Da.str { data := #[(110 : UInt8), (111 : UInt8), (110 : UInt8), (101 : UInt8)] }], [Da.str { data := #[(105 : UInt8), (110 : UInt8), (112 : UInt8), (117 : UInt8), (116 : UInt8)] }], [Da.str { data := #[(114 : UInt8), (101 : UInt8), (115 : UInt8), (111 : UInt8), (108 : UInt8), (118 : UInt8), (101 : UInt8)] }], [Da.str { data := #[(102 : UInt8), (97 : UInt8), (99 : UInt8), (116 : UInt8), (111 : UInt8), (114 : UInt8)] }], [Da.str { data := #[(112 : UInt8), (117 : UInt8), (116 : UInt8)] }], [Da.str { data := #[(114 : UInt8), (101 : UInt8), (119 : UInt8), (114 : UInt8), (105 : UInt8), (116 : UInt8), (101 : UInt8)] }], [Da.str { data := #[(108 : UInt8), (101 : UInt8), (115 : UInt8), (115 : UInt8)] }]]) ∧ (∃ (n1 : Nat), ((m1 * (1 : Nat)) = (n1 * (1 : Nat)) ∧ (∃ (q5 : ByteArray), (([[Da.str { data := #[(110 : UInt8), (111 : UInt8), (110 : UInt8), (101 : UInt8)] }], [Da.str { data := #[(105 : UInt8), (110 : UInt8), (112 : UInt8), (117 : UInt8), (116 : UInt8)] }], [Da.str { data := #[(114 : UInt8), (101 : UInt8), (115 : UInt8), (111 : UInt8), (108 : UInt8), (118 : UInt8), (101 : UInt8)] }], [Da.str { data := #[(102 : UInt8), (97 : UInt8), (99 : UInt8), (116 : UInt8), (111 : UInt8), (114 : UInt8)] }], [Da.str { data := #[(112 : UInt8), (117 : UInt8), (116 : UInt8)] }], [Da.str { data := #[(114 : UInt8), (101 : UInt8), (119 : UInt8), (114 : UInt8), (105 : UInt8), (116 : UInt8), (101 : UInt8)] }], [Da.str { data := #[(108 : UInt8), (101 : UInt8), (115 : UInt8), (115 : UInt8)] }]][n1]?) = some [(.str q5)] ∧ (Do (ByteArray.size (q5 ++ { data := #[(32 : UInt8)] }) ≤ (281474976710656 : Nat)) ∧ (∃ (q6 : ByteArray), (XC Try.prog 83 [(Z p1)] [] (T q6) [] ∧ (Do (ByteArray.size (q5 ++ { data := #[(32 : UInt8)] } ++ q6) ≤ (281474976710656 : Nat)) ∧ (Do (ByteArray.size (q5 ++ { data := #[(32 : UInt8)] } ++ q6 ++ { data := #[(32 : UInt8)] }) ≤ (281474976710656 : Nat)) ∧ (∃ (q7 : ByteArray), (XC Try.prog 83 [(Z p2)] [] (T q7) [] ∧ (Do (ByteArray.size (q5 ++ { data := #[(32 : UInt8)] } ++ q6 ++ { data := #[(32 : UInt8)] } ++ q7) ≤ (281474976710656 : Nat)) ∧ (Do (ByteArray.size (q5 ++ { data := #[(32 : UInt8)] } ++ q6 ++ { data := #[(32 : UInt8)] } ++ q7 ++ { data := #[(32 : UInt8)] }) ≤ (281474976710656 : Nat)) ∧ (∃ (q8 : ByteArray), (XC Try.prog 83 [(Z p3)] [] (T q8) [] ∧ (Do (ByteArray.size (q5 ++ { data := #[(32 : UInt8)] } ++ q6 ++ { data := #[(32 : UInt8)] } ++ q7 ++ { data := #[(32 : UInt8)] } ++ q8) ≤ (281474976710656 : Nat)) ∧ (Do (ByteArray.size (q5 ++ { data := #[(32 : UInt8)] } ++ q6 ++ { data := #[(32 : UInt8)] } ++ q7 ++ { data := #[(32 : UInt8)] } ++ q8 ++ { data := #[(32 : UInt8)] }) ≤ (281474976710656 : Nat)) ∧ (∃ (q9 : ByteArray), (XC Try.prog 83 [(Z p4)] [] (T q9) [] ∧ (Do (ByteArray.size (q5 ++ { data := #[(32 : UInt8)] } ++ q6 ++ { data := #[(32 : UInt8)] } ++ q7 ++ { data := #[(32 : UInt8)] } ++ q8 ++ { data := #[(32 : UInt8)] } ++ q9) ≤ (281474976710656 : Nat)) ∧ ((T (q5 ++ { data := #[(32 : UInt8)] } ++ q6 ++ { data := #[(32 : UInt8)] } ++ q7 ++ { data := #[(32 : UInt8)] } ++ q8 ++ { data := #[(32 : UInt8)] } ++ q9)) = r ∧ [] = O)))))))))))))))))))))))))))) : XC Try.prog 26 [(.dat [(.int .i64 p), (.int .i64 p1), (.int .i64 p2), (.int .i64 p3), (.int .i64 p4), (.bool p5), (.bool p6), (.sl p7), (.bool p8), (.sl p9), (.sl p10)])] [] r O :=
  xc_of (E := env) (hs := spec_StepText_h) (c := (bodyOf Try.f26)) (n := 38) (res := [.tmp 2]) (rs := .c .s) (ks := []) (dir := []) envOk mixed rfl Try.func26 (by kernel_rfl) (by kernel_rfl) (by kernel_rfl) (by kernel_rfl) (to_vc (by kernel_rfl) h)

/-- loop.example/g00461/impl.StepText -/
def impl_StepText_h : Hints := ⟨[], []⟩
theorem impl_StepText_of {p : Int} {p1 : Int} {p2 : Int} {p3 : Int} {p4 : Int} {p5 : Bool} {p6 : Bool} {p7 : List (List Da)} {p8 : Bool} {p9 : List (List Da)} {p10 : List (List Da)} {r : AV} {O : List (Nat × Ob)} (h : (∃ (b : Bool), (XC Try.prog 86 [(Z p), (Z ((1 : Int))), (Z ((6 : Int)))] [] (B b) [] ∧ ifB b
  ((∃ (m : Nat), ((IntKind.wrap IntKind.i64 (p - (1 : Int))) = ((↑m : Int)) ∧ (Do (m < List.length [[Da.str { data := #[(105 : UInt8), (110 : UInt8), (112 : UInt8), (117 : UInt8), (116 : UInt8)] }], [Da.str { data := #[(114 : UInt8), (101 : UInt8), (115 : UInt8), (111 : UInt8), (108 : UInt8), (118 : UInt8), (101 : UInt8)] }], [Da.str { data := #[(102 : UInt8), (97 : UInt8), (99 : UInt8), (116 : UInt8), (111 : UInt8), (114 : UInt8)] }], [Da.str { data := #[(112 : UInt8), (117 : UInt8), (116 : UInt8)] }], [Da.str { data := #[(114 : UInt8), (101 : UInt8), (119 : UInt8), (114 : UInt8), (105 : UInt8), (116 : UInt8), (101 : UInt8)] }], [Da.str { data := #[(108 : UInt8), (101 : UInt8), (115 : UInt8), (115 : UInt8)] }]]) ∧ (∃ (n : Nat), ((m * (1 : Nat)) = (n * (1 : Nat)) ∧ (∃ (q : ByteArray), (([[Da.str { data := #[(105 : UInt8), (110 : UInt8), (112 : UInt8), (117 : UInt8), (116 : UInt8)] }], [Da.str { data := #[(114 : UInt8), (101 : UInt8), (115 : UInt8), (111 : UInt8), (108 : UInt8), (118 : UInt8), (101 : UInt8)] }], [Da.str { data := #[(102 : UInt8), (97 : UInt8), (99 : UInt8), (116 : UInt8), (111 : UInt8), (114 : UInt8)] }], [Da.str { data := #[(112 : UInt8), (117 : UInt8), (116 : UInt8)] }], [Da.str { data := #[(114 : UInt8), (101 : UInt8), (119 : UInt8), (114 : UInt8), (105 : UInt8), (116 : UInt8), (101 : UInt8)] }], [Da.str { data := #[(108 : UInt8), (101 : UInt8), (115 : UInt8), (115 : UInt8)] }]][n]?) = some [(.str q)] ∧ (Do (ByteArray.size (q ++ { data := #[(32 : UInt8)] }) ≤ (281474976710656 : Nat)) ∧ (∃ (q1 : ByteArray), (XC Try.prog 87 [(Z p1)] [] (T q1) [] ∧ (Do (ByteArray.size (q ++ { data := #[(32 : UInt8)] } ++ q1) ≤ (281474976710656 : Nat)) ∧ (Do (ByteArray.size (q ++ { data := #[(32 : UInt8)] } ++ q1 ++ { data := #[(32 : UInt8)] }) ≤ (281474976710656 : Nat)) ∧ (∃ (q2 : ByteArray), (XC Try.prog 87 [(Z p2)] [] (T q2) [] ∧ (Do (ByteArray.size (q ++ { data := #[(32 : UInt8)] } ++ q1 ++ { data := #[(32 : UInt8)] } ++ q2) ≤ (281474976710656 : Nat)) ∧ (Do (ByteArray.size (q ++ { data := #[(32 : UInt8)] } ++ q1 ++ { data := #[(32 : UInt8)] } ++ q2 ++ { data := #[(32 : UInt8)] }) ≤ (281474976710656 : Nat)) ∧ (∃ (q3 : ByteArray), (XC Try.prog 87 [(Z p3)] [] (T q3) [] ∧ (Do (ByteArray.size (q ++ { data := #[(32 : UInt8)] } ++ q1 ++ { data := #[(32 : UInt8)] } ++ q2 ++ { data := #[(32 : UInt8)] } ++ q3) ≤ (281474976710656 : Nat)) ∧ (Do (ByteArray.size (q ++ { data := #[(32 : UInt8)] } ++ q1 ++ { data := #[(32 : UInt8)] } ++ q2 ++ { data := #[(32 : UInt8)] } ++ q3 ++ { data := #[(32 : UInt8)] }) ≤ (281474976710656 : Nat)) ∧ (∃ (q4 : ByteArray), (XC Try.prog 87 [(Z p4)] [] (T q4) [] ∧ (Do (ByteArray.size (q ++ { data := #[(32 : UInt8)] } ++ q1 ++ { data := #[(32 : UInt8)] } ++ q2 ++ { data := #[(32 : UInt8)] } ++ q3 ++ { data := #[(32 : UInt8)] } ++ q4) ≤ (281474976710656 : Nat)) ∧ ((T (q ++ { data := #[(32 : UInt8)] } ++ q1 ++ { data := #[(32 : UInt8)] } ++ q2 ++ { data := #[(32 : UInt8)] } ++ q3 ++ { data := #[(32 : UInt8)] } ++ q4)) = r ∧ [] = O)))))))))))))))))))))))))
  ((Do (ByteArray.size ({ data := #[(110 : UInt8), (111 : UInt8), (110 : UInt8), (101 : UInt8)] } ++ { data := #[(32 : UInt8)] }) ≤ (281474976710656 : Nat)) ∧ (∃ (q5 : ByteArray), (XC Try.prog 87 [(Z p1)] [] (T q5) [] ∧ (Do (ByteArray.size ({ data := #[(110 : UInt8), (111 : UInt8), (110 : UInt8), (101 : UInt8)] } ++ { data := #[(32 : UInt8)] } ++ q5) ≤ (281474976710656 : Nat)) ∧ (Do (ByteArray.size ({ data := #[(110 : UInt8), (111 : UInt8), (110 : UInt8), (101 : UInt8)] } ++ { data := #[(32 : UInt8)] } ++ q5 ++ { data := #[(32 : UInt8)] }) ≤ (281474976710656 : Nat)) ∧ (∃ (q6 : ByteArray), (XC Try.prog 87 [(Z p2)] [] (T q6) [] ∧ (Do (ByteArray.size ({ data := #[(110 : UInt8), (111 : UInt8), (110 : UInt8), (101 : UInt8)] } ++ { data := #[(32 : UInt8)] } ++ q5 ++ { data := #[(32 : UInt8)] } ++ q6) ≤ (281474976710656 : Nat)) ∧ (Do (ByteArray.size ({ data := #[(110 : UInt8), (111 : UInt8), (110 : UInt8), (101 : UInt8)] } ++ { data := #[(32 : UInt8)] } ++ q5 ++ { data := #[(32 : UInt8)] } ++ q6 ++ { data := #[(32 : UInt8)] }) ≤ (281474976710656 : Nat)) ∧ (∃ (q7 : ByteArray), (XC Try.prog 87 [(Z p3)] [] (T q7) [] ∧ (Do (ByteArray.size ({ data := #[(110 : UInt8), (111 : UInt8), (110 : UInt8), (101 : UInt8)] } ++ { data := #[(32 : UInt8)] } ++ q5 ++ { data := #[(32 : UInt8)] } ++ q6 ++ { data := #[(32 : UInt8)] } ++ q7) ≤ (281474976710656 : Nat)) ∧ (Do (ByteArray.size ({ data := #[(110 : UInt8), (111 : UInt8), (110 : UInt8), (101 : UInt8)] } ++ { data := #[(32 : UInt8)] } ++ q5 ++ { data := #[(32 : UInt8)] } ++ q6 ++ { data := #[(32 : UInt8)] } ++ q7 ++ { data := #[(32 : UInt8)] }) ≤ (281474976710656 : Nat)) ∧ (∃ (q8 : ByteArray), (XC Try.prog 87 [(Z p4)] [] (T q8) [] ∧ (Do (ByteArray.size ({ data := #[(110 : UInt8), (111 : UInt8), (110 : UInt8), (101 : UInt8)] } ++ { data := #[(32 : UInt8)] } ++ q5 ++ { data := #[(32 : UInt8)] } ++ q6 ++ { data := #[(32 : UInt8)] } ++ q7 ++ { data := #[(32 : UInt8)] } ++ q8) ≤ (281474976710656 : Nat)) ∧ ((T ({ data := #[(110 : UInt8), (111 : UInt8), (110 : UInt8), (101 : UInt8)] } ++ { data := #[(32 : UInt8)] } ++ q5 ++ { data := #[(32 : UInt8)] } ++ q6 ++ { data := #[(32 : UInt8)] } ++ q7 ++ { data := #[(32 : UInt8)] } ++ q8)) = r ∧ [] = O))))))))))))))))))))) : XC Try.prog 28 [(.dat [(.int .i64 p), (.int .i64 p1), (.int .i64 p2), (.int .i64 p3), (.int .i64 p4), (.bool p5), (.bool p6), (.sl p7), (.bool p8), (.sl p9), (.sl p10)])] [] r O :=
  xc_of (E := env) (hs := impl_StepText_h) (c := (bodyOf Try.f28)) (n := 34) (res := [.tmp 2]) (rs := .c .s) (ks := []) (dir := []) envOk mixed rfl Try.func28 (by kernel_rfl) (by kernel_rfl) (by kernel_rfl) (by kernel_rfl) (to_vc (by kernel_rfl) h)

/-- loop.example/g00461/laws.eqStep -/
def laws_eqStep_h : Hints := ⟨[], []⟩
theorem laws_eqStep_of {a : Int} {a1 : Int} {a2 : Int} {a3 : Int} {a4 : Int} {a5 : Bool} {a6 : Bool} {a7 : List (List Da)} {a8 : Bool} {a9 : List (List Da)} {a10 : List (List Da)} {b : Int} {b1 : Int} {b2 : Int} {b3 : Int} {b4 : Int} {b5 : Bool} {b6 : Bool} {b7 : List (List Da)} {b8 : Bool} {b9 : List (List Da)} {b10 : List (List Da)} {r : AV} {O : List (Nat × Ob)} (h : ifB (decide (a ≠ b))
  (((B (false)) = r ∧ [] = O))
  (ifB (decide (a1 ≠ b1))
  (((B (false)) = r ∧ [] = O))
  (ifB (decide (a2 ≠ b2))
  (((B (false)) = r ∧ [] = O))
  (ifB (decide (a3 ≠ b3))
  (((B (false)) = r ∧ [] = O))
  (ifB (decide (a4 ≠ b4))
  (((B (false)) = r ∧ [] = O))
  (ifB (decide (a5 ≠ b5))
  (((B (false)) = r ∧ [] = O))
  (ifB (decide (a6 ≠ b6))
  (((B (false)) = r ∧ [] = O))
  ((∃ (b11 : Bool), (XC Try.prog 61 [(L a7), (L b7)] [] (B b11) [] ∧ ifB (!b11)
  (((B (false)) = r ∧ [] = O))
  (ifB (decide (a8 ≠ b8))
  (((B (false)) = r ∧ [] = O))
  ((∃ (b12 : Bool), (XC Try.prog 88 [(L a9), (L b9)] [] (B b12) [] ∧ ifB (!b12)
  (((B (false)) = r ∧ [] = O))
  ((∃ (b13 : Bool), (XC Try.prog 39 [(.dat [(.sl a10)]), (.dat [(.sl b10)])] [] (B b13) [] ∧ ifB (!b13)
  (((B (false)) = r ∧ [] = O))
  (((B (true)) = r ∧ [] = O))))))))))))))))))) : XC Try.prog 29 [(.dat [(.int .i64 a), (.int .i64 a1), (.int .i64 a2), (.int .i64 a3), (.int .i64 a4), (.bool a5), (.bool a6), (.sl a7), (.bool a8), (.sl a9), (.sl a10)]), (.dat [(.int .i64 b), (.int .i64 b1), (.int .i64 b2), (.int .i64 b3), (.int .i64 b4), (.bool b5), (.bool b6), (.sl b7), (.bool b8), (.sl b9), (.sl b10)])] [] r O :=
  xc_of (E := env) (hs := laws_eqStep_h) (c := (bodyOf Try.f29)) (n := 63) (res := [.tmp 4]) (rs := .c .b) (ks := []) (dir := []) envOk mixed rfl Try.func29 (by kernel_rfl) (by kernel_rfl) (by kernel_rfl) (by kernel_rfl) (to_vc (by kernel_rfl) h)

/-- loop.example/g00461/laws.szStepS -/
def laws_szStepS_h : Hints := ⟨[(5, ⟨[0, 1, 5], [], [], []⟩)], []⟩
def laws_szStepS_L5 (r : AV) (O : List (Nat × Ob)) (a : List (List Da)) (left : Int) (i : Int) : Prop := CL 27 Try.prog (subC (bodyOf Try.f30) [1, 1, 1, 0, 1, 0, 0]) (kont Try.prog env laws_szStepS_h 27 (bodyOf Try.f30) [1, 1, 1, 0, 1, 0, 0] (vRet env [.tmp 4] (.c (.i .i64)) [] [] r O) (retKE (vRet env [.tmp 4] (.c (.i .i64)) [] [] r O))).1 (kont Try.prog env laws_szStepS_h 27 (bodyOf Try.f30) [1, 1, 1, 0, 1, 0, 0] (vRet env [.tmp 4] (.c (.i .i64)) [] [] r O) (retKE (vRet env [.tmp 4] (.c (.i .i64)) [] [] r O))).2 ⟨[(0, (L a)), (1, (Z left)), (5, (Z i))], []⟩
theorem laws_szStepS_L5_of {r : AV} {O : List (Nat × Ob)} {a : List (List Da)} {left : Int} {i : Int} (h : ifB (decide (i < (↑(List.length a) : Int)))
  ((∃ (m : Nat), (i = ((↑m : Int)) ∧ (∃ (n : Int), (∃ (n1 : Int), (∃ (n2 : Int), (∃ (n3 : Int), (∃ (n4 : Int), (∃ (b : Bool), (∃ (b1 : Bool), (∃ (xs : List (List Da)), (∃ (b2 : Bool), (∃ (xs1 : List (List Da)), (∃ (xs2 : List (List Da)), ((a[m]?) = some [(.int .i64 n), (.int .i64 n1), (.int .i64 n2), (.int .i64 n3), (.int .i64 n4), (.bool b), (.bool b1), (.sl xs), (.bool b2), (.sl xs1), (.sl xs2)] ∧ (∃ (n5 : Int), (XC Try.prog 25 [(.dat [(.int .i64 n), (.int .i64 n1), (.int .i64 n2), (.int .i64 n3), (.int .i64 n4), (.bool b), (.bool b1), (.sl xs), (.bool b2), (.sl xs1), (.sl xs2)]), (Z left)] [] (Z n5) [] ∧ ifB (decide (n5 < (0 : Int)))
  (((Z ((-1 : Int))) = r ∧ [] = O))
  (laws_szStepS_L5 r O a n5 (IntKind.wrap IntKind.i64 (i + (1 : Int)))))))))))))))))))))
  (((Z left) = r ∧ [] = O))) : laws_szStepS_L5 r O a left i := by
  unfold laws_szStepS_L5
  refine cl_of (E := env) (hs := laws_szStepS_h) envOk mixed ?_
  exact to_vc (by kernel_rfl) h
theorem laws_szStepS_of {a : List (List Da)} {left : Int} {r : AV} {O : List (Nat × Ob)} (h : ifB (decide (IntKind.wrap IntKind.i64 (left - (↑(List.length a) : Int)) < (0 : Int)))
  (((Z ((-1 : Int))) = r ∧ [] = O))
  (laws_szStepS_L5 r O a (IntKind.wrap IntKind.i64 (left - (↑(List.length a) : Int))) ((0 : Int)))) : XC Try.prog 30 [(L a), (Z left)] [] r O :=
  xc_of (E := env) (hs := laws_szStepS_h) (c := (bodyOf Try.f30)) (n := 27) (res := [.tmp 4]) (rs := .c (.i .i64)) (ks := []) (dir := []) envOk mixed rfl Try.func30 (by kernel_rfl) (by kernel_rfl) (by kernel_rfl) (by kernel_rfl) (to_vc (by kernel_rfl) h)

/-- loop.example/g00461/laws.toStepS -/
def laws_toStepS_h : Hints := ⟨[(3, ⟨[0, 3, 4], [], [], []⟩)], []⟩
def laws_toStepS_L3 (r : AV) (O : List (Nat × Ob)) (a : List (List Da)) (i : Int) (out : List (List Da)) : Prop := CL 23 Try.prog (subC (bodyOf Try.f32) [1, 1, 0, 1, 0, 0]) (kont Try.prog env laws_toStepS_h 23 (bodyOf Try.f32) [1, 1, 0, 1, 0, 0] (vRet env [.tmp 2] (.c .l) [] [] r O) (retKE (vRet env [.tmp 2] (.c .l) [] [] r O))).1 (kont Try.prog env laws_toStepS_h 23 (bodyOf Try.f32) [1, 1, 0, 1, 0, 0] (vRet env [.tmp 2] (.c .l) [] [] r O) (retKE (vRet env [.tmp 2] (.c .l) [] [] r O))).2 ⟨[(0, (L a)), (3, (.one (.ol 1900))), (4, (Z i))], [(1900, (.lst 57 11 out))]⟩
theorem laws_toStepS_L3_of {r : AV} {O : List (Nat × Ob)} {a : List (List Da)} {i : Int} {out : List (List Da)} (h : ifB (decide (i < (↑(List.length a) : Int)))
  ((∃ (m : Nat), (i = ((↑m : Int)) ∧ (∃ (n : Int), (∃ (n1 : Int), (∃ (n2 : Int), (∃ (n3 : Int), (∃ (n4 : Int), (∃ (b : Bool), (∃ (b1 : Bool), (∃ (xs : List (List Da)), (∃ (b2 : Bool), (∃ (xs1 : List (List Da)), (∃ (xs2 : List (List Da)), ((a[m]?) = some [(.int .i64 n), (.int .i64 n1), (.int .i64 n2), (.int .i64 n3), (.int .i64 n4), (.bool b), (.bool b1), (.sl xs), (.bool b2), (.sl xs1), (.sl xs2)] ∧ (∃ (n5 : Int), (∃ (n6 : Int), (∃ (n7 : Int), (∃ (n8 : Int), (∃ (n9 : Int), (∃ (b3 : Bool), (∃ (b4 : Bool), (∃ (xs3 : List (List Da)), (∃ (b5 : Bool), (∃ (xs4 : List (List Da)), (∃ (xs5 : List (List Da)), (XC Try.prog 27 [(.dat [(.int .i64 n), (.int .i64 n1), (.int .i64 n2), (.int .i64 n3), (.int .i64 n4), (.bool b), (.bool b1), (.sl xs), (.bool b2), (.sl xs1), (.sl xs2)])] [] (.dat [(.int .i64 n5), (.int .i64 n6), (.int .i64 n7), (.int .i64 n8), (.int .i64 n9), (.bool b3), (.bool b4), (.sl xs3), (.bool b5), (.sl xs4), (.sl xs5)]) [] ∧ (∃ (m1 : Nat), (i = ((↑m1 : Int)) ∧ (Do (m1 < List.length out) ∧ (∃ (m2 : Nat), ((m1 * (11 : Nat)) = (m2 * (11 : Nat) + (0 : Nat)) ∧ (∃ (n10 : Int), (∃ (n11 : Int), (∃ (n12 : Int), (∃ (n13 : Int), (∃ (n14 : Int), (∃ (b6 : Bool), (∃ (b7 : Bool), (∃ (xs6 : List (List Da)), (∃ (b8 : Bool), (∃ (xs7 : List (List Da)), (∃ (xs8 : List (List Da)), ((out[m2]?) = some [(.int .i64 n10), (.int .i64 n11), (.int .i64 n12), (.int .i64 n13), (.int .i64 n14), (.bool b6), (.bool b7), (.sl xs6), (.bool b8), (.sl xs7), (.sl xs8)] ∧ laws_toStepS_L3 r O a (IntKind.wrap IntKind.i64 (i + (1 : Int))) (List.set out m2 ([] ++ [Da.int IntKind.i64 n5, Da.int IntKind.i64 n6, Da.int IntKind.i64 n7, Da.int IntKind.i64 n8, Da.int IntKind.i64 n9, Da.bool b3, Da.bool b4, Da.sl xs3, Da.bool b5, Da.sl xs4, Da.sl xs5] ++ []))))))))))))))))))))))))))))))))))))))))))))))
  (((L out) = r ∧ [] = O))) : laws_toStepS_L3 r O a i out := by
  unfold laws_toStepS_L3
  refine cl_of (E := env) (hs := laws_toStepS_h) envOk mixed ?_
  exact to_vc (by kernel_rfl) h
theorem laws_toStepS_of {a : List (List Da)} {r : AV} {O : List (Nat × Ob)} (h : (∃ (l : Nat), (∃ (c : Nat), (((↑(List.length a) : Int)) = ((↑l : Int)) ∧ (((↑(List.length a) : Int)) = ((↑c : Int)) ∧ (Do (l ≤ c ∧ Prod.fst ((128 : Nat), [At.d (Da.int IntKind.i64 (0 : Int)), At.d (Da.int IntKind.i64 (0 : Int)), At.d (Da.int IntKind.i64 (0 : Int)), At.d (Da.int IntKind.i64 (0 : Int)), At.d (Da.int IntKind.i64 (0 : Int)), At.d (Da.bool false), At.d (Da.bool false), At.e0, At.d (Da.bool false), At.e0, At.e0]) * c ≤ (281474976710656 : Nat) ∧ c ≤ (281474976710656 : Nat)) ∧ laws_toStepS_L3 r O a ((0 : Int)) (List.replicate l [Da.int IntKind.i64 (0 : Int), Da.int IntKind.i64 (0 : Int), Da.int IntKind.i64 (0 : Int), Da.int IntKind.i64 (0 : Int), Da.int IntKind.i64 (0 : Int), Da.bool false, Da.bool false, Da.sl [], Da.bool false, Da.sl [], Da.sl []]))))))) : XC Try.prog 32 [(L a)] [] r O :=
  xc_of (E := env) (hs := laws_toStepS_h) (c := (bodyOf Try.f32)) (n := 23) (res := [.tmp 2]) (rs := .c .l) (ks := []) (dir := []) envOk mixed rfl Try.func32 (by kernel_rfl) (by kernel_rfl) (by kernel_rfl) (by kernel_rfl) (to_vc (by kernel_rfl) h)

/-- loop.example/g00461/spec.Refuted -/
def spec_Refuted_h : Hints := ⟨[(2, ⟨[0, 3], [], [], []⟩)], []⟩
def spec_Refuted_L2 (r : AV) (O : List (Nat × Ob)) (log : List (List Da)) (i : Int) : Prop := CL 19 Try.prog (subC (bodyOf Try.f31) [1, 0, 1, 0, 0]) (kont Try.prog env spec_Refuted_h 19 (bodyOf Try.f31) [1, 0, 1, 0, 0] (vRet env [.tmp 2] (.c (.i .i64)) [] [] r O) (retKE (vRet env [.tmp 2] (.c (.i .i64)) [] [] r O))).1 (kont Try.prog env spec_Refuted_h 19 (bodyOf Try.f31) [1, 0, 1, 0, 0] (vRet env [.tmp 2] (.c (.i .i64)) [] [] r O) (retKE (vRet env [.tmp 2] (.c (.i .i64)) [] [] r O))).2 ⟨[(0, (L log)), (3, (Z i))], []⟩
theorem spec_Refuted_L2_of {r : AV} {O : List (Nat × Ob)} {log : List (List Da)} {i : Int} (h : ifB (decide (i < (↑(List.length log) : Int)))
  ((∃ (m : Nat), (i = ((↑m : Int)) ∧ (∃ (n : Int), (∃ (n1 : Int), (∃ (n2 : Int), (∃ (n3 : Int), (∃ (n4 : Int), (∃ (b : Bool), (∃ (b1 : Bool), (∃ (xs : List (List Da)), (∃ (b2 : Bool), (∃ (xs1 : List (List Da)), (∃ (xs2 : List (List Da)), ((log[m]?) = some [(.int .i64 n), (.int .i64 n1), (.int .i64 n2), (.int .i64 n3), (.int .i64 n4), (.bool b), (.bool b1), (.sl xs), (.bool b2), (.sl xs1), (.sl xs2)] ∧ ifB (decide ((↑(List.length xs2) : Int) = (0 : Int)))
  (((Z i) = r ∧ [] = O))
  (spec_Refuted_L2 r O log (IntKind.wrap IntKind.i64 (i + (1 : Int)))))))))))))))))))
  (((Z ((-1 : Int))) = r ∧ [] = O))) : spec_Refuted_L2 r O log i := by
  unfold spec_Refuted_L2
  refine cl_of (E := env) (hs := spec_Refuted_h) envOk mixed ?_
  exact to_vc (by kernel_rfl) h
theorem spec_Refuted_of {log : List (List Da)} {r : AV} {O : List (Nat × Ob)} (h : spec_Refuted_L2 r O log ((0 : Int))) : XC Try.prog 31 [(L log)] [] r O :=
  xc_of (E := env) (hs := spec_Refuted_h) (c := (bodyOf Try.f31)) (n := 19) (res := [.tmp 2]) (rs := .c (.i .i64)) (ks := []) (dir := []) envOk mixed rfl Try.func31 (by kernel_rfl) (by kernel_rfl) (by kernel_rfl) (by kernel_rfl) (to_vc (by kernel_rfl) h)

/-- loop.example/g00461/impl.Refuted -/
def impl_Refuted_h : Hints := ⟨[], []⟩
theorem impl_Refuted_of {log : List (List Da)} {r : AV} {O : List (Nat × Ob)} (h : (∃ (n : Int), (XC Try.prog 89 [(L log), (.one (.d (.fn 90)))] [] (Z n) [] ∧ ((Z n) = r ∧ [] = O)))) : XC Try.prog 33 [(L log)] [] r O :=
  xc_of (E := env) (hs := impl_Refuted_h) (c := (bodyOf Try.f33)) (n := 5) (res := [.tmp 2]) (rs := .c (.i .i64)) (ks := []) (dir := []) envOk mixed rfl Try.func33 (by kernel_rfl) (by kernel_rfl) (by kernel_rfl) (by kernel_rfl) (to_vc (by kernel_rfl) h)

/-- loop.example/g00461/laws.eqStepS -/
def laws_eqStepS_h : Hints := ⟨[(4, ⟨[0, 1, 5], [], [], []⟩)], []⟩
def laws_eqStepS_L4 (r : AV) (O : List (Nat × Ob)) (a : List (List Da)) (b : List (List Da)) (i : Int) : Prop := CL 27 Try.prog (subC (bodyOf Try.f34) [1, 1, 0, 1, 0, 0]) (kont Try.prog env laws_eqStepS_h 27 (bodyOf Try.f34) [1, 1, 0, 1, 0, 0] (vRet env [.tmp 4] (.c .b) [] [] r O) (retKE (vRet env [.tmp 4] (.c .b) [] [] r O))).1 (kont Try.prog env laws_eqStepS_h 27 (bodyOf Try.f34) [1, 1, 0, 1, 0, 0] (vRet env [.tmp 4] (.c .b) [] [] r O) (retKE (vRet env [.tmp 4] (.c .b) [] [] r O))).2 ⟨[(0, (L a)), (1, (L b)), (5, (Z i))], []⟩
theorem laws_eqStepS_L4_of {r : AV} {O : List (Nat × Ob)} {a : List (List Da)} {b : List (List Da)} {i : Int} (h : ifB (decide (i < (↑(List.length a) : Int)))
  ((∃ (m : Nat), (i = ((↑m : Int)) ∧ (∃ (n : Int), (∃ (n1 : Int), (∃ (n2 : Int), (∃ (n3 : Int), (∃ (n4 : Int), (∃ (b2 : Bool), (∃ (b3 : Bool), (∃ (xs : List (List Da)), (∃ (b4 : Bool), (∃ (xs1 : List (List Da)), (∃ (xs2 : List (List Da)), ((a[m]?) = some [(.int .i64 n), (.int .i64 n1), (.int .i64 n2), (.int .i64 n3), (.int .i64 n4), (.bool b2), (.bool b3), (.sl xs), (.bool b4), (.sl xs1), (.sl xs2)] ∧ (∃ (m1 : Nat), (i = ((↑m1 : Int)) ∧ (∃ (n5 : Int), (∃ (n6 : Int), (∃ (n7 : Int), (∃ (n8 : Int), (∃ (n9 : Int), (∃ (b5 : Bool), (∃ (b6 : Bool), (∃ (xs3 : List (List Da)), (∃ (b7 : Bool), (∃ (xs4 : List (List Da)), (∃ (xs5 : List (List Da)), ((b[m1]?) = some [(.int .i64 n5), (.int .i64 n6), (.int .i64 n7), (.int .i64 n8), (.int .i64 n9), (.bool b5), (.bool b6), (.sl xs3), (.bool b7), (.sl xs4), (.sl xs5)] ∧ (∃ (b8 : Bool), (XC Try.prog 29 [(.dat [(.int .i64 n), (.int .i64 n1), (.int .i64 n2), (.int .i64 n3), (.int .i64 n4), (.bool b2), (.bool b3), (.sl xs), (.bool b4), (.sl xs1), (.sl xs2)]), (.dat [(.int .i64 n5), (.int .i64 n6), (.int .i64 n7), (.int .i64 n8), (.int .i64 n9), (.bool b5), (.bool b6), (.sl xs3), (.bool b7), (.sl xs4), (.sl xs5)])] [] (B b8) [] ∧ ifB (!b8)
  (((B (false)) = r ∧ [] = O))
  (laws_eqStepS_L4 r O a b (IntKind.wrap IntKind.i64 (i + (1 : Int)))))))))))))))))))))))))))))))))))
  (((B (true)) = r ∧ [] = O))) : laws_eqStepS_L4 r O a b i := by
  unfold laws_eqStepS_L4
  refine cl_of (E := env) (hs := laws_eqStepS_h) envOk mixed ?_
  exact to_vc (by kernel_rfl) h
theorem laws_eqStepS_of {a : List (List Da)} {b : List (List Da)} {r : AV} {O : List (Nat × Ob)} (h : ifB (decide ((↑(List.length a) : Int) ≠ (↑(List.length b) : Int)))
  (((B (false)) = r ∧ [] = O))
  (laws_eqStepS_L4 r O a b ((0 : Int)))) : XC Try.prog 34 [(L a), (L b)] [] r O :=
  xc_of (E := env) (hs := laws_eqStepS_h) (c := (bodyOf Try.f34)) (n := 27) (res := [.tmp 4]) (rs := .c .b) (ks := []) (dir := []) envOk mixed rfl Try.func34 (by kernel_rfl) (by kernel_rfl) (by kernel_rfl) (by kernel_rfl) (to_vc (by kernel_rfl) h)

/-- loop.example/g00461/laws.szClause -/
def laws_szClause_h : Hints := ⟨[], []⟩
theorem laws_szClause_of {a : List (List Da)} {left : Int} {r : AV} {O : List (Nat × Ob)} (h : (∃ (n : Int), (XC Try.prog 91 [(L a), (Z left)] [] (Z n) [] ∧ ifB (decide (n < (0 : Int)))
  (((Z ((-1 : Int))) = r ∧ [] = O))
  (((Z n) = r ∧ [] = O))))) : XC Try.prog 35 [(.dat [(.sl a)]), (Z left)] [] r O :=
  xc_of (E := env) (hs := laws_szClause_h) (c := (bodyOf Try.f35)) (n := 12) (res := [.tmp 4]) (rs := .c (.i .i64)) (ks := []) (dir := []) envOk mixed rfl Try.func35 (by kernel_rfl) (by kernel_rfl) (by kernel_rfl) (by kernel_rfl) (to_vc (by kernel_rfl) h)

/-- loop.example/g00461/laws.toClause -/
def laws_toClause_h : Hints := ⟨[], []⟩
theorem laws_toClause_of {a : List (List Da)} {r : AV} {O : List (Nat × Ob)} (h : (∃ (xs : List (List Da)), (XC Try.prog 92 [(L a)] [] (L xs) [] ∧ ((.dat [(.sl xs)]) = r ∧ [] = O)))) : XC Try.prog 37 [(.dat [(.sl a)])] [] r O :=
  xc_of (E := env) (hs := laws_toClause_h) (c := (bodyOf Try.f37)) (n := 9) (res := [.cell 2 55]) (rs := .d [.l]) (ks := []) (dir := []) envOk mixed rfl Try.func37 (by kernel_rfl) (by kernel_rfl) (by kernel_rfl) (by kernel_rfl) (to_vc (by kernel_rfl) h)

/-- loop.example/g00461/spec.ClauseText -/
def spec_ClauseText_h : Hints := ⟨[(5, ⟨[0, 3, 5, 6], [], [], []⟩)], []⟩
def spec_ClauseText_L5 (r : AV) (O : List (Nat × Ob)) (s : List (List Da)) (out : ByteArray) (i : Int) (c : List (List Da)) : Prop := CL 32 Try.prog (subC (bodyOf Try.f36) [1, 1, 1, 0, 1, 0, 0]) (kont Try.prog env spec_ClauseText_h 32 (bodyOf Try.f36) [1, 1, 1, 0, 1, 0, 0] (vRet env [.tmp 4] (.c .s) [] [] r O) (retKE (vRet env [.tmp 4] (.c .s) [] [] r O))).1 (kont Try.prog env spec_ClauseText_h 32 (bodyOf Try.f36) [1, 1, 1, 0, 1, 0, 0] (vRet env [.tmp 4] (.c .s) [] [] r O) (retKE (vRet env [.tmp 4] (.c .s) [] [] r O))).2 ⟨[(0, (L s)), (3, (.one (.op 1900 0))), (5, (T out)), (6, (Z i))], [(1900, (.var [(.d (.sl c))]))]⟩
theorem spec_ClauseText_L5_of {r : AV} {O : List (Nat × Ob)} {s : List (List Da)} {out : ByteArray} {i : Int} {c : List (List Da)} (h : ifB (decide (i < (↑(List.length c) : Int)))
  (ifB (decide ((0 : Int) < i))
  ((Do (ByteArray.size (out ++ { data := #[(32 : UInt8), (124 : UInt8), (32 : UInt8)] }) ≤ (281474976710656 : Nat)) ∧ (∃ (m : Nat), (i = ((↑m : Int)) ∧ (∃ (b : Bool), (∃ (n : Int), (∃ (n1 : Int), (∃ (xs : List (List Da)), (∃ (n2 : Int), (∃ (n3 : Int), (∃ (xs1 : List (List Da)), ((c[m]?) = some [(.bool b), (.int .i64 n), (.int .i64 n1), (.sl xs), (.int .i64 n2), (.int .i64 n3), (.sl xs1)] ∧ (∃ (q : ByteArray), (XC Try.prog 17 [(L s), (.dat [(.bool b), (.int .i64 n), (.int .i64 n1), (.sl xs), (.int .i64 n2), (.int .i64 n3), (.sl xs1)])] [] (T q) [] ∧ (Do (ByteArray.size (out ++ { data := #[(32 : UInt8), (124 : UInt8), (32 : UInt8)] } ++ q) ≤ (281474976710656 : Nat)) ∧ spec_ClauseText_L5 r O s (out ++ { data := #[(32 : UInt8), (124 : UInt8), (32 : UInt8)] } ++ q) (IntKind.wrap IntKind.i64 (i + (1 : Int))) c)))))))))))))))
  ((∃ (m1 : Nat), (i = ((↑m1 : Int)) ∧ (∃ (b1 : Bool), (∃ (n4 : Int), (∃ (n5 : Int), (∃ (xs2 : List (List Da)), (∃ (n6 : Int), (∃ (n7 : Int), (∃ (xs3 : List (List Da)), ((c[m1]?) = some [(.bool b1), (.int .i64 n4), (.int .i64 n5), (.sl xs2), (.int .i64 n6), (.int .i64 n7), (.sl xs3)] ∧ (∃ (q1 : ByteArray), (XC Try.prog 17 [(L s), (.dat [(.bool b1), (.int .i64 n4), (.int .i64 n5), (.sl xs2), (.int .i64 n6), (.int .i64 n7), (.sl xs3)])] [] (T q1) [] ∧ (Do (ByteArray.size (out ++ q1) ≤ (281474976710656 : Nat)) ∧ spec_ClauseText_L5 r O s (out ++ q1) (IntKind.wrap IntKind.i64 (i + (1 : Int))) c)))))))))))))))
  (((T out) = r ∧ [] = O))) : spec_ClauseText_L5 r O s out i c := by
  unfold spec_ClauseText_L5
  refine cl_of (E := env) (hs := spec_ClauseText_h) envOk mixed ?_
  exact to_vc (by kernel_rfl) h
theorem spec_ClauseText_of {s : List (List Da)} {c : List (List Da)} {r : AV} {O : List (Nat × Ob)} (h : ifB (decide ((↑(List.length c) : Int) = (0 : Int)))
  (((T ({ data := #[(102 : UInt8), (97 : UInt8), (108 : UInt8), (115 : UInt8), (101 : UInt8)] })) = r ∧ [] = O))
  (spec_ClauseText_L5 r O s ({ data := #[] }) ((0 : Int)) c)) : XC Try.prog 36 [(L s), (.dat [(.sl c)])] [] r O :=
  xc_of (E := env) (hs := spec_ClauseText_h) (c := (bodyOf Try.f36)) (n := 32) (res := [.tmp 4]) (rs := .c .s) (ks := []) (dir := []) envOk mixed rfl Try.func36 (by kernel_rfl) (by kernel_rfl) (by kernel_rfl) (by kernel_rfl) (to_vc (by kernel_rfl) h)

/-- loop.example/g00461/impl.ClauseText -/
def impl_ClauseText_h : Hints := ⟨[(5, ⟨[0, 5, 14, 15, 16], [], [], []⟩)], []⟩
def impl_ClauseText_L5 (r : AV) (O : List (Nat × Ob)) (s : List (List Da)) (s14 : List (List Da)) (s15 : Int) (s16 : Int) (parts : List (List Da)) : Prop := CL 29 Try.prog (subC (bodyOf Try.f38) [1, 1, 1, 0, 1, 0, 0]) (kont Try.prog env impl_ClauseText_h 29 (bodyOf Try.f38) [1, 1, 1, 0, 1, 0, 0] (vRet env [.tmp 4] (.c .s) [] [] r O) (retKE (vRet env [.tmp 4] (.c .s) [] [] r O))).1 (kont Try.prog env impl_ClauseText_h 29 (bodyOf Try.f38) [1, 1, 1, 0, 1, 0, 0] (vRet env [.tmp 4] (.c .s) [] [] r O) (retKE (vRet env [.tmp 4] (.c .s) [] [] r O))).2 ⟨[(0, (L s)), (5, (.one (.ol 1900))), (14, (L s14)), (15, (Z s15)), (16, (Z s16))], [(1900, (.lst 9 1 parts))]⟩
theorem impl_ClauseText_L5_of {r : AV} {O : List (Nat × Ob)} {s : List (List Da)} {s14 : List (List Da)} {s15 : Int} {s16 : Int} {parts : List (List Da)} (h : ifB (decide (s16 < s15))
  ((∃ (m : Nat), (s16 = ((↑m : Int)) ∧ (∃ (b : Bool), (∃ (n : Int), (∃ (n1 : Int), (∃ (xs : List (List Da)), (∃ (n2 : Int), (∃ (n3 : Int), (∃ (xs1 : List (List Da)), ((s14[m]?) = some [(.bool b), (.int .i64 n), (.int .i64 n1), (.sl xs), (.int .i64 n2), (.int .i64 n3), (.sl xs1)] ∧ (∃ (q : ByteArray), (XC Try.prog 20 [(L s), (.dat [(.bool b), (.int .i64 n), (.int .i64 n1), (.sl xs), (.int .i64 n2), (.int .i64 n3), (.sl xs1)])] [] (T q) [] ∧ (Do ((List.length parts + List.length [[Da.str q]]) * Prod.fst ((16 : Nat), [At.d (Da.str { data := #[] })]) ≤ (140737488355328 : Nat)) ∧ impl_ClauseText_L5 r O s s14 s15 (IntKind.wrap IntKind.i64 (s16 + (1 : Int))) (parts ++ [[Da.str q]])))))))))))))))
  ((∃ (q1 : ByteArray), (XC Try.prog 93 [(L parts), (T ({ data := #[(32 : UInt8), (124 : UInt8), (32 : UInt8)] }))] [] (T q1) [] ∧ ((T q1) = r ∧ [] = O))))) : impl_ClauseText_L5 r O s s14 s15 s16 parts := by
  unfold impl_ClauseText_L5
  refine cl_of (E := env) (hs := impl_ClauseText_h) envOk mixed ?_
  exact to_vc (by kernel_rfl) h
theorem impl_ClauseText_of {s : List (List Da)} {c : List (List Da)} {r : AV} {O : List (Nat × Ob)} (h : ifB (decide ((↑(List.length c) : Int) = (0 : Int)))
  (((T ({ data := #[(102 : UInt8), (97 : UInt8), (108 : UInt8), (115 : UInt8), (101 : UInt8)] })) = r ∧ [] = O))
  (impl_ClauseText_L5 r O s c ((↑(List.length c) : Int)) ((0 : Int)) [])) : XC Try.prog 38 [(L s), (.dat [(.sl c)])] [] r O :=
  xc_of (E := env) (hs := impl_ClauseText_h) (c := (bodyOf Try.f38)) (n := 29) (res := [.tmp 4]) (rs := .c .s) (ks := []) (dir := []) envOk mixed rfl Try.func38 (by kernel_rfl) (by kernel_rfl) (by kernel_rfl) (by kernel_rfl) (to_vc (by kernel_rfl) h)

/-- loop.example/g00461/laws.eqClause -/
def laws_eqClause_h : Hints := ⟨[], []⟩
theorem laws_eqClause_of {a : List (List Da)} {b : List (List Da)} {r : AV} {O : List (Nat × Ob)} (h : (∃ (b1 : Bool), (XC Try.prog 94 [(L a), (L b)] [] (B b1) [] ∧ ifB (!b1)
  (((B (false)) = r ∧ [] = O))
  (((B (true)) = r ∧ [] = O))))) : XC Try.prog 39 [(.dat [(.sl a)]), (.dat [(.sl b)])] [] r O :=
  xc_of (E := env) (hs := laws_eqClause_h) (c := (bodyOf Try.f39)) (n := 11) (res := [.tmp 4]) (rs := .c .b) (ks := []) (dir := []) envOk mixed rfl Try.func39 (by kernel_rfl) (by kernel_rfl) (by kernel_rfl) (by kernel_rfl) (to_vc (by kernel_rfl) h)

/-- loop.example/g00461/spec.ClauseOk -/
def spec_ClauseOk_h : Hints := ⟨[(2, ⟨[0, 3, 5], [], [], []⟩)], []⟩
def spec_ClauseOk_L2 (r : AV) (O : List (Nat × Ob)) (s : List (List Da)) (i : Int) (c : List (List Da)) : Prop := CL 44 Try.prog (subC (bodyOf Try.f40) [1, 0, 1, 0, 0]) (kont Try.prog env spec_ClauseOk_h 44 (bodyOf Try.f40) [1, 0, 1, 0, 0] (vRet env [.tmp 4] (.c .b) [] [] r O) (retKE (vRet env [.tmp 4] (.c .b) [] [] r O))).1 (kont Try.prog env spec_ClauseOk_h 44 (bodyOf Try.f40) [1, 0, 1, 0, 0] (vRet env [.tmp 4] (.c .b) [] [] r O) (retKE (vRet env [.tmp 4] (.c .b) [] [] r O))).2 ⟨[(0, (L s)), (3, (.one (.op 1900 0))), (5, (Z i))], [(1900, (.var [(.d (.sl c))]))]⟩
theorem spec_ClauseOk_L2_of {r : AV} {O : List (Nat × Ob)} {s : List (List Da)} {i : Int} {c : List (List Da)} (h : ifB (decide (i < (↑(List.length c) : Int)))
  ((∃ (m : Nat), (i = ((↑m : Int)) ∧ (∃ (b : Bool), (∃ (n : Int), (∃ (n1 : Int), (∃ (xs : List (List Da)), (∃ (n2 : Int), (∃ (n3 : Int), (∃ (xs1 : List (List Da)), ((c[m]?) = some [(.bool b), (.int .i64 n), (.int .i64 n1), (.sl xs), (.int .i64 n2), (.int .i64 n3), (.sl xs1)] ∧ (∃ (b1 : Bool), (XC Try.prog 23 [(L s), (.dat [(.bool b), (.int .i64 n), (.int .i64 n1), (.sl xs), (.int .i64 n2), (.int .i64 n3), (.sl xs1)])] [] (B b1) [] ∧ ifB (!b1)
  (((B (false)) = r ∧ [] = O))
  (ifB (decide ((0 : Int) < i))
  ((∃ (m1 : Nat), ((IntKind.wrap IntKind.i64 (i - (1 : Int))) = ((↑m1 : Int)) ∧ (∃ (b2 : Bool), (∃ (n4 : Int), (∃ (n5 : Int), (∃ (xs2 : List (List Da)), (∃ (n6 : Int), (∃ (n7 : Int), (∃ (xs3 : List (List Da)), ((c[m1]?) = some [(.bool b2), (.int .i64 n4), (.int .i64 n5), (.sl xs2), (.int .i64 n6), (.int .i64 n7), (.sl xs3)] ∧ (∃ (m2 : Nat), (i = ((↑m2 : Int)) ∧ (∃ (b3 : Bool), (∃ (n8 : Int), (∃ (n9 : Int), (∃ (xs4 : List (List Da)), (∃ (n10 : Int), (∃ (n11 : Int), (∃ (xs5 : List (List Da)), ((c[m2]?) = some [(.bool b3), (.int .i64 n8), (.int .i64 n9), (.sl xs4), (.int .i64 n10), (.int .i64 n11), (.sl xs5)] ∧ (∃ (b4 : Bool), (XC Try.prog 95 [(.dat [(.bool b2), (.int .i64 n4), (.int .i64 n5), (.sl xs2), (.int .i64 n6), (.int .i64 n7), (.sl xs3)]), (.dat [(.bool b3), (.int .i64 n8), (.int .i64 n9), (.sl xs4), (.int .i64 n10), (.int .i64 n11), (.sl xs5)])] [] (B b4) [] ∧ ifB (!b4)
  (((B (false)) = r ∧ [] = O))
  (spec_ClauseOk_L2 r O s (IntKind.wrap IntKind.i64 (i + (1 : Int))) c))))))))))))))))))))))))
  (spec_ClauseOk_L2 r O s (IntKind.wrap IntKind.i64 (i + (1 : Int))) c)))))))))))))))
  (((B (decide ((↑(List.length c) : Int) ≤ (8 : Int)))) = r ∧ [] = O))) : spec_ClauseOk_L2 r O s i c := by
  unfold spec_ClauseOk_L2
  refine cl_of (E := env) (hs := spec_ClauseOk_h) envOk mixed ?_
  exact to_vc (by kernel_rfl) h
theorem spec_ClauseOk_of {s : List (List Da)} {c : List (List Da)} {r : AV} {O : List (Nat × Ob)} (h : spec_ClauseOk_L2 r O s ((0 : Int)) c) : XC Try.prog 40 [(L s), (.dat [(.sl c)])] [] r O :=
  xc_of (E := env) (hs := spec_ClauseOk_h) (c := (bodyOf Try.f40)) (n := 44) (res := [.tmp 4]) (rs := .c .b) (ks := []) (dir := []) envOk mixed rfl Try.func40 (by kernel_rfl) (by kernel_rfl) (by kernel_rfl) (by kernel_rfl) (to_vc (by kernel_rfl) h)

/-- loop.example/g00461/impl.ClauseOk -/
def impl_ClauseOk_h : Hints := ⟨[(2, ⟨[0, 3, 8, 9, 10], [], [], []⟩)], []⟩
def impl_ClauseOk_L2 (r : AV) (O : List (Nat × Ob)) (s : List (List Da)) (s8 : List (List Da)) (s9 : Int) (s10 : Int) (c : List (List Da)) : Prop := CL 39 Try.prog (subC (bodyOf Try.f41) [1, 0, 1, 0, 0]) (kont Try.prog env impl_ClauseOk_h 39 (bodyOf Try.f41) [1, 0, 1, 0, 0] (vRet env [.tmp 4] (.c .b) [] [] r O) (retKE (vRet env [.tmp 4] (.c .b) [] [] r O))).1 (kont Try.prog env impl_ClauseOk_h 39 (bodyOf Try.f41) [1, 0, 1, 0, 0] (vRet env [.tmp 4] (.c .b) [] [] r O) (retKE (vRet env [.tmp 4] (.c .b) [] [] r O))).2 ⟨[(0, (L s)), (3, (.one (.op 1900 0))), (8, (L s8)), (9, (Z s9)), (10, (Z s10))], [(1900, (.var [(.d (.sl c))]))]⟩
theorem impl_ClauseOk_L2_of {r : AV} {O : List (Nat × Ob)} {s : List (List Da)} {s8 : List (List Da)} {s9 : Int} {s10 : Int} {c : List (List Da)} (h : ifB (decide (s10 < s9))
  ((∃ (m : Nat), (s10 = ((↑m : Int)) ∧ (∃ (b : Bool), (∃ (n : Int), (∃ (n1 : Int), (∃ (xs : List (List Da)), (∃ (n2 : Int), (∃ (n3 : Int), (∃ (xs1 : List (List Da)), ((s8[m]?) = some [(.bool b), (.int .i64 n), (.int .i64 n1), (.sl xs), (.int .i64 n2), (.int .i64 n3), (.sl xs1)] ∧ (∃ (b1 : Bool), (XC Try.prog 24 [(L s), (.dat [(.bool b), (.int .i64 n), (.int .i64 n1), (.sl xs), (.int .i64 n2), (.int .i64 n3), (.sl xs1)])] [] (B b1) [] ∧ ifB (!b1)
  (((B (false)) = r ∧ [] = O))
  (ifB (decide ((0 : Int) < s10))
  ((∃ (m1 : Nat), ((IntKind.wrap IntKind.i64 (s10 - (1 : Int))) = ((↑m1 : Int)) ∧ (∃ (b2 : Bool), (∃ (n4 : Int), (∃ (n5 : Int), (∃ (xs2 : List (List Da)), (∃ (n6 : Int), (∃ (n7 : Int), (∃ (xs3 : List (List Da)), ((c[m1]?) = some [(.bool b2), (.int .i64 n4), (.int .i64 n5), (.sl xs2), (.int .i64 n6), (.int .i64 n7), (.sl xs3)] ∧ (∃ (b3 : Bool), (XC Try.prog 96 [(.dat [(.bool b2), (.int .i64 n4), (.int .i64 n5), (.sl xs2), (.int .i64 n6), (.int .i64 n7), (.sl xs3)]), (.dat [(.bool b), (.int .i64 n), (.int .i64 n1), (.sl xs), (.int .i64 n2), (.int .i64 n3), (.sl xs1)])] [] (B b3) [] ∧ ifB (!b3)
  (((B (false)) = r ∧ [] = O))
  (impl_ClauseOk_L2 r O s s8 s9 (IntKind.wrap IntKind.i64 (s10 + (1 : Int))) c))))))))))))))
  (impl_ClauseOk_L2 r O s s8 s9 (IntKind.wrap IntKind.i64 (s10 + (1 : Int))) c)))))))))))))))
  (((B (decide ((↑(List.length c) : Int) ≤ (8 : Int)))) = r ∧ [] = O))) : impl_ClauseOk_L2 r O s s8 s9 s10 c := by
  unfold impl_ClauseOk_L2
  refine cl_of (E := env) (hs := impl_ClauseOk_h) envOk mixed ?_
  exact to_vc (by kernel_rfl) h
theorem impl_ClauseOk_of {s : List (List Da)} {c : List (List Da)} {r : AV} {O : List (Nat × Ob)} (h : impl_ClauseOk_L2 r O s c ((↑(List.length c) : Int)) ((0 : Int)) c) : XC Try.prog 41 [(L s), (.dat [(.sl c)])] [] r O :=
  xc_of (E := env) (hs := impl_ClauseOk_h) (c := (bodyOf Try.f41)) (n := 39) (res := [.tmp 4]) (rs := .c .b) (ks := []) (dir := []) envOk mixed rfl Try.func41 (by kernel_rfl) (by kernel_rfl) (by kernel_rfl) (by kernel_rfl) (to_vc (by kernel_rfl) h)

/-- loop.example/g00461/laws.szClauseS -/
def laws_szClauseS_h : Hints := ⟨[(5, ⟨[0, 1, 5], [], [], []⟩)], []⟩
def laws_szClauseS_L5 (r : AV) (O : List (Nat × Ob)) (a : List (List Da)) (left : Int) (i : Int) : Prop := CL 27 Try.prog (subC (bodyOf Try.f42) [1, 1, 1, 0, 1, 0, 0]) (kont Try.prog env laws_szClauseS_h 27 (bodyOf Try.f42) [1, 1, 1, 0, 1, 0, 0] (vRet env [.tmp 4] (.c (.i .i64)) [] [] r O) (retKE (vRet env [.tmp 4] (.c (.i .i64)) [] [] r O))).1 (kont Try.prog env laws_szClauseS_h 27 (bodyOf Try.f42) [1, 1, 1, 0, 1, 0, 0] (vRet env [.tmp 4] (.c (.i .i64)) [] [] r O) (retKE (vRet env [.tmp 4] (.c (.i .i64)) [] [] r O))).2 ⟨[(0, (L a)), (1, (Z left)), (5, (Z i))], []⟩
theorem laws_szClauseS_L5_of {r : AV} {O : List (Nat × Ob)} {a : List (List Da)} {left : Int} {i : Int} (h : ifB (decide (i < (↑(List.length a) : Int)))
  ((∃ (m : Nat), (i = ((↑m : Int)) ∧ (∃ (xs : List (List Da)), ((a[m]?) = some [(.sl xs)] ∧ (∃ (n : Int), (XC Try.prog 35 [(.dat [(.sl xs)]), (Z left)] [] (Z n) [] ∧ ifB (decide (n < (0 : Int)))
  (((Z ((-1 : Int))) = r ∧ [] = O))
  (laws_szClauseS_L5 r O a n (IntKind.wrap IntKind.i64 (i + (1 : Int)))))))))))
  (((Z left) = r ∧ [] = O))) : laws_szClauseS_L5 r O a left i := by
  unfold laws_szClauseS_L5
  refine cl_of (E := env) (hs := laws_szClauseS_h) envOk mixed ?_
  exact to_vc (by kernel_rfl) h
theorem laws_szClauseS_of {a : List (List Da)} {left : Int} {r : AV} {O : List (Nat × Ob)} (h : ifB (decide (IntKind.wrap IntKind.i64 (left - (↑(List.length a) : Int)) < (0 : Int)))
  (((Z ((-1 : Int))) = r ∧ [] = O))
  (laws_szClauseS_L5 r O a (IntKind.wrap IntKind.i64 (left - (↑(List.length a) : Int))) ((0 : Int)))) : XC Try.prog 42 [(L a), (Z left)] [] r O :=
  xc_of (E := env) (hs := laws_szClauseS_h) (c := (bodyOf Try.f42)) (n := 27) (res := [.tmp 4]) (rs := .c (.i .i64)) (ks := []) (dir := []) envOk mixed rfl Try.func42 (by kernel_rfl) (by kernel_rfl) (by kernel_rfl) (by kernel_rfl) (to_vc (by kernel_rfl) h)

/-- loop.example/g00461/laws.toClauseS -/
def laws_toClauseS_h : Hints := ⟨[(3, ⟨[0, 3, 4], [], [], []⟩)], []⟩
def laws_toClauseS_L3 (r : AV) (O : List (Nat × Ob)) (a : List (List Da)) (i : Int) (out : List (List Da)) : Prop := CL 23 Try.prog (subC (bodyOf Try.f44) [1, 1, 0, 1, 0, 0]) (kont Try.prog env laws_toClauseS_h 23 (bodyOf Try.f44) [1, 1, 0, 1, 0, 0] (vRet env [.tmp 2] (.c .l) [] [] r O) (retKE (vRet env [.tmp 2] (.c .l) [] [] r O))).1 (kont Try.prog env laws_toClauseS_h 23 (bodyOf Try.f44) [1, 1, 0, 1, 0, 0] (vRet env [.tmp 2] (.c .l) [] [] r O) (retKE (vRet env [.tmp 2] (.c .l) [] [] r O))).2 ⟨[(0, (L a)), (3, (.one (.ol 1900))), (4, (Z i))], [(1900, (.lst 55 1 out))]⟩
theorem laws_toClauseS_L3_of {r : AV} {O : List (Nat × Ob)} {a : List (List Da)} {i : Int} {out : List (List Da)} (h : ifB (decide (i < (↑(List.length a) : Int)))
  ((∃ (m : Nat), (i = ((↑m : Int)) ∧ (∃ (xs : List (List Da)), ((a[m]?) = some [(.sl xs)] ∧ (∃ (xs1 : List (List Da)), (XC Try.prog 37 [(.dat [(.sl xs)])] [] (.dat [(.sl xs1)]) [] ∧ (∃ (m1 : Nat), (i = ((↑m1 : Int)) ∧ (Do (m1 < List.length out) ∧ (∃ (m2 : Nat), ((m1 * (1 : Nat)) = (m2 * (1 : Nat) + (0 : Nat)) ∧ (∃ (xs2 : List (List Da)), ((out[m2]?) = some [(.sl xs2)] ∧ laws_toClauseS_L3 r O a (IntKind.wrap IntKind.i64 (i + (1 : Int))) (List.set out m2 ([] ++ [Da.sl xs1] ++ []))))))))))))))))
  (((L out) = r ∧ [] = O))) : laws_toClauseS_L3 r O a i out := by
  unfold laws_toClauseS_L3
  refine cl_of (E := env) (hs := laws_toClauseS_h) envOk mixed ?_
  exact to_vc (by kernel_rfl) h
theorem laws_toClauseS_of {a : List (List Da)} {r : AV} {O : List (Nat × Ob)} (h : (∃ (l : Nat), (∃ (c : Nat), (((↑(List.length a) : Int)) = ((↑l : Int)) ∧ (((↑(List.length a) : Int)) = ((↑c : Int)) ∧ (Do (l ≤ c ∧ Prod.fst ((24 : Nat), [At.e0]) * c ≤ (281474976710656 : Nat) ∧ c ≤ (281474976710656 : Nat)) ∧ laws_toClauseS_L3 r O a ((0 : Int)) (List.replicate l [Da.sl []]))))))) : XC Try.prog 44 [(L a)] [] r O :=
  xc_of (E := env) (hs := laws_toClauseS_h) (c := (bodyOf Try.f44)) (n := 23) (res := [.tmp 2]) (rs := .c .l) (ks := []) (dir := []) envOk mixed rfl Try.func44 (by kernel_rfl) (by kernel_rfl) (by kernel_rfl) (by kernel_rfl) (to_vc (by kernel_rfl) h)

/-- loop.example/g00461/spec.ProblemText -/
def spec_ProblemText_h : Hints := ⟨[(3, ⟨[0, 1, 5, 6], [], [], []⟩), (10, ⟨[0, 1, 5, 7], [], [], []⟩)], []⟩
def spec_ProblemText_L3 (r : AV) (O : List (Nat × Ob)) (s : List (List Da)) (list : List (List Da)) (out : ByteArray) (i : Int) : Prop := CL 48 Try.prog (subC (bodyOf Try.f43) [1, 1, 0, 1, 0, 0]) (kont Try.prog env spec_ProblemText_h 48 (bodyOf Try.f43) [1, 1, 0, 1, 0, 0] (vRet env [.tmp 4] (.c .s) [] [] r O) (retKE (vRet env [.tmp 4] (.c .s) [] [] r O))).1 (kont Try.prog env spec_ProblemText_h 48 (bodyOf Try.f43) [1, 1, 0, 1, 0, 0] (vRet env [.tmp 4] (.c .s) [] [] r O) (retKE (vRet env [.tmp 4] (.c .s) [] [] r O))).2 ⟨[(0, (L s)), (1, (L list)), (5, (T out)), (6, (Z i))], []⟩
def spec_ProblemText_L10 (r : AV) (O : List (Nat × Ob)) (s : List (List Da)) (list : List (List Da)) (out : ByteArray) (i : Int) : Prop := CL 48 Try.prog (subC (bodyOf Try.f43) [1, 1, 1, 1, 0, 1, 0, 0]) (kont Try.prog env spec_ProblemText_h 48 (bodyOf Try.f43) [1, 1, 1, 1, 0, 1, 0, 0] (vRet env [.tmp 4] (.c .s) [] [] r O) (retKE (vRet env [.tmp 4] (.c .s) [] [] r O))).1 (kont Try.prog env spec_ProblemText_h 48 (bodyOf Try.f43) [1, 1, 1, 1, 0, 1, 0, 0] (vRet env [.tmp 4] (.c .s) [] [] r O) (retKE (vRet env [.tmp 4] (.c .s) [] [] r O))).2 ⟨[(0, (L s)), (1, (L list)), (5, (T out)), (7, (Z i))], []⟩
theorem spec_ProblemText_L3_of {r : AV} {O : List (Nat × Ob)} {s : List (List Da)} {list : List (List Da)} {out : ByteArray} {i : Int} (h : ifB (decide (i < (↑(List.length s) : Int)))
  ((∃ (m : Nat), (i = ((↑m : Int)) ∧ (∃ (q : ByteArray), (∃ (n : Int), (∃ (b : Bool), ((s[m]?) = some [(.str q), (.int .i64 n), (.bool b)] ∧ ifB b
  ((Do (ByteArray.size (out ++ { data := #[(32 : UInt8)] }) ≤ (281474976710656 : Nat)) ∧ (∃ (m1 : Nat), (i = ((↑m1 : Int)) ∧ (∃ (q1 : ByteArray), (∃ (n1 : Int), (∃ (b1 : Bool), ((s[m1]?) = some [(.str q1), (.int .i64 n1), (.bool b1)] ∧ (Do (ByteArray.size (out ++ { data := #[(32 : UInt8)] } ++ q1) ≤ (281474976710656 : Nat)) ∧ spec_ProblemText_L3 r O s list (out ++ { data := #[(32 : UInt8)] } ++ q1) (IntKind.wrap IntKind.i64 (i + (1 : Int))))))))))))
  (spec_ProblemText_L3 r O s list out (IntKind.wrap IntKind.i64 (i + (1 : Int)))))))))))
  (ifB (decide (out ≠ { data := #[] }))
  ((Do (ByteArray.size ({ data := #[(97 : UInt8), (99 : UInt8)] } ++ out) ≤ (281474976710656 : Nat)) ∧ (Do (ByteArray.size ({ data := #[(97 : UInt8), (99 : UInt8)] } ++ out ++ { data := #[(46 : UInt8), (10 : UInt8)] }) ≤ (281474976710656 : Nat)) ∧ spec_ProblemText_L10 r O s list ({ data := #[(97 : UInt8), (99 : UInt8)] } ++ out ++ { data := #[(46 : UInt8), (10 : UInt8)] }) ((0 : Int)))))
  (spec_ProblemText_L10 r O s list out ((0 : Int))))) : spec_ProblemText_L3 r O s list out i := by
  unfold spec_ProblemText_L3
  refine cl_of (E := env) (hs := spec_ProblemText_h) envOk mixed ?_
  exact to_vc (by kernel_rfl) h
theorem spec_ProblemText_L10_of {r : AV} {O : List (Nat × Ob)} {s : List (List Da)} {list : List (List Da)} {out : ByteArray} {i : Int} (h : ifB (decide (i < (↑(List.length list) : Int)))
  ((∃ (m : Nat), (i = ((↑m : Int)) ∧ (∃ (xs : List (List Da)), ((list[m]?) = some [(.sl xs)] ∧ (∃ (q : ByteArray), (XC Try.prog 36 [(L s), (.dat [(.sl xs)])] [] (T q) [] ∧ (Do (ByteArray.size (out ++ q) ≤ (281474976710656 : Nat)) ∧ (Do (ByteArray.size (out ++ q ++ { data := #[(46 : UInt8), (10 : UInt8)] }) ≤ (281474976710656 : Nat)) ∧ spec_ProblemText_L10 r O s list (out ++ q ++ { data := #[(46 : UInt8), (10 : UInt8)] }) (IntKind.wrap IntKind.i64 (i + (1 : Int))))))))))))
  (((T out) = r ∧ [] = O))) : spec_ProblemText_L10 r O s list out i := by
  unfold spec_ProblemText_L10
  refine cl_of (E := env) (hs := spec_ProblemText_h) envOk mixed ?_
  exact to_vc (by kernel_rfl) h
theorem spec_ProblemText_of {s : List (List Da)} {list : List (List Da)} {r : AV} {O : List (Nat × Ob)} (h : spec_ProblemText_L3 r O s list ({ data := #[] }) ((0 : Int))) : XC Try.prog 43 [(L s), (L list)] [] r O :=
  xc_of (E := env) (hs := spec_ProblemText_h) (c := (bodyOf Try.f43)) (n := 48) (res := [.tmp 4]) (rs := .c .s) (ks := []) (dir := []) envOk mixed rfl Try.func43 (by kernel_rfl) (by kernel_rfl) (by kernel_rfl) (by kernel_rfl) (to_vc (by kernel_rfl) h)

/-- loop.example/g00461/impl.ProblemText -/
def impl_ProblemText_h : Hints := ⟨[(3, ⟨[0, 1, 5, 10, 11, 12], [], [], []⟩), (11, ⟨[0, 5, 29, 30, 31], [], [], []⟩)], []⟩
def impl_ProblemText_L3 (r : AV) (O : List (Nat × Ob)) (s : List (List Da)) (list : List (List Da)) (out : ByteArray) (s10 : List (List Da)) (s11 : Int) (s12 : Int) : Prop := CL 43 Try.prog (subC (bodyOf Try.f45) [1, 1, 0, 1, 0, 0]) (kont Try.prog env impl_ProblemText_h 43 (bodyOf Try.f45) [1, 1, 0, 1, 0, 0] (vRet env [.tmp 4] (.c .s) [] [] r O) (retKE (vRet env [.tmp 4] (.c .s) [] [] r O))).1 (kont Try.prog env impl_ProblemText_h 43 (bodyOf Try.f45) [1, 1, 0, 1, 0, 0] (vRet env [.tmp 4] (.c .s) [] [] r O) (retKE (vRet env [.tmp 4] (.c .s) [] [] r O))).2 ⟨[(0, (L s)), (1, (L list)), (5, (T out)), (10, (L s10)), (11, (Z s11)), (12, (Z s12))], []⟩
def impl_ProblemText_L11 (r : AV) (O : List (Nat × Ob)) (s : List (List Da)) (out : ByteArray) (s29 : List (List Da)) (s30 : Int) (s31 : Int) : Prop := CL 43 Try.prog (subC (bodyOf Try.f45) [1, 1, 1, 1, 0, 1, 0, 0]) (kont Try.prog env impl_ProblemText_h 43 (bodyOf Try.f45) [1, 1, 1, 1, 0, 1, 0, 0] (vRet env [.tmp 4] (.c .s) [] [] r O) (retKE (vRet env [.tmp 4] (.c .s) [] [] r O))).1 (kont Try.prog env impl_ProblemText_h 43 (bodyOf Try.f45) [1, 1, 1, 1, 0, 1, 0, 0] (vRet env [.tmp 4] (.c .s) [] [] r O) (retKE (vRet env [.tmp 4] (.c .s) [] [] r O))).2 ⟨[(0, (L s)), (5, (T out)), (29, (L s29)), (30, (Z s30)), (31, (Z s31))], []⟩
theorem impl_ProblemText_L3_of {r : AV} {O : List (Nat × Ob)} {s : List (List Da)} {list : List (List Da)} {out : ByteArray} {s10 : List (List Da)} {s11 : Int} {s12 : Int} (h : ifB (decide (s12 < s11))
  ((∃ (m : Nat), (s12 = ((↑m : Int)) ∧ (∃ (q : ByteArray), (∃ (n : Int), (∃ (b : Bool), ((s10[m]?) = some [(.str q), (.int .i64 n), (.bool b)] ∧ ifB b
  ((Do (ByteArray.size ({ data := #[(32 : UInt8)] } ++ q) ≤ (281474976710656 : Nat)) ∧ (Do (ByteArray.size (out ++ ({ data := #[(32 : UInt8)] } ++ q)) ≤ (281474976710656 : Nat)) ∧ impl_ProblemText_L3 r O s list (out ++ ({ data := #[(32 : UInt8)] } ++ q)) s10 s11 (IntKind.wrap IntKind.i64 (s12 + (1 : Int))))))
  (impl_ProblemText_L3 r O s list out s10 s11 (IntKind.wrap IntKind.i64 (s12 + (1 : Int)))))))))))
  (ifB (decide (out ≠ { data := #[] }))
  ((Do (ByteArray.size ({ data := #[(97 : UInt8), (99 : UInt8)] } ++ out) ≤ (281474976710656 : Nat)) ∧ (Do (ByteArray.size ({ data := #[(97 : UInt8), (99 : UInt8)] } ++ out ++ { data := #[(46 : UInt8), (10 : UInt8)] }) ≤ (281474976710656 : Nat)) ∧ impl_ProblemText_L11 r O s ({ data := #[(97 : UInt8), (99 : UInt8)] } ++ out ++ { data := #[(46 : UInt8), (10 : UInt8)] }) list ((↑(List.length list) : Int)) ((0 : Int)))))
  (impl_ProblemText_L11 r O s out list ((↑(List.length list) : Int)) ((0 : Int))))) : impl_ProblemText_L3 r O s list out s10 s11 s12 := by
  unfold impl_ProblemText_L3
  refine cl_of (E := env) (hs := impl_ProblemText_h) envOk mixed ?_
  exact to_vc (by kernel_rfl) h
theorem impl_ProblemText_L11_of {r : AV} {O : List (Nat × Ob)} {s : List (List Da)} {out : ByteArray} {s29 : List (List Da)} {s30 : Int} {s31 : Int} (h : ifB (decide (s31 < s30))
  ((∃ (m : Nat), (s31 = ((↑m : Int)) ∧ (∃ (xs : List (List Da)), ((s29[m]?) = some [(.sl xs)] ∧ (∃ (q : ByteArray), (XC Try.prog 38 [(L s), (.dat [(.sl xs)])] [] (T q) [] ∧ (Do (ByteArray.size (q ++ { data := #[(46 : UInt8), (10 : UInt8)] }) ≤ (281474976710656 : Nat)) ∧ (Do (ByteArray.size (out ++ (q ++ { data := #[(46 : UInt8), (10 : UInt8)] })) ≤ (281474976710656 : Nat)) ∧ impl_ProblemText_L11 r O s (out ++ (q ++ { data := #[(46 : UInt8), (10 : UInt8)] })) s29 s30 (IntKind.wrap IntKind.i64 (s31 + (1 : Int))))))))))))
  (((T out) = r ∧ [] = O))) : impl_ProblemText_L11 r O s out s29 s30 s31 := by
  unfold impl_ProblemText_L11
  refine cl_of (E := env) (hs := impl_ProblemText_h) envOk mixed ?_
  exact to_vc (by kernel_rfl) h
theorem impl_ProblemText_of {s : List (List Da)} {list : List (List Da)} {r : AV} {O : List (Nat × Ob)} (h : impl_ProblemText_L3 r O s list ({ data := #[] }) s ((↑(List.length s) : Int)) ((0 : Int))) : XC Try.prog 45 [(L s), (L list)] [] r O :=
  xc_of (E := env) (hs := impl_ProblemText_h) (c := (bodyOf Try.f45)) (n := 43) (res := [.tmp 4]) (rs := .c .s) (ks := []) (dir := []) envOk mixed rfl Try.func45 (by kernel_rfl) (by kernel_rfl) (by kernel_rfl) (by kernel_rfl) (to_vc (by kernel_rfl) h)

/-- loop.example/g00461/laws.eqClauseS -/
def laws_eqClauseS_h : Hints := ⟨[(4, ⟨[0, 1, 5], [], [], []⟩)], []⟩
def laws_eqClauseS_L4 (r : AV) (O : List (Nat × Ob)) (a : List (List Da)) (b : List (List Da)) (i : Int) : Prop := CL 27 Try.prog (subC (bodyOf Try.f46) [1, 1, 0, 1, 0, 0]) (kont Try.prog env laws_eqClauseS_h 27 (bodyOf Try.f46) [1, 1, 0, 1, 0, 0] (vRet env [.tmp 4] (.c .b) [] [] r O) (retKE (vRet env [.tmp 4] (.c .b) [] [] r O))).1 (kont Try.prog env laws_eqClauseS_h 27 (bodyOf Try.f46) [1, 1, 0, 1, 0, 0] (vRet env [.tmp 4] (.c .b) [] [] r O) (retKE (vRet env [.tmp 4] (.c .b) [] [] r O))).2 ⟨[(0, (L a)), (1, (L b)), (5, (Z i))], []⟩
theorem laws_eqClauseS_L4_of {r : AV} {O : List (Nat × Ob)} {a : List (List Da)} {b : List (List Da)} {i : Int} (h : ifB (decide (i < (↑(List.length a) : Int)))
  ((∃ (m : Nat), (i = ((↑m : Int)) ∧ (∃ (xs : List (List Da)), ((a[m]?) = some [(.sl xs)] ∧ (∃ (m1 : Nat), (i = ((↑m1 : Int)) ∧ (∃ (xs1 : List (List Da)), ((b[m1]?) = some [(.sl xs1)] ∧ (∃ (b2 : Bool), (XC Try.prog 39 [(.dat [(.sl xs)]), (.dat [(.sl xs1)])] [] (B b2) [] ∧ ifB (!b2)
  (((B (false)) = r ∧ [] = O))
  (laws_eqClauseS_L4 r O a b (IntKind.wrap IntKind.i64 (i + (1 : Int)))))))))))))))
  (((B (true)) = r ∧ [] = O))) : laws_eqClauseS_L4 r O a b i := by
  unfold laws_eqClauseS_L4
  refine cl_of (E := env) (hs := laws_eqClauseS_h) envOk mixed ?_
  exact to_vc (by kernel_rfl) h
theorem laws_eqClauseS_of {a : List (List Da)} {b : List (List Da)} {r : AV} {O : List (Nat × Ob)} (h : ifB (decide ((↑(List.length a) : Int) ≠ (↑(List.length b) : Int)))
  (((B (false)) = r ∧ [] = O))
  (laws_eqClauseS_L4 r O a b ((0 : Int)))) : XC Try.prog 46 [(L a), (L b)] [] r O :=
  xc_of (E := env) (hs := laws_eqClauseS_h) (c := (bodyOf Try.f46)) (n := 27) (res := [.tmp 4]) (rs := .c .b) (ks := []) (dir := []) envOk mixed rfl Try.func46 (by kernel_rfl) (by kernel_rfl) (by kernel_rfl) (by kernel_rfl) (to_vc (by kernel_rfl) h)

/-- loop.example/g00461/laws.szWork -/
def laws_szWork_h : Hints := ⟨[], []⟩
theorem laws_szWork_of {a : List (List Da)} {a1 : List (List Da)} {a2 : List (List Da)} {a3 : List (List Da)} {a4 : List (List Da)} {a5 : Bool} {left : Int} {r : AV} {O : List (Nat × Ob)} (h : (∃ (n : Int), (XC Try.prog 15 [(L a), (Z left)] [] (Z n) [] ∧ ifB (decide (n < (0 : Int)))
  (((Z ((-1 : Int))) = r ∧ [] = O))
  ((∃ (n1 : Int), (XC Try.prog 42 [(L a1), (Z n)] [] (Z n1) [] ∧ ifB (decide (n1 < (0 : Int)))
  (((Z ((-1 : Int))) = r ∧ [] = O))
  ((∃ (n2 : Int), (XC Try.prog 30 [(L a2), (Z n1)] [] (Z n2) [] ∧ ifB (decide (n2 < (0 : Int)))
  (((Z ((-1 : Int))) = r ∧ [] = O))
  ((∃ (n3 : Int), (XC Try.prog 80 [(L a3), (Z n2)] [] (Z n3) [] ∧ ifB (decide (n3 < (0 : Int)))
  (((Z ((-1 : Int))) = r ∧ [] = O))
  ((∃ (n4 : Int), (XC Try.prog 80 [(L a4), (Z n3)] [] (Z n4) [] ∧ ifB (decide (n4 < (0 : Int)))
  (((Z ((-1 : Int))) = r ∧ [] = O))
  (((Z n4) = r ∧ [] = O))))))))))))))))) : XC Try.prog 47 [(.dat [(.sl a), (.sl a1), (.sl a2), (.sl a3), (.sl a4), (.bool a5)]), (Z left)] [] r O :=
  xc_of (E := env) (hs := laws_szWork_h) (c := (bodyOf Try.f47)) (n := 36) (res := [.tmp 4]) (rs := .c (.i .i64)) (ks := []) (dir := []) envOk mixed rfl Try.func47 (by kernel_rfl) (by kernel_rfl) (by kernel_rfl) (by kernel_rfl) (to_vc (by kernel_rfl) h)

/-- loop.example/g00461/laws.toWork -/
def laws_toWork_h : Hints := ⟨[], []⟩
theorem laws_toWork_of {a : List (List Da)} {a1 : List (List Da)} {a2 : List (List Da)} {a3 : List (List Da)} {a4 : List (List Da)} {a5 : Bool} {r : AV} {O : List (Nat × Ob)} (h : (∃ (xs : List (List Da)), (XC Try.prog 18 [(L a)] [] (L xs) [] ∧ (∃ (xs1 : List (List Da)), (XC Try.prog 44 [(L a1)] [] (L xs1) [] ∧ (∃ (xs2 : List (List Da)), (XC Try.prog 32 [(L a2)] [] (L xs2) [] ∧ (∃ (xs3 : List (List Da)), (XC Try.prog 84 [(L a3)] [] (L xs3) [] ∧ (∃ (xs4 : List (List Da)), (XC Try.prog 84 [(L a4)] [] (L xs4) [] ∧ ((.dat [(.sl xs), (.sl xs1), (.sl xs2), (.sl xs3), (.sl xs4), (.bool a5)]) = r ∧ [] = O)))))))))))) : XC Try.prog 49 [(.dat [(.sl a), (.sl a1), (.sl a2), (.sl a3), (.sl a4), (.bool a5)])] [] r O :=
  xc_of (E := env) (hs := laws_toWork_h) (c := (bodyOf Try.f49)) (n := 28) (res := [.cell 2 86]) (rs := .d [.l, .l, .l, .l, .l, .b]) (ks := []) (dir := []) envOk mixed rfl Try.func49 (by kernel_rfl) (by kernel_rfl) (by kernel_rfl) (by kernel_rfl) (to_vc (by kernel_rfl) h)

/-- loop.example/g00461/spec.Verdict -/
def spec_Verdict_h : Hints := ⟨[], []⟩
theorem spec_Verdict_of {w : List (List Da)} {w1 : List (List Da)} {w2 : List (List Da)} {w3 : List (List Da)} {w4 : List (List Da)} {w5 : Bool} {r : AV} {O : List (Nat × Ob)} (h : (∃ (n : Int), (XC Try.prog 31 [(L w2)] [] (Z n) [] ∧ ifB (decide ((0 : Int) ≤ n))
  (((Z ((1 : Int))) = r ∧ [] = O))
  (ifB (decide ((0 : Int) < (↑(List.length w4) : Int)))
  (((Z ((0 : Int))) = r ∧ [] = O))
  (ifB w5
  (((Z ((3 : Int))) = r ∧ [] = O))
  (((Z ((2 : Int))) = r ∧ [] = O))))))) : XC Try.prog 48 [(.dat [(.sl w), (.sl w1), (.sl w2), (.sl w3), (.sl w4), (.bool w5)])] [] r O :=
  xc_of (E := env) (hs := spec_Verdict_h) (c := (bodyOf Try.f48)) (n := 16) (res := [.tmp 2]) (rs := .c (.i .i64)) (ks := []) (dir := []) envOk mixed rfl Try.func48 (by kernel_rfl) (by kernel_rfl) (by kernel_rfl) (by kernel_rfl) (to_vc (by kernel_rfl) h)

/-- loop.example/g00461/impl.Verdict -/
def impl_Verdict_h : Hints := ⟨[], []⟩
theorem impl_Verdict_of {w : List (List Da)} {w1 : List (List Da)} {w2 : List (List Da)} {w3 : List (List Da)} {w4 : List (List Da)} {w5 : Bool} {r : AV} {O : List (Nat × Ob)} (h : (∃ (n : Int), (XC Try.prog 33 [(L w2)] [] (Z n) [] ∧ ifB (decide ((0 : Int) ≤ n))
  (((Z ((1 : Int))) = r ∧ [] = O))
  (ifB (decide ((0 : Int) < (↑(List.length w4) : Int)))
  (((Z ((0 : Int))) = r ∧ [] = O))
  (ifB w5
  (((Z ((3 : Int))) = r ∧ [] = O))
  (((Z ((2 : Int))) = r ∧ [] = O))))))) : XC Try.prog 50 [(.dat [(.sl w), (.sl w1), (.sl w2), (.sl w3), (.sl w4), (.bool w5)])] [] r O :=
  xc_of (E := env) (hs := impl_Verdict_h) (c := (bodyOf Try.f50)) (n := 16) (res := [.tmp 2]) (rs := .c (.i .i64)) (ks := []) (dir := []) envOk mixed rfl Try.func50 (by kernel_rfl) (by kernel_rfl) (by kernel_rfl) (by kernel_rfl) (to_vc (by kernel_rfl) h)

/-- loop.example/g00461/laws.eqWork -/
def laws_eqWork_h : Hints := ⟨[], []⟩
theorem laws_eqWork_of {a : List (List Da)} {a1 : List (List Da)} {a2 : List (List Da)} {a3 : List (List Da)} {a4 : List (List Da)} {a5 : Bool} {b : List (List Da)} {b1 : List (List Da)} {b2 : List (List Da)} {b3 : List (List Da)} {b4 : List (List Da)} {b5 : Bool} {r : AV} {O : List (Nat × Ob)} (h : (∃ (b6 : Bool), (XC Try.prog 21 [(L a), (L b)] [] (B b6) [] ∧ ifB (!b6)
  (((B (false)) = r ∧ [] = O))
  ((∃ (b7 : Bool), (XC Try.prog 46 [(L a1), (L b1)] [] (B b7) [] ∧ ifB (!b7)
  (((B (false)) = r ∧ [] = O))
  ((∃ (b8 : Bool), (XC Try.prog 34 [(L a2), (L b2)] [] (B b8) [] ∧ ifB (!b8)
  (((B (false)) = r ∧ [] = O))
  ((∃ (b9 : Bool), (XC Try.prog 61 [(L a3), (L b3)] [] (B b9) [] ∧ ifB (!b9)
  (((B (false)) = r ∧ [] = O))
  ((∃ (b10 : Bool), (XC Try.prog 61 [(L a4), (L b4)] [] (B b10) [] ∧ ifB (!b10)
  (((B (false)) = r ∧ [] = O))
  (ifB (decide (a5 ≠ b5))
  (((B (false)) = r ∧ [] = O))
  (((B (true)) = r ∧ [] = O)))))))))))))))))) : XC Try.prog 51 [(.dat [(.sl a), (.sl a1), (.sl a2), (.sl a3), (.sl a4), (.bool a5)]), (.dat [(.sl b), (.sl b1), (.sl b2), (.sl b3), (.sl b4), (.bool b5)])] [] r O :=
  xc_of (E := env) (hs := laws_eqWork_h) (c := (bodyOf Try.f51)) (n := 40) (res := [.tmp 4]) (rs := .c .b) (ks := []) (dir := []) envOk mixed rfl Try.func51 (by kernel_rfl) (by kernel_rfl) (by kernel_rfl) (by kernel_rfl) (to_vc (by kernel_rfl) h)

/-- loop.example/g00461/spec.WorkText -/
def spec_WorkText_h : Hints := ⟨[], []⟩
theorem spec_WorkText_of {w : List (List Da)} {w1 : List (List Da)} {w2 : List (List Da)} {w3 : List (List Da)} {w4 : List (List Da)} {w5 : Bool} {r : AV} {O : List (Nat × Ob)} (h : (∃ (q : ByteArray), (XC Try.prog 83 [(Z ((↑(List.length w2) : Int)))] [] (T q) [] ∧ (Do (ByteArray.size ({ data := #[(108 : UInt8), (111 : UInt8), (103 : UInt8), (32 : UInt8)] } ++ q) ≤ (281474976710656 : Nat)) ∧ (Do (ByteArray.size ({ data := #[(108 : UInt8), (111 : UInt8), (103 : UInt8), (32 : UInt8)] } ++ q ++ { data := #[(32 : UInt8), (97 : UInt8), (99 : UInt8), (116 : UInt8), (105 : UInt8), (118 : UInt8), (101 : UInt8), (32 : UInt8)] }) ≤ (281474976710656 : Nat)) ∧ (∃ (q1 : ByteArray), (XC Try.prog 83 [(Z ((↑(List.length w3) : Int)))] [] (T q1) [] ∧ (Do (ByteArray.size ({ data := #[(108 : UInt8), (111 : UInt8), (103 : UInt8), (32 : UInt8)] } ++ q ++ { data := #[(32 : UInt8), (97 : UInt8), (99 : UInt8), (116 : UInt8), (105 : UInt8), (118 : UInt8), (101 : UInt8), (32 : UInt8)] } ++ q1) ≤ (281474976710656 : Nat)) ∧ (Do (ByteArray.size ({ data := #[(108 : UInt8), (111 : UInt8), (103 : UInt8), (32 : UInt8)] } ++ q ++ { data := #[(32 : UInt8), (97 : UInt8), (99 : UInt8), (116 : UInt8), (105 : UInt8), (118 : UInt8), (101 : UInt8), (32 : UInt8)] } ++ q1 ++ { data := #[(32 : UInt8), (112 : UInt8), (97 : UInt8), (115 : UInt8), (115 : UInt8), (105 : UInt8), (118 : UInt8), (101 : UInt8), (32 : UInt8)] }) ≤ (281474976710656 : Nat)) ∧ (∃ (q2 : ByteArray), (XC Try.prog 83 [(Z ((↑(List.length w4) : Int)))] [] (T q2) [] ∧ (Do (ByteArray.size ({ data := #[(108 : UInt8), (111 : UInt8), (103 : UInt8), (32 : UInt8)] } ++ q ++ { data := #[(32 : UInt8), (97 : UInt8), (99 : UInt8), (116 : UInt8), (105 : UInt8), (118 : UInt8), (101 : UInt8), (32 : UInt8)] } ++ q1 ++ { data := #[(32 : UInt8), (112 : UInt8), (97 : UInt8), (115 : UInt8), (115 : UInt8), (105 : UInt8), (118 : UInt8), (101 : UInt8), (32 : UInt8)] } ++ q2) ≤ (281474976710656 : Nat)) ∧ ifB w5
  ((Do (ByteArray.size ({ data := #[(108 : UInt8), (111 : UInt8), (103 : UInt8), (32 : UInt8)] } ++ q ++ { data := #[(32 : UInt8), (97 : UInt8), (99 : UInt8), (116 : UInt8), (105 : UInt8), (118 : UInt8), (101 : UInt8), (32 : UInt8)] } ++ q1 ++ { data := #[(32 : UInt8), (112 : UInt8), (97 : UInt8), (115 : UInt8), (115 : UInt8), (105 : UInt8), (118 : UInt8), (101 : UInt8), (32 : UInt8)] } ++ q2 ++ { data := #[(32 : UInt8), (108 : UInt8), (111 : UInt8), (115 : UInt8), (116 : UInt8)] }) ≤ (281474976710656 : Nat)) ∧ (Do (ByteArray.size ({ data := #[(108 : UInt8), (111 : UInt8), (103 : UInt8), (32 : UInt8)] } ++ q ++ { data := #[(32 : UInt8), (97 : UInt8), (99 : UInt8), (116 : UInt8), (105 : UInt8), (118 : UInt8), (101 : UInt8), (32 : UInt8)] } ++ q1 ++ { data := #[(32 : UInt8), (112 : UInt8), (97 : UInt8), (115 : UInt8), (115 : UInt8), (105 : UInt8), (118 : UInt8), (101 : UInt8), (32 : UInt8)] } ++ q2 ++ { data := #[(32 : UInt8), (108 : UInt8), (111 : UInt8), (115 : UInt8), (116 : UInt8)] } ++ { data := #[(10 : UInt8)] }) ≤ (281474976710656 : Nat)) ∧ ((T ({ data := #[(108 : UInt8), (111 : UInt8), (103 : UInt8), (32 : UInt8)] } ++ q ++ { data := #[(32 : UInt8), (97 : UInt8), (99 : UInt8), (116 : UInt8), (105 : UInt8), (118 : UInt8), (101 : UInt8), (32 : UInt8)] } ++ q1 ++ { data := #[(32 : UInt8), (112 : UInt8), (97 : UInt8), (115 : UInt8), (115 : UInt8), (105 : UInt8), (118 : UInt8), (101 : UInt8), (32 : UInt8)] } ++ q2 ++ { data := #[(32 : UInt8), (108 : UInt8), (111 : UInt8), (115 : UInt8), (116 : UInt8)] } ++ { data := #[(10 : UInt8)] })) = r ∧ [] = O))))
  ((Do (ByteArray.size ({ data := #[(108 : UInt8), (111 : UInt8), (103 : UInt8), (32 : UInt8)] } ++ q ++ { data := #[(32 : UInt8), (97 : UInt8), (99 : UInt8), (116 : UInt8), (105 : UInt8), (118 : UInt8), (101 : UInt8), (32 : UInt8)] } ++ q1 ++ { data := #[(32 : UInt8), (112 : UInt8), (97 : UInt8), (115 : UInt8), (115 : UInt8), (105 : UInt8), (118 : UInt8), (101 : UInt8), (32 : UInt8)] } ++ q2 ++ { data := #[(10 : UInt8)] }) ≤ (281474976710656 : Nat)) ∧ ((T ({ data := #[(108 : UInt8), (111 : UInt8), (103 : UInt8), (32 : UInt8)] } ++ q ++ { data := #[(32 : UInt8), (97 : UInt8), (99 : UInt8), (116 : UInt8), (105 : UInt8), (118 : UInt8), (101 : UInt8), (32 : UInt8)] } ++ q1 ++ { data := #[(32 : UInt8), (112 : UInt8), (97 : UInt8), (115 : UInt8), (115 : UInt8), (105 : UInt8), (118 : UInt8), (101 : UInt8), (32 : UInt8)] } ++ q2 ++ { data := #[(10 : UInt8)] })) = r ∧ [] = O))))))))))))))) : XC Try.prog 52 [(.dat [(.sl w), (.sl w1), (.sl w2), (.sl w3), (.sl w4), (.bool w5)])] [] r O :=
  xc_of (E := env) (hs := spec_WorkText_h) (c := (bodyOf Try.f52)) (n := 27) (res := [.tmp 2]) (rs := .c .s) (ks := []) (dir := []) envOk mixed rfl Try.func52 (by kernel_rfl) (by kernel_rfl) (by kernel_rfl) (by kernel_rfl) (to_vc (by kernel_rfl) h)

/-- loop.example/g00461/impl.WorkText -/
def impl_WorkText_h : Hints := ⟨[], []⟩
theorem impl_WorkText_of {w : List (List Da)} {w1 : List (List Da)} {w2 : List (List Da)} {w3 : List (List Da)} {w4 : List (List Da)} {w5 : Bool} {r : AV} {O : List (Nat × Ob)} (h : (∃ (q : ByteArray), (XC Try.prog 87 [(Z ((↑(List.length w2) : Int)))] [] (T q) [] ∧ (Do (ByteArray.size ({ data := #[(108 : UInt8), (111 : UInt8), (103 : UInt8), (32 : UInt8)] } ++ q) ≤ (281474976710656 : Nat)) ∧ (Do (ByteArray.size ({ data := #[(108 : UInt8), (111 : UInt8), (103 : UInt8), (32 : UInt8)] } ++ q ++ { data := #[(32 : UInt8), (97 : UInt8), (99 : UInt8), (116 : UInt8), (105 : UInt8), (118 : UInt8), (101 : UInt8), (32 : UInt8)] }) ≤ (281474976710656 : Nat)) ∧ (∃ (q1 : ByteArray), (XC Try.prog 87 [(Z ((↑(List.length w3) : Int)))] [] (T q1) [] ∧ (Do (ByteArray.size ({ data := #[(108 : UInt8), (111 : UInt8), (103 : UInt8), (32 : UInt8)] } ++ q ++ { data := #[(32 : UInt8), (97 : UInt8), (99 : UInt8), (116 : UInt8), (105 : UInt8), (118 : UInt8), (101 : UInt8), (32 : UInt8)] } ++ q1) ≤ (281474976710656 : Nat)) ∧ (Do (ByteArray.size ({ data := #[(108 : UInt8), (111 : UInt8), (103 : UInt8), (32 : UInt8)] } ++ q ++ { data := #[(32 : UInt8), (97 : UInt8), (99 : UInt8), (116 : UInt8), (105 : UInt8), (118 : UInt8), (101 : UInt8), (32 : UInt8)] } ++ q1 ++ { data := #[(32 : UInt8), (112 : UInt8), (97 : UInt8), (115 : UInt8), (115 : UInt8), (105 : UInt8), (118 : UInt8), (101 : UInt8), (32 : UInt8)] }) ≤ (281474976710656 : Nat)) ∧ (∃ (q2 : ByteArray), (XC Try.prog 87 [(Z ((↑(List.length w4) : Int)))] [] (T q2) [] ∧ (Do (ByteArray.size ({ data := #[(108 : UInt8), (111 : UInt8), (103 : UInt8), (32 : UInt8)] } ++ q ++ { data := #[(32 : UInt8), (97 : UInt8), (99 : UInt8), (116 : UInt8), (105 : UInt8), (118 : UInt8), (101 : UInt8), (32 : UInt8)] } ++ q1 ++ { data := #[(32 : UInt8), (112 : UInt8), (97 : UInt8), (115 : UInt8), (115 : UInt8), (105 : UInt8), (118 : UInt8), (101 : UInt8), (32 : UInt8)] } ++ q2) ≤ (281474976710656 : Nat)) ∧ ifB w5
  ((Do (ByteArray.size ({ data := #[(108 : UInt8), (111 : UInt8), (103 : UInt8), (32 : UInt8)] } ++ q ++ { data := #[(32 : UInt8), (97 : UInt8), (99 : UInt8), (116 : UInt8), (105 : UInt8), (118 : UInt8), (101 : UInt8), (32 : UInt8)] } ++ q1 ++ { data := #[(32 : UInt8), (112 : UInt8), (97 : UInt8), (115 : UInt8), (115 : UInt8), (105 : UInt8), (118 : UInt8), (101 : UInt8), (32 : UInt8)] } ++ q2 ++ { data := #[(32 : UInt8), (108 : UInt8), (111 : UInt8), (115 : UInt8), (116 : UInt8)] }) ≤ (281474976710656 : Nat)) ∧ (Do (ByteArray.size ({ data := #[(108 : UInt8), (111 : UInt8), (103 : UInt8), (32 : UInt8)] } ++ q ++ { data := #[(32 : UInt8), (97 : UInt8), (99 : UInt8), (116 : UInt8), (105 : UInt8), (118 : UInt8), (101 : UInt8), (32 : UInt8)] } ++ q1 ++ { data := #[(32 : UInt8), (112 : UInt8), (97 : UInt8), (115 : UInt8), (115 : UInt8), (105 : UInt8), (118 : UInt8), (101 : UInt8), (32 : UInt8)] } ++ q2 ++ { data := #[(32 : UInt8), (108 : UInt8), (111 : UInt8), (115 : UInt8), (116 : UInt8)] } ++ { data := #[(10 : UInt8)] }) ≤ (281474976710656 : Nat)) ∧ ((T ({ data := #[(108 : UInt8), (111 : UInt8), (103 : UInt8), (32 : UInt8)] } ++ q ++ { data := #[(32 : UInt8), (97 : UInt8), (99 : UInt8), (116 : UInt8), (105 : UInt8), (118 : UInt8), (101 : UInt8), (32 : UInt8)] } ++ q1 ++ { data := #[(32 : UInt8), (112 : UInt8), (97 : UInt8), (115 : UInt8), (115 : UInt8), (105 : UInt8), (118 : UInt8), (101 : UInt8), (32 : UInt8)] } ++ q2 ++ { data := #[(32 : UInt8), (108 : UInt8), (111 : UInt8), (115 : UInt8), (116 : UInt8)] } ++ { data := #[(10 : UInt8)] })) = r ∧ [] = O))))
  ((Do (ByteArray.size ({ data := #[(108 : UInt8), (111 : UInt8), (103 : UInt8), (32 : UInt8)] } ++ q ++ { data := #[(32 : UInt8), (97 : UInt8), (99 : UInt8), (116 : UInt8), (105 : UInt8), (118 : UInt8), (101 : UInt8), (32 : UInt8)] } ++ q1 ++ { data := #[(32 : UInt8), (112 : UInt8), (97 : UInt8), (115 : UInt8), (115 : UInt8), (105 : UInt8), (118 : UInt8), (101 : UInt8), (32 : UInt8)] } ++ q2 ++ { data := #[(10 : UInt8)] }) ≤ (281474976710656 : Nat)) ∧ ((T ({ data := #[(108 : UInt8), (111 : UInt8), (103 : UInt8), (32 : UInt8)] } ++ q ++ { data := #[(32 : UInt8), (97 : UInt8), (99 : UInt8), (116 : UInt8), (105 : UInt8), (118 : UInt8), (101 : UInt8), (32 : UInt8)] } ++ q1 ++ { data := #[(32 : UInt8), (112 : UInt8), (97 : UInt8), (115 : UInt8), (115 : UInt8), (105 : UInt8), (118 : UInt8), (101 : UInt8), (32 : UInt8)] } ++ q2 ++ { data := #[(10 : UInt8)] })) = r ∧ [] = O))))))))))))))) : XC Try.prog 53 [(.dat [(.sl w), (.sl w1), (.sl w2), (.sl w3), (.sl w4), (.bool w5)])] [] r O :=
  xc_of (E := env) (hs := impl_WorkText_h) (c := (bodyOf Try.f53)) (n := 27) (res := [.tmp 2]) (rs := .c .s) (ks := []) (dir := []) envOk mixed rfl Try.func53 (by kernel_rfl) (by kernel_rfl) (by kernel_rfl) (by kernel_rfl) (to_vc (by kernel_rfl) h)

/-- loop.example/g00461/laws.szRule -/
def laws_szRule_h : Hints := ⟨[], []⟩
theorem laws_szRule_of {a : Int} {a1 : Int} {a2 : List (List Da)} {a3 : Int} {a4 : Int} {a5 : List (List Da)} {left : Int} {r : AV} {O : List (Nat × Ob)} (h : (∃ (n : Int), (XC Try.prog 69 [(.dat [(.int .i64 a), (.int .i64 a1), (.sl a2)]), (Z left)] [] (Z n) [] ∧ ifB (decide (n < (0 : Int)))
  (((Z ((-1 : Int))) = r ∧ [] = O))
  ((∃ (n1 : Int), (XC Try.prog 69 [(.dat [(.int .i64 a3), (.int .i64 a4), (.sl a5)]), (Z n)] [] (Z n1) [] ∧ ifB (decide (n1 < (0 : Int)))
  (((Z ((-1 : Int))) = r ∧ [] = O))
  (((Z n1) = r ∧ [] = O)))))))) : XC Try.prog 54 [(.dat [(.int .i64 a), (.int .i64 a1), (.sl a2), (.int .i64 a3), (.int .i64 a4), (.sl a5)]), (Z left)] [] r O :=
  xc_of (E := env) (hs := laws_szRule_h) (c := (bodyOf Try.f54)) (n := 18) (res := [.tmp 4]) (rs := .c (.i .i64)) (ks := []) (dir := []) envOk mixed rfl Try.func54 (by kernel_rfl) (by kernel_rfl) (by kernel_rfl) (by kernel_rfl) (to_vc (by kernel_rfl) h)

/-- loop.example/g00461/laws.toRule -/
def laws_toRule_h : Hints := ⟨[], []⟩
theorem laws_toRule_of {a : Int} {a1 : Int} {a2 : List (List Da)} {a3 : Int} {a4 : Int} {a5 : List (List Da)} {r : AV} {O : List (Nat × Ob)} (h : (∃ (n : Int), (∃ (n1 : Int), (∃ (xs : List (List Da)), (XC Try.prog 72 [(.dat [(.int .i64 a), (.int .i64 a1), (.sl a2)])] [] (.dat [(.int .i64 n), (.int .i64 n1), (.sl xs)]) [] ∧ (∃ (n2 : Int), (∃ (n3 : Int), (∃ (xs1 : List (List Da)), (XC Try.prog 72 [(.dat [(.int .i64 a3), (.int .i64 a4), (.sl a5)])] [] (.dat [(.int .i64 n2), (.int .i64 n3), (.sl xs1)]) [] ∧ ((.dat [(.int .i64 n), (.int .i64 n1), (.sl xs), (.int .i64 n2), (.int .i64 n3), (.sl xs1)]) = r ∧ [] = O)))))))))) : XC Try.prog 56 [(.dat [(.int .i64 a), (.int .i64 a1), (.sl a2), (.int .i64 a3), (.int .i64 a4), (.sl a5)])] [] r O :=
  xc_of (E := env) (hs := laws_toRule_h) (c := (bodyOf Try.f56)) (n := 13) (res := [.cell 2 96]) (rs := .d [(.i .i64), (.i .i64), .l, (.i .i64), (.i .i64), .l]) (ks := []) (dir := []) envOk mixed rfl Try.func56 (by kernel_rfl) (by kernel_rfl) (by kernel_rfl) (by kernel_rfl) (to_vc (by kernel_rfl) h)

/-- loop.example/g00461/spec.RuleOk -/
def spec_RuleOk_h : Hints := ⟨[(5, ⟨[3, 5, 6], [], [], []⟩)], []⟩
def spec_RuleOk_L5 (r : AV) (O : List (Nat × Ob)) (list : List (List Da)) (i : Int) (r_ : Int) (r_1 : Int) (r_2 : List (List Da)) (r_3 : Int) (r_4 : Int) (r_5 : List (List Da)) : Prop := CL 54 Try.prog (subC (bodyOf Try.f55) [1, 1, 1, 0, 1, 0, 0]) (kont Try.prog env spec_RuleOk_h 54 (bodyOf Try.f55) [1, 1, 1, 0, 1, 0, 0] (vRet env [.tmp 4] (.c .b) [] [] r O) (retKE (vRet env [.tmp 4] (.c .b) [] [] r O))).1 (kont Try.prog env spec_RuleOk_h 54 (bodyOf Try.f55) [1, 1, 1, 0, 1, 0, 0] (vRet env [.tmp 4] (.c .b) [] [] r O) (retKE (vRet env [.tmp 4] (.c .b) [] [] r O))).2 ⟨[(3, (.one (.op 1900 0))), (5, (L list)), (6, (Z i))], [(1900, (.var [(.d (.int .i64 r_)), (.d (.int .i64 r_1)), (.d (.sl r_2)), (.d (.int .i64 r_3)), (.d (.int .i64 r_4)), (.d (.sl r_5))]))]⟩
theorem spec_RuleOk_L5_of {r : AV} {O : List (Nat × Ob)} {list : List (List Da)} {i : Int} {r_ : Int} {r_1 : Int} {r_2 : List (List Da)} {r_3 : Int} {r_4 : Int} {r_5 : List (List Da)} (h : ifB (decide (i < (↑(List.length list) : Int)))
  ((∃ (m : Nat), (i = ((↑m : Int)) ∧ (∃ (n : Int), ((list[m]?) = some [(.int .i64 n)] ∧ (∃ (n1 : Int), (XC Try.prog 99 [(.dat [(.int .i64 r_), (.int .i64 r_1), (.sl r_2)]), (Z n)] [] (Z n1) [] ∧ ifB (decide (n1 = (0 : Int)))
  (((B (false)) = r ∧ [] = O))
  (spec_RuleOk_L5 r O list (IntKind.wrap IntKind.i64 (i + (1 : Int))) r_ r_1 r_2 r_3 r_4 r_5))))))))
  (((B (true)) = r ∧ [] = O))) : spec_RuleOk_L5 r O list i r_ r_1 r_2 r_3 r_4 r_5 := by
  unfold spec_RuleOk_L5
  refine cl_of (E := env) (hs := spec_RuleOk_h) envOk mixed ?_
  exact to_vc (by kernel_rfl) h
theorem spec_RuleOk_of {s : List (List Da)} {r_ : Int} {r_1 : Int} {r_2 : List (List Da)} {r_3 : Int} {r_4 : Int} {r_5 : List (List Da)} {r : AV} {O : List (Nat × Ob)} (h : (∃ (b : Bool), (XC Try.prog 76 [(L s), (.dat [(.int .i64 r_), (.int .i64 r_1), (.sl r_2)])] [] (B b) [] ∧ ifB (!b)
  (((B (false)) = r ∧ [] = O))
  ((∃ (b1 : Bool), (XC Try.prog 76 [(L s), (.dat [(.int .i64 r_3), (.int .i64 r_4), (.sl r_5)])] [] (B b1) [] ∧ ifB (!b1)
  (((B (false)) = r ∧ [] = O))
  (ifB (decide (r_ = (-1 : Int)))
  (((B (false)) = r ∧ [] = O))
  ((∃ (b2 : Bool), (XC Try.prog 97 [(.dat [(.int .i64 r_), (.int .i64 r_1), (.sl r_2)]), (Z ((60 : Int)))] [] (B b2) [] ∧ ifB (!b2)
  (((B (false)) = r ∧ [] = O))
  ((∃ (b3 : Bool), (XC Try.prog 97 [(.dat [(.int .i64 r_3), (.int .i64 r_4), (.sl r_5)]), (Z ((60 : Int)))] [] (B b3) [] ∧ ifB (!b3)
  (((B (false)) = r ∧ [] = O))
  ((∃ (xs : List (List Da)), (XC Try.prog 98 [(.dat [(.int .i64 r_3), (.int .i64 r_4), (.sl r_5)])] [] (L xs) [] ∧ spec_RuleOk_L5 r O xs ((0 : Int)) r_ r_1 r_2 r_3 r_4 r_5)))))))))))))))) : XC Try.prog 55 [(L s), (.dat [(.int .i64 r_), (.int .i64 r_1), (.sl r_2), (.int .i64 r_3), (.int .i64 r_4), (.sl r_5)])] [] r O :=
  xc_of (E := env) (hs := spec_RuleOk_h) (c := (bodyOf Try.f55)) (n := 54) (res := [.tmp 4]) (rs := .c .b) (ks := []) (dir := []) envOk mixed rfl Try.func55 (by kernel_rfl) (by kernel_rfl) (by kernel_rfl) (by kernel_rfl) (to_vc (by kernel_rfl) h)

/-- loop.example/g00461/impl.RuleOk -/
def impl_RuleOk_h : Hints := ⟨[], []⟩
theorem impl_RuleOk_of {s : List (List Da)} {r_ : Int} {r_1 : Int} {r_2 : List (List Da)} {r_3 : Int} {r_4 : Int} {r_5 : List (List Da)} {r : AV} {O : List (Nat × Ob)} (h : (∃ (xs : List (List Da)), (XC Try.prog 100 [(.dat [(.int .i64 r_), (.int .i64 r_1), (.sl r_2)])] [] (L xs) [] ∧ (∃ (b : Bool), (XC Try.prog 78 [(L s), (.dat [(.int .i64 r_), (.int .i64 r_1), (.sl r_2)])] [] (B b) [] ∧ ifB (!b)
  (((B (false)) = r ∧ [] = O))
  ((∃ (b1 : Bool), (XC Try.prog 78 [(L s), (.dat [(.int .i64 r_3), (.int .i64 r_4), (.sl r_5)])] [] (B b1) [] ∧ ifB (!b1)
  (((B (false)) = r ∧ [] = O))
  ((∃ (b2 : Bool), (XC Try.prog 101 [(.dat [(.int .i64 r_), (.int .i64 r_1), (.sl r_2)])] [] (B b2) [] ∧ ifB b2
  (((B (false)) = r ∧ [] = O))
  ((∃ (b3 : Bool), (XC Try.prog 102 [(L xs), (.one (.d (.fn 103)))] [] (B b3) [] ∧ ifB b3
  (((B (false)) = r ∧ [] = O))
  ((∃ (xs1 : List (List Da)), (XC Try.prog 100 [(.dat [(.int .i64 r_3), (.int .i64 r_4), (.sl r_5)])] [] (L xs1) [] ∧ (∃ (b4 : Bool), (∃ (xs2 : List (List Da)), (XC Try.prog 102 [(L xs1), (.one (.clo 104 [(2000, 0)]))] [(2000, (.var [(.d (.sl xs))]))] (B b4) [(2000, (.var [(.d (.sl xs2))]))] ∧ ((B (!b4)) = r ∧ [] = O))))))))))))))))))))) : XC Try.prog 57 [(L s), (.dat [(.int .i64 r_), (.int .i64 r_1), (.sl r_2), (.int .i64 r_3), (.int .i64 r_4), (.sl r_5)])] [] r O :=
  xc_of (E := env) (hs := impl_RuleOk_h) (c := (bodyOf Try.f57)) (n := 36) (res := [.tmp 4]) (rs := .c .b) (ks := []) (dir := []) envOk mixed rfl Try.func57 (by kernel_rfl) (by kernel_rfl) (by kernel_rfl) (by kernel_rfl) (to_vc (by kernel_rfl) h)

/-- loop.example/g00461/laws.eqRule -/
def laws_eqRule_h : Hints := ⟨[], []⟩
theorem laws_eqRule_of {a : Int} {a1 : Int} {a2 : List (List Da)} {a3 : Int} {a4 : Int} {a5 : List (List Da)} {b : Int} {b1 : Int} {b2 : List (List Da)} {b3 : Int} {b4 : Int} {b5 : List (List Da)} {r : AV} {O : List (Nat × Ob)} (h : (∃ (b6 : Bool), (XC Try.prog 75 [(.dat [(.int .i64 a), (.int .i64 a1), (.sl a2)]), (.dat [(.int .i64 b), (.int .i64 b1), (.sl b2)])] [] (B b6) [] ∧ ifB (!b6)
  (((B (false)) = r ∧ [] = O))
  ((∃ (b7 : Bool), (XC Try.prog 75 [(.dat [(.int .i64 a3), (.int .i64 a4), (.sl a5)]), (.dat [(.int .i64 b3), (.int .i64 b4), (.sl b5)])] [] (B b7) [] ∧ ifB (!b7)
  (((B (false)) = r ∧ [] = O))
  (((B (true)) = r ∧ [] = O)))))))) : XC Try.prog 58 [(.dat [(.int .i64 a), (.int .i64 a1), (.sl a2), (.int .i64 a3), (.int .i64 a4), (.sl a5)]), (.dat [(.int .i64 b), (.int .i64 b1), (.sl b2), (.int .i64 b3), (.int .i64 b4), (.sl b5)])] [] r O :=
  xc_of (E := env) (hs := laws_eqRule_h) (c := (bodyOf Try.f58)) (n := 17) (res := [.tmp 4]) (rs := .c .b) (ks := []) (dir := []) envOk mixed rfl Try.func58 (by kernel_rfl) (by kernel_rfl) (by kernel_rfl) (by kernel_rfl) (to_vc (by kernel_rfl) h)

/-- loop.example/g00461/spec.ClauseVars -/
def spec_ClauseVars_h : Hints := ⟨[(3, ⟨[1, 3, 4], [], [], []⟩)], []⟩
def spec_ClauseVars_L3 (r : AV) (O : List (Nat × Ob)) (i : Int) (c : List (List Da)) (out : List (List Da)) : Prop := CL 29 Try.prog (subC (bodyOf Try.f59) [1, 1, 0, 1, 0, 0]) (kont Try.prog env spec_ClauseVars_h 29 (bodyOf Try.f59) [1, 1, 0, 1, 0, 0] (vRet env [.tmp 2] (.c .l) [] [] r O) (retKE (vRet env [.tmp 2] (.c .l) [] [] r O))).1 (kont Try.prog env spec_ClauseVars_h 29 (bodyOf Try.f59) [1, 1, 0, 1, 0, 0] (vRet env [.tmp 2] (.c .l) [] [] r O) (retKE (vRet env [.tmp 2] (.c .l) [] [] r O))).2 ⟨[(1, (.one (.op 1900 0))), (3, (.one (.ol 1901))), (4, (Z i))], [(1900, (.var [(.d (.sl c))])), (1901, (.lst 3 1 out))]⟩
theorem spec_ClauseVars_L3_of {r : AV} {O : List (Nat × Ob)} {i : Int} {c : List (List Da)} {out : List (List Da)} (h : ifB (decide (i < (↑(List.length c) : Int)))
  ((∃ (m : Nat), (i = ((↑m : Int)) ∧ (∃ (b : Bool), (∃ (n : Int), (∃ (n1 : Int), (∃ (xs : List (List Da)), (∃ (n2 : Int), (∃ (n3 : Int), (∃ (xs1 : List (List Da)), ((c[m]?) = some [(.bool b), (.int .i64 n), (.int .i64 n1), (.sl xs), (.int .i64 n2), (.int .i64 n3), (.sl xs1)] ∧ (∃ (m1 : Nat), (i = ((↑m1 : Int)) ∧ (∃ (b1 : Bool), (∃ (n4 : Int), (∃ (n5 : Int), (∃ (xs2 : List (List Da)), (∃ (n6 : Int), (∃ (n7 : Int), (∃ (xs3 : List (List Da)), ((c[m1]?) = some [(.bool b1), (.int .i64 n4), (.int .i64 n5), (.sl xs2), (.int .i64 n6), (.int .i64 n7), (.sl xs3)] ∧ Stop 5 13)))))))))))))))))))))
  (((L out) = r ∧ [] = O))) : spec_ClauseVars_L3 r O i c out := by
  unfold spec_ClauseVars_L3
  refine cl_of (E := env) (hs := spec_ClauseVars_h) envOk mixed ?_
  exact to_vc (by kernel_rfl) h
theorem spec_ClauseVars_of {c : List (List Da)} {r : AV} {O : List (Nat × Ob)} (h : spec_ClauseVars_L3 r O ((0 : Int)) c []) : XC Try.prog 59 [(.dat [(.sl c)])] [] r O :=
  xc_of (E := env) (hs := spec_ClauseVars_h) (c := (bodyOf Try.f59)) (n := 29) (res := [.tmp 2]) (rs := .c .l) (ks := []) (dir := []) envOk mixed rfl Try.func59 (by kernel_rfl) (by kernel_rfl) (by kernel_rfl) (by kernel_rfl) (to_vc (by kernel_rfl) h)

/-- loop.example/g00461/impl.ClauseVars -/
def impl_ClauseVars_h : Hints := ⟨[(3, ⟨[3, 10, 11, 12], [], [], []⟩), (6, ⟨[3, 10, 11, 12, 23, 24, 25], [], [], []⟩)], []⟩
def impl_ClauseVars_L3 (r : AV) (O : List (Nat × Ob)) (s10 : List (List Da)) (s11 : Int) (s12 : Int) (out : List (List Da)) : Prop := CL 35 Try.prog (subC (bodyOf Try.f60) [1, 1, 0, 1, 0, 0]) (kont Try.prog env impl_ClauseVars_h 35 (bodyOf Try.f60) [1, 1, 0, 1, 0, 0] (vRet env [.tmp 2] (.c .l) [] [] r O) (retKE (vRet env [.tmp 2] (.c .l) [] [] r O))).1 (kont Try.prog env impl_ClauseVars_h 35 (bodyOf Try.f60) [1, 1, 0, 1, 0, 0] (vRet env [.tmp 2] (.c .l) [] [] r O) (retKE (vRet env [.tmp 2] (.c .l) [] [] r O))).2 ⟨[(3, (.one (.ol 1900))), (10, (L s10)), (11, (Z s11)), (12, (Z s12))], [(1900, (.lst 3 1 out))]⟩
theorem impl_ClauseVars_L3_of {r : AV} {O : List (Nat × Ob)} {s10 : List (List Da)} {s11 : Int} {s12 : Int} {out : List (List Da)} (h : ifB (decide (s12 < s11))
  ((∃ (m : Nat), (s12 = ((↑m : Int)) ∧ (∃ (b : Bool), (∃ (n : Int), (∃ (n1 : Int), (∃ (xs : List (List Da)), (∃ (n2 : Int), (∃ (n3 : Int), (∃ (xs1 : List (List Da)), ((s10[m]?) = some [(.bool b), (.int .i64 n), (.int .i64 n1), (.sl xs), (.int .i64 n2), (.int .i64 n3), (.sl xs1)] ∧ (∃ (xs2 : List (List Da)), (XC Try.prog 100 [(.dat [(.int .i64 n), (.int .i64 n1), (.sl xs)])] [] (L xs2) [] ∧ (∃ (xs3 : List (List Da)), (XC Try.prog 100 [(.dat [(.int .i64 n2), (.int .i64 n3), (.sl xs1)])] [] (L xs3) [] ∧ Stop 5 7)))))))))))))))
  (((L out) = r ∧ [] = O))) : impl_ClauseVars_L3 r O s10 s11 s12 out := by
  unfold impl_ClauseVars_L3
  refine cl_of (E := env) (hs := impl_ClauseVars_h) envOk mixed ?_
  exact to_vc (by kernel_rfl) h
theorem impl_ClauseVars_of {c : List (List Da)} {r : AV} {O : List (Nat × Ob)} (h : impl_ClauseVars_L3 r O c ((↑(List.length c) : Int)) ((0 : Int)) []) : XC Try.prog 60 [(.dat [(.sl c)])] [] r O :=
  xc_of (E := env) (hs := impl_ClauseVars_h) (c := (bodyOf Try.f60)) (n := 35) (res := [.tmp 2]) (rs := .c .l) (ks := []) (dir := []) envOk mixed rfl Try.func60 (by kernel_rfl) (by kernel_rfl) (by kernel_rfl) (by kernel_rfl) (to_vc (by kernel_rfl) h)

/-- loop.example/g00461/laws.eqIntS -/
def laws_eqIntS_h : Hints := ⟨[(4, ⟨[0, 1, 5], [], [], []⟩)], []⟩
def laws_eqIntS_L4 (r : AV) (O : List (Nat × Ob)) (a : List (List Da)) (b : List (List Da)) (i : Int) : Prop := CL 26 Try.prog (subC (bodyOf Try.f61) [1, 1, 0, 1, 0, 0]) (kont Try.prog env laws_eqIntS_h 26 (bodyOf Try.f61) [1, 1, 0, 1, 0, 0] (vRet env [.tmp 4] (.c .b) [] [] r O) (retKE (vRet env [.tmp 4] (.c .b) [] [] r O))).1 (kont Try.prog env laws_eqIntS_h 26 (bodyOf Try.f61) [1, 1, 0, 1, 0, 0] (vRet env [.tmp 4] (.c .b) [] [] r O) (retKE (vRet env [.tmp 4] (.c .b) [] [] r O))).2 ⟨[(0, (L a)), (1, (L b)), (5, (Z i))], []⟩
theorem laws_eqIntS_L4_of {r : AV} {O : List (Nat × Ob)} {a : List (List Da)} {b : List (List Da)} {i : Int} (h : ifB (decide (i < (↑(List.length a) : Int)))
  ((∃ (m : Nat), (i = ((↑m : Int)) ∧ (∃ (n : Int), ((a[m]?) = some [(.int .i64 n)] ∧ (∃ (m1 : Nat), (i = ((↑m1 : Int)) ∧ (∃ (n1 : Int), ((b[m1]?) = some [(.int .i64 n1)] ∧ ifB (decide (n ≠ n1))
  (((B (false)) = r ∧ [] = O))
  (laws_eqIntS_L4 r O a b (IntKind.wrap IntKind.i64 (i + (1 : Int)))))))))))))
  (((B (true)) = r ∧ [] = O))) : laws_eqIntS_L4 r O a b i := by
  unfold laws_eqIntS_L4
  refine cl_of (E := env) (hs := laws_eqIntS_h) envOk mixed ?_
  exact to_vc (by kernel_rfl) h
theorem laws_eqIntS_of {a : List (List Da)} {b : List (List Da)} {r : AV} {O : List (Nat × Ob)} (h : ifB (decide ((↑(List.length a) : Int) ≠ (↑(List.length b) : Int)))
  (((B (false)) = r ∧ [] = O))
  (laws_eqIntS_L4 r O a b ((0 : Int)))) : XC Try.prog 61 [(L a), (L b)] [] r O :=
  xc_of (E := env) (hs := laws_eqIntS_h) (c := (bodyOf Try.f61)) (n := 26) (res := [.tmp 4]) (rs := .c .b) (ks := []) (dir := []) envOk mixed rfl Try.func61 (by kernel_rfl) (by kernel_rfl) (by kernel_rfl) (by kernel_rfl) (to_vc (by kernel_rfl) h)

/-- loop.example/g00461/laws.markClause -/
def laws_markClause_h : Hints := ⟨[], []⟩
theorem laws_markClause_of {a : List (List Da)} {k : Int} {r : AV} {O : List (Nat × Ob)} (h : (∃ (n : Int), (XC Try.prog 109 [(L a), (Z k)] [] (Z n) [] ∧ ((Z n) = r ∧ [] = O)))) : XC Try.prog 62 [(.dat [(.sl a)]), (Z k)] [] r O :=
  xc_of (E := env) (hs := laws_markClause_h) (c := (bodyOf Try.f62)) (n := 10) (res := [.tmp 4]) (rs := .c (.i .i64)) (ks := []) (dir := []) envOk mixed rfl Try.func62 (by kernel_rfl) (by kernel_rfl) (by kernel_rfl) (by kernel_rfl) (to_vc (by kernel_rfl) h)

/-- loop.example/g00461/laws.markIntS -/
def laws_markIntS_h : Hints := ⟨[(2, ⟨[0, 1, 5], [], [], []⟩)], []⟩
def laws_markIntS_L2 (r : AV) (O : List (Nat × Ob)) (a : List (List Da)) (k : Int) (i : Int) : Prop := CL 19 Try.prog (subC (bodyOf Try.f63) [1, 0, 1, 0, 0]) (kont Try.prog env laws_markIntS_h 19 (bodyOf Try.f63) [1, 0, 1, 0, 0] (vRet env [.tmp 4] (.c (.i .i64)) [] [] r O) (retKE (vRet env [.tmp 4] (.c (.i .i64)) [] [] r O))).1 (kont Try.prog env laws_markIntS_h 19 (bodyOf Try.f63) [1, 0, 1, 0, 0] (vRet env [.tmp 4] (.c (.i .i64)) [] [] r O) (retKE (vRet env [.tmp 4] (.c (.i .i64)) [] [] r O))).2 ⟨[(0, (L a)), (1, (Z k)), (5, (Z i))], []⟩
theorem laws_markIntS_L2_of {r : AV} {O : List (Nat × Ob)} {a : List (List Da)} {k : Int} {i : Int} (h : ifB (decide (i < (↑(List.length a) : Int)))
  ((∃ (m : Nat), (i = ((↑m : Int)) ∧ (∃ (n : Int), ((a[m]?) = some [(.int .i64 n)] ∧ Stop 4 4)))))
  (((Z k) = r ∧ [] = O))) : laws_markIntS_L2 r O a k i := by
  unfold laws_markIntS_L2
  refine cl_of (E := env) (hs := laws_markIntS_h) envOk mixed ?_
  exact to_vc (by kernel_rfl) h
theorem laws_markIntS_of {a : List (List Da)} {k : Int} {r : AV} {O : List (Nat × Ob)} (h : laws_markIntS_L2 r O a k ((0 : Int))) : XC Try.prog 63 [(L a), (Z k)] [] r O :=
  xc_of (E := env) (hs := laws_markIntS_h) (c := (bodyOf Try.f63)) (n := 19) (res := [.tmp 4]) (rs := .c (.i .i64)) (ks := []) (dir := []) envOk mixed rfl Try.func63 (by kernel_rfl) (by kernel_rfl) (by kernel_rfl) (by kernel_rfl) (to_vc (by kernel_rfl) h)

/-- loop.example/g00461/laws.heldIntS -/
def laws_heldIntS_h : Hints := ⟨[(2, ⟨[0, 1, 5], [], [], []⟩)], []⟩
def laws_heldIntS_L2 (r : AV) (O : List (Nat × Ob)) (a : List (List Da)) (k : Int) (i : Int) : Prop := CL 21 Try.prog (subC (bodyOf Try.f64) [1, 0, 1, 0, 0]) (kont Try.prog env laws_heldIntS_h 21 (bodyOf Try.f64) [1, 0, 1, 0, 0] (vRet env [.tmp 4] (.c (.i .i64)) [] [] r O) (retKE (vRet env [.tmp 4] (.c (.i .i64)) [] [] r O))).1 (kont Try.prog env laws_heldIntS_h 21 (bodyOf Try.f64) [1, 0, 1, 0, 0] (vRet env [.tmp 4] (.c (.i .i64)) [] [] r O) (retKE (vRet env [.tmp 4] (.c (.i .i64)) [] [] r O))).2 ⟨[(0, (L a)), (1, (Z k)), (5, (Z i))], []⟩
theorem laws_heldIntS_L2_of {r : AV} {O : List (Nat × Ob)} {a : List (List Da)} {k : Int} {i : Int} (h : ifB (decide (i < (↑(List.length a) : Int)))
  ((∃ (m : Nat), (i = ((↑m : Int)) ∧ (∃ (n : Int), ((a[m]?) = some [(.int .i64 n)] ∧ ifB (decide (n ≠ k))
  (((Z ((-1 : Int))) = r ∧ [] = O))
  (laws_heldIntS_L2 r O a (IntKind.wrap IntKind.i64 (k + (1 : Int))) (IntKind.wrap IntKind.i64 (i + (1 : Int)))))))))
  (((Z k) = r ∧ [] = O))) : laws_heldIntS_L2 r O a k i := by
  unfold laws_heldIntS_L2
  refine cl_of (E := env) (hs := laws_heldIntS_h) envOk mixed ?_
  exact to_vc (by kernel_rfl) h
theorem laws_heldIntS_of {a : List (List Da)} {k : Int} {r : AV} {O : List (Nat × Ob)} (h : laws_heldIntS_L2 r O a k ((0 : Int))) : XC Try.prog 64 [(L a), (Z k)] [] r O :=
  xc_of (E := env) (hs := laws_heldIntS_h) (c := (bodyOf Try.f64)) (n := 21) (res := [.tmp 4]) (rs := .c (.i .i64)) (ks := []) (dir := []) envOk mixed rfl Try.func64 (by kernel_rfl) (by kernel_rfl) (by kernel_rfl) (by kernel_rfl) (to_vc (by kernel_rfl) h)

/-- loop.example/g00461/spec.Needs -/
def spec_Needs_h : Hints := ⟨[(6, ⟨[0, 5, 6], [5], [], []⟩)], []⟩
def spec_Needs_L6 (r : AV) (O : List (Nat × Ob)) (s0 : List (List Da)) (s5 : List (List Da)) (s6 : Int) : Prop := CL 83 Try.prog (subC (bodyOf Try.f65) [1, 1, 1, 1, 0, 1, 0, 0]) (kont Try.prog env spec_Needs_h 83 (bodyOf Try.f65) [1, 1, 1, 1, 0, 1, 0, 0] (vRet env [.tmp 4] (.c .l) [] [] r O) (retKE (vRet env [.tmp 4] (.c .l) [] [] r O))).1 (kont Try.prog env spec_Needs_h 83 (bodyOf Try.f65) [1, 1, 1, 1, 0, 1, 0, 0] (vRet env [.tmp 4] (.c .l) [] [] r O) (retKE (vRet env [.tmp 4] (.c .l) [] [] r O))).2 ⟨[(0, (L s0)), (5, (L s5)), (6, (Z s6))], []⟩
theorem spec_Needs_L6_of {r : AV} {O : List (Nat × Ob)} {s0 : List (List Da)} {s5 : List (List Da)} {s6 : Int} (h : ifB (decide ((0 : Int) ≤ s6))
  ((∃ (b : Bool), (XC Try.prog 110 [(L s5), (Z s6)] [] (B b) [] ∧ ifB (!b)
  (spec_Needs_L6 r O s0 s5 (IntKind.wrap IntKind.i64 (s6 - (1 : Int))))
  ((∃ (m : Nat), (s6 = ((↑m : Int)) ∧ (∃ (n : Int), (∃ (n1 : Int), (∃ (n2 : Int), (∃ (n3 : Int), (∃ (n4 : Int), (∃ (b1 : Bool), (∃ (b2 : Bool), (∃ (xs : List (List Da)), (∃ (b3 : Bool), (∃ (xs1 : List (List Da)), (∃ (xs2 : List (List Da)), ((s0[m]?) = some [(.int .i64 n), (.int .i64 n1), (.int .i64 n2), (.int .i64 n3), (.int .i64 n4), (.bool b1), (.bool b2), (.sl xs), (.bool b3), (.sl xs1), (.sl xs2)] ∧ ifB (decide (n = (1 : Int)))
  (spec_Needs_L6 r O s0 s5 (IntKind.wrap IntKind.i64 (s6 - (1 : Int))))
  ((∃ (m1 : Nat), (s6 = ((↑m1 : Int)) ∧ (∃ (n5 : Int), (∃ (n6 : Int), (∃ (n7 : Int), (∃ (n8 : Int), (∃ (n9 : Int), (∃ (b4 : Bool), (∃ (b5 : Bool), (∃ (xs3 : List (List Da)), (∃ (b6 : Bool), (∃ (xs4 : List (List Da)), (∃ (xs5 : List (List Da)), ((s0[m1]?) = some [(.int .i64 n5), (.int .i64 n6), (.int .i64 n7), (.int .i64 n8), (.int .i64 n9), (.bool b4), (.bool b5), (.sl xs3), (.bool b6), (.sl xs4), (.sl xs5)] ∧ (∃ (b7 : Bool), (XC Try.prog 82 [(Z n6), (Z ((0 : Int))), (Z (IntKind.wrap IntKind.i64 (s6 - (1 : Int))))] [] (B b7) [] ∧ ifB b7
  ((∃ (m2 : Nat), (s6 = ((↑m2 : Int)) ∧ (∃ (n10 : Int), (∃ (n11 : Int), (∃ (n12 : Int), (∃ (n13 : Int), (∃ (n14 : Int), (∃ (b8 : Bool), (∃ (b9 : Bool), (∃ (xs6 : List (List Da)), (∃ (b10 : Bool), (∃ (xs7 : List (List Da)), (∃ (xs8 : List (List Da)), ((s0[m2]?) = some [(.int .i64 n10), (.int .i64 n11), (.int .i64 n12), (.int .i64 n13), (.int .i64 n14), (.bool b8), (.bool b9), (.sl xs6), (.bool b10), (.sl xs7), (.sl xs8)] ∧ (∃ (xs9 : List (List Da)), (XC Try.prog 111 [(L s5), (Z n11)] [] (L xs9) [] ∧ (∃ (m3 : Nat), (s6 = ((↑m3 : Int)) ∧ (∃ (n15 : Int), (∃ (n16 : Int), (∃ (n17 : Int), (∃ (n18 : Int), (∃ (n19 : Int), (∃ (b11 : Bool), (∃ (b12 : Bool), (∃ (xs10 : List (List Da)), (∃ (b13 : Bool), (∃ (xs11 : List (List Da)), (∃ (xs12 : List (List Da)), ((s0[m3]?) = some [(.int .i64 n15), (.int .i64 n16), (.int .i64 n17), (.int .i64 n18), (.int .i64 n19), (.bool b11), (.bool b12), (.sl xs10), (.bool b13), (.sl xs11), (.sl xs12)] ∧ ifB (decide (n15 = (4 : Int)))
  ((∃ (m4 : Nat), (s6 = ((↑m4 : Int)) ∧ (∃ (n20 : Int), (∃ (n21 : Int), (∃ (n22 : Int), (∃ (n23 : Int), (∃ (n24 : Int), (∃ (b14 : Bool), (∃ (b15 : Bool), (∃ (xs13 : List (List Da)), (∃ (b16 : Bool), (∃ (xs14 : List (List Da)), (∃ (xs15 : List (List Da)), ((s0[m4]?) = some [(.int .i64 n20), (.int .i64 n21), (.int .i64 n22), (.int .i64 n23), (.int .i64 n24), (.bool b14), (.bool b15), (.sl xs13), (.bool b16), (.sl xs14), (.sl xs15)] ∧ (∃ (b17 : Bool), (XC Try.prog 82 [(Z n22), (Z ((0 : Int))), (Z (IntKind.wrap IntKind.i64 (s6 - (1 : Int))))] [] (B b17) [] ∧ ifB b17
  ((∃ (m5 : Nat), (s6 = ((↑m5 : Int)) ∧ (∃ (n25 : Int), (∃ (n26 : Int), (∃ (n27 : Int), (∃ (n28 : Int), (∃ (n29 : Int), (∃ (b18 : Bool), (∃ (b19 : Bool), (∃ (xs16 : List (List Da)), (∃ (b20 : Bool), (∃ (xs17 : List (List Da)), (∃ (xs18 : List (List Da)), ((s0[m5]?) = some [(.int .i64 n25), (.int .i64 n26), (.int .i64 n27), (.int .i64 n28), (.int .i64 n29), (.bool b18), (.bool b19), (.sl xs16), (.bool b20), (.sl xs17), (.sl xs18)] ∧ (∃ (xs19 : List (List Da)), (XC Try.prog 111 [(L xs9), (Z n27)] [] (L xs19) [] ∧ spec_Needs_L6 r O s0 xs19 (IntKind.wrap IntKind.i64 (s6 - (1 : Int))))))))))))))))))))
  (spec_Needs_L6 r O s0 xs9 (IntKind.wrap IntKind.i64 (s6 - (1 : Int)))))))))))))))))))))
  ((∃ (m6 : Nat), (s6 = ((↑m6 : Int)) ∧ (∃ (n30 : Int), (∃ (n31 : Int), (∃ (n32 : Int), (∃ (n33 : Int), (∃ (n34 : Int), (∃ (b21 : Bool), (∃ (b22 : Bool), (∃ (xs20 : List (List Da)), (∃ (b23 : Bool), (∃ (xs21 : List (List Da)), (∃ (xs22 : List (List Da)), ((s0[m6]?) = some [(.int .i64 n30), (.int .i64 n31), (.int .i64 n32), (.int .i64 n33), (.int .i64 n34), (.bool b21), (.bool b22), (.sl xs20), (.bool b23), (.sl xs21), (.sl xs22)] ∧ ifB (decide (n30 = (5 : Int)))
  ((∃ (m7 : Nat), (s6 = ((↑m7 : Int)) ∧ (∃ (n35 : Int), (∃ (n36 : Int), (∃ (n37 : Int), (∃ (n38 : Int), (∃ (n39 : Int), (∃ (b24 : Bool), (∃ (b25 : Bool), (∃ (xs23 : List (List Da)), (∃ (b26 : Bool), (∃ (xs24 : List (List Da)), (∃ (xs25 : List (List Da)), ((s0[m7]?) = some [(.int .i64 n35), (.int .i64 n36), (.int .i64 n37), (.int .i64 n38), (.int .i64 n39), (.bool b24), (.bool b25), (.sl xs23), (.bool b26), (.sl xs24), (.sl xs25)] ∧ (∃ (b27 : Bool), (XC Try.prog 82 [(Z n37), (Z ((0 : Int))), (Z (IntKind.wrap IntKind.i64 (s6 - (1 : Int))))] [] (B b27) [] ∧ ifB b27
  ((∃ (m8 : Nat), (s6 = ((↑m8 : Int)) ∧ (∃ (n40 : Int), (∃ (n41 : Int), (∃ (n42 : Int), (∃ (n43 : Int), (∃ (n44 : Int), (∃ (b28 : Bool), (∃ (b29 : Bool), (∃ (xs26 : List (List Da)), (∃ (b30 : Bool), (∃ (xs27 : List (List Da)), (∃ (xs28 : List (List Da)), ((s0[m8]?) = some [(.int .i64 n40), (.int .i64 n41), (.int .i64 n42), (.int .i64 n43), (.int .i64 n44), (.bool b28), (.bool b29), (.sl xs26), (.bool b30), (.sl xs27), (.sl xs28)] ∧ (∃ (xs29 : List (List Da)), (XC Try.prog 111 [(L xs9), (Z n42)] [] (L xs29) [] ∧ spec_Needs_L6 r O s0 xs29 (IntKind.wrap IntKind.i64 (s6 - (1 : Int))))))))))))))))))))
  (spec_Needs_L6 r O s0 xs9 (IntKind.wrap IntKind.i64 (s6 - (1 : Int)))))))))))))))))))))
  (spec_Needs_L6 r O s0 xs9 (IntKind.wrap IntKind.i64 (s6 - (1 : Int))))))))))))))))))))))))))))))))))))))))))))))))))
  ((∃ (m9 : Nat), (s6 = ((↑m9 : Int)) ∧ (∃ (n45 : Int), (∃ (n46 : Int), (∃ (n47 : Int), (∃ (n48 : Int), (∃ (n49 : Int), (∃ (b31 : Bool), (∃ (b32 : Bool), (∃ (xs30 : List (List Da)), (∃ (b33 : Bool), (∃ (xs31 : List (List Da)), (∃ (xs32 : List (List Da)), ((s0[m9]?) = some [(.int .i64 n45), (.int .i64 n46), (.int .i64 n47), (.int .i64 n48), (.int .i64 n49), (.bool b31), (.bool b32), (.sl xs30), (.bool b33), (.sl xs31), (.sl xs32)] ∧ ifB (decide (n45 = (4 : Int)))
  ((∃ (m10 : Nat), (s6 = ((↑m10 : Int)) ∧ (∃ (n50 : Int), (∃ (n51 : Int), (∃ (n52 : Int), (∃ (n53 : Int), (∃ (n54 : Int), (∃ (b34 : Bool), (∃ (b35 : Bool), (∃ (xs33 : List (List Da)), (∃ (b36 : Bool), (∃ (xs34 : List (List Da)), (∃ (xs35 : List (List Da)), ((s0[m10]?) = some [(.int .i64 n50), (.int .i64 n51), (.int .i64 n52), (.int .i64 n53), (.int .i64 n54), (.bool b34), (.bool b35), (.sl xs33), (.bool b36), (.sl xs34), (.sl xs35)] ∧ (∃ (b37 : Bool), (XC Try.prog 82 [(Z n52), (Z ((0 : Int))), (Z (IntKind.wrap IntKind.i64 (s6 - (1 : Int))))] [] (B b37) [] ∧ ifB b37
  ((∃ (m11 : Nat), (s6 = ((↑m11 : Int)) ∧ (∃ (n55 : Int), (∃ (n56 : Int), (∃ (n57 : Int), (∃ (n58 : Int), (∃ (n59 : Int), (∃ (b38 : Bool), (∃ (b39 : Bool), (∃ (xs36 : List (List Da)), (∃ (b40 : Bool), (∃ (xs37 : List (List Da)), (∃ (xs38 : List (List Da)), ((s0[m11]?) = some [(.int .i64 n55), (.int .i64 n56), (.int .i64 n57), (.int .i64 n58), (.int .i64 n59), (.bool b38), (.bool b39), (.sl xs36), (.bool b40), (.sl xs37), (.sl xs38)] ∧ (∃ (xs39 : List (List Da)), (XC Try.prog 111 [(L s5), (Z n57)] [] (L xs39) [] ∧ spec_Needs_L6 r O s0 xs39 (IntKind.wrap IntKind.i64 (s6 - (1 : Int))))))))))))))))))))
  (spec_Needs_L6 r O s0 s5 (IntKind.wrap IntKind.i64 (s6 - (1 : Int)))))))))))))))))))))
  ((∃ (m12 : Nat), (s6 = ((↑m12 : Int)) ∧ (∃ (n60 : Int), (∃ (n61 : Int), (∃ (n62 : Int), (∃ (n63 : Int), (∃ (n64 : Int), (∃ (b41 : Bool), (∃ (b42 : Bool), (∃ (xs40 : List (List Da)), (∃ (b43 : Bool), (∃ (xs41 : List (List Da)), (∃ (xs42 : List (List Da)), ((s0[m12]?) = some [(.int .i64 n60), (.int .i64 n61), (.int .i64 n62), (.int .i64 n63), (.int .i64 n64), (.bool b41), (.bool b42), (.sl xs40), (.bool b43), (.sl xs41), (.sl xs42)] ∧ ifB (decide (n60 = (5 : Int)))
  ((∃ (m13 : Nat), (s6 = ((↑m13 : Int)) ∧ (∃ (n65 : Int), (∃ (n66 : Int), (∃ (n67 : Int), (∃ (n68 : Int), (∃ (n69 : Int), (∃ (b44 : Bool), (∃ (b45 : Bool), (∃ (xs43 : List (List Da)), (∃ (b46 : Bool), (∃ (xs44 : List (List Da)), (∃ (xs45 : List (List Da)), ((s0[m13]?) = some [(.int .i64 n65), (.int .i64 n66), (.int .i64 n67), (.int .i64 n68), (.int .i64 n69), (.bool b44), (.bool b45), (.sl xs43), (.bool b46), (.sl xs44), (.sl xs45)] ∧ (∃ (b47 : Bool), (XC Try.prog 82 [(Z n67), (Z ((0 : Int))), (Z (IntKind.wrap IntKind.i64 (s6 - (1 : Int))))] [] (B b47) [] ∧ ifB b47
  ((∃ (m14 : Nat), (s6 = ((↑m14 : Int)) ∧ (∃ (n70 : Int), (∃ (n71 : Int), (∃ (n72 : Int), (∃ (n73 : Int), (∃ (n74 : Int), (∃ (b48 : Bool), (∃ (b49 : Bool), (∃ (xs46 : List (List Da)), (∃ (b50 : Bool), (∃ (xs47 : List (List Da)), (∃ (xs48 : List (List Da)), ((s0[m14]?) = some [(.int .i64 n70), (.int .i64 n71), (.int .i64 n72), (.int .i64 n73), (.int .i64 n74), (.bool b48), (.bool b49), (.sl xs46), (.bool b50), (.sl xs47), (.sl xs48)] ∧ (∃ (xs49 : List (List Da)), (XC Try.prog 111 [(L s5), (Z n72)] [] (L xs49) [] ∧ spec_Needs_L6 r O s0 xs49 (IntKind.wrap IntKind.i64 (s6 - (1 : Int))))))))))))))))))))
  (spec_Needs_L6 r O s0 s5 (IntKind.wrap IntKind.i64 (s6 - (1 : Int)))))))))))))))))))))
  (spec_Needs_L6 r O s0 s5 (IntKind.wrap IntKind.i64 (s6 - (1 : Int)))))))))))))))))))))))))))))))))))))))))))))))))))))))))))))))))))))
  (((L s5) = r ∧ [] = O))) : spec_Needs_L6 r O s0 s5 s6 := by
  unfold spec_Needs_L6
  refine cl_of (E := env) (hs := spec_Needs_h) envOk mixed ?_
  exact to_vc (by kernel_rfl) h
theorem spec_Needs_of {p : List (List Da)} {p1 : Int} {r : AV} {O : List (Nat × Ob)} (h : (∃ (b : Bool), (XC Try.prog 82 [(Z p1), (Z ((0 : Int))), (Z (IntKind.wrap IntKind.i64 ((↑(List.length p) : Int) - (1 : Int))))] [] (B b) [] ∧ ifB (!b)
  (((L []) = r ∧ [] = O))
  ((Do ((List.length ([] : List (List Da)) + List.length [[Da.int IntKind.i64 p1]]) * Prod.fst ((8 : Nat), [At.d (Da.int IntKind.i64 (0 : Int))]) ≤ (140737488355328 : Nat)) ∧ spec_Needs_L6 r O p ([] ++ [[Da.int IntKind.i64 p1]]) p1))))) : XC Try.prog 65 [(L p), (Z p1)] [] r O :=
  xc_of (E := env) (hs := spec_Needs_h) (c := (bodyOf Try.f65)) (n := 83) (res := [.tmp 4]) (rs := .c .l) (ks := []) (dir := []) envOk mixed rfl Try.func65 (by kernel_rfl) (by kernel_rfl) (by kernel_rfl) (by kernel_rfl) (to_vc (by kernel_rfl) h)

/-- loop.example/g00461/impl.Needs -/
def impl_Needs_h : Hints := ⟨[(5, ⟨[0, 5, 6], [5], [], []⟩), (9, ⟨[0, 5, 6, 27, 28, 29], [5], [], []⟩)], []⟩
def impl_Needs_L5 (r : AV) (O : List (Nat × Ob)) (log : List (List Da)) (out : List (List Da)) (i : Int) : Prop := CL 38 Try.prog (subC (bodyOf Try.f66) [1, 1, 1, 0, 1, 0, 0]) (kont Try.prog env impl_Needs_h 38 (bodyOf Try.f66) [1, 1, 1, 0, 1, 0, 0] (vRet env [.tmp 4] (.c .l) [] [] r O) (retKE (vRet env [.tmp 4] (.c .l) [] [] r O))).1 (kont Try.prog env impl_Needs_h 38 (bodyOf Try.f66) [1, 1, 1, 0, 1, 0, 0] (vRet env [.tmp 4] (.c .l) [] [] r O) (retKE (vRet env [.tmp 4] (.c .l) [] [] r O))).2 ⟨[(0, (L log)), (5, (L out)), (6, (Z i))], []⟩
def impl_Needs_L9 (r : AV) (O : List (Nat × Ob)) (log : List (List Da)) (out : List (List Da)) (i : Int) (s27 : List (List Da)) (s28 : Int) (s29 : Int) : Prop := CL 38 Try.prog (subC (bodyOf Try.f66) [1, 1, 1, 0, 1, 0, 0, 1, 0, 0, 1, 0, 1, 0, 0]) (kont Try.prog env impl_Needs_h 38 (bodyOf Try.f66) [1, 1, 1, 0, 1, 0, 0, 1, 0, 0, 1, 0, 1, 0, 0] (vRet env [.tmp 4] (.c .l) [] [] r O) (retKE (vRet env [.tmp 4] (.c .l) [] [] r O))).1 (kont Try.prog env impl_Needs_h 38 (bodyOf Try.f66) [1, 1, 1, 0, 1, 0, 0, 1, 0, 0, 1, 0, 1, 0, 0] (vRet env [.tmp 4] (.c .l) [] [] r O) (retKE (vRet env [.tmp 4] (.c .l) [] [] r O))).2 ⟨[(0, (L log)), (5, (L out)), (6, (Z i)), (27, (L s27)), (28, (Z s28)), (29, (Z s29))], []⟩
theorem impl_Needs_L5_of {r : AV} {O : List (Nat × Ob)} {log : List (List Da)} {out : List (List Da)} {i : Int} (h : ifB (decide ((0 : Int) ≤ i))
  ((∃ (b : Bool), (XC Try.prog 105 [(L out), (Z i)] [] (B b) [] ∧ ifB b
  ((∃ (xs : List (List Da)), (XC Try.prog 112 [(L log), (Z i)] [] (L xs) [] ∧ impl_Needs_L9 r O log out i xs ((↑(List.length xs) : Int)) ((0 : Int)))))
  (impl_Needs_L5 r O log out (IntKind.wrap IntKind.i64 (i - (1 : Int)))))))
  (((L out) = r ∧ [] = O))) : impl_Needs_L5 r O log out i := by
  unfold impl_Needs_L5
  refine cl_of (E := env) (hs := impl_Needs_h) envOk mixed ?_
  exact to_vc (by kernel_rfl) h
theorem impl_Needs_L9_of {r : AV} {O : List (Nat × Ob)} {log : List (List Da)} {out : List (List Da)} {i : Int} {s27 : List (List Da)} {s28 : Int} {s29 : Int} (h : ifB (decide (s29 < s28))
  ((∃ (m : Nat), (s29 = ((↑m : Int)) ∧ (∃ (n1 : Int), ((s27[m]?) = some [(.int .i64 n1)] ∧ (∃ (xs : List (List Da)), (XC Try.prog 108 [(L out), (Z n1)] [] (L xs) [] ∧ impl_Needs_L9 r O log xs i s27 s28 (IntKind.wrap IntKind.i64 (s29 + (1 : Int))))))))))
  (impl_Needs_L5 r O log out (IntKind.wrap IntKind.i64 (i - (1 : Int))))) : impl_Needs_L9 r O log out i s27 s28 s29 := by
  unfold impl_Needs_L9
  refine cl_of (E := env) (hs := impl_Needs_h) envOk mixed ?_
  exact to_vc (by kernel_rfl) h
theorem impl_Needs_of {log : List (List Da)} {n : Int} {r : AV} {O : List (Nat × Ob)} (h : (∃ (b : Bool), (XC Try.prog 86 [(Z n), (Z ((0 : Int))), (Z (IntKind.wrap IntKind.i64 ((↑(List.length log) : Int) - (1 : Int))))] [] (B b) [] ∧ ifB (!b)
  (((L []) = r ∧ [] = O))
  (impl_Needs_L5 r O log [[(.int .i64 n)]] n)))) : XC Try.prog 66 [(L log), (Z n)] [] r O :=
  xc_of (E := env) (hs := impl_Needs_h) (c := (bodyOf Try.f66)) (n := 38) (res := [.tmp 4]) (rs := .c .l) (ks := []) (dir := []) envOk mixed rfl Try.func66 (by kernel_rfl) (by kernel_rfl) (by kernel_rfl) (by kernel_rfl) (to_vc (by kernel_rfl) h)

/-- loop.example/g00461/laws.markStepS -/
def laws_markStepS_h : Hints := ⟨[(2, ⟨[0, 1, 5], [], [], []⟩)], []⟩
def laws_markStepS_L2 (r : AV) (O : List (Nat × Ob)) (s0 : List (List Da)) (s1 : Int) (s5 : Int) : Prop := CL 97 Try.prog (subC (bodyOf Try.f67) [1, 0, 1, 0, 0]) (kont Try.prog env laws_markStepS_h 97 (bodyOf Try.f67) [1, 0, 1, 0, 0] (vRet env [.tmp 4] (.c (.i .i64)) [] [] r O) (retKE (vRet env [.tmp 4] (.c (.i .i64)) [] [] r O))).1 (kont Try.prog env laws_markStepS_h 97 (bodyOf Try.f67) [1, 0, 1, 0, 0] (vRet env [.tmp 4] (.c (.i .i64)) [] [] r O) (retKE (vRet env [.tmp 4] (.c (.i .i64)) [] [] r O))).2 ⟨[(0, (L s0)), (1, (Z s1)), (5, (Z s5))], []⟩
theorem laws_markStepS_L2_of {r : AV} {O : List (Nat × Ob)} {s0 : List (List Da)} {s1 : Int} {s5 : Int} (h : ifB (decide (s5 < (↑(List.length s0) : Int)))
  ((∃ (m : Nat), (s5 = ((↑m : Int)) ∧ (∃ (n : Int), (∃ (n1 : Int), (∃ (n2 : Int), (∃ (n3 : Int), (∃ (n4 : Int), (∃ (b : Bool), (∃ (b1 : Bool), (∃ (xs : List (List Da)), (∃ (b2 : Bool), (∃ (xs1 : List (List Da)), (∃ (xs2 : List (List Da)), ((s0[m]?) = some [(.int .i64 n), (.int .i64 n1), (.int .i64 n2), (.int .i64 n3), (.int .i64 n4), (.bool b), (.bool b1), (.sl xs), (.bool b2), (.sl xs1), (.sl xs2)] ∧ Stop 4 5)))))))))))))))
  (((Z s1) = r ∧ [] = O))) : laws_markStepS_L2 r O s0 s1 s5 := by
  unfold laws_markStepS_L2
  refine cl_of (E := env) (hs := laws_markStepS_h) envOk mixed ?_
  exact to_vc (by kernel_rfl) h
theorem laws_markStepS_of {p : List (List Da)} {p1 : Int} {r : AV} {O : List (Nat × Ob)} (h : laws_markStepS_L2 r O p p1 ((0 : Int))) : XC Try.prog 67 [(L p), (Z p1)] [] r O :=
  xc_of (E := env) (hs := laws_markStepS_h) (c := (bodyOf Try.f67)) (n := 97) (res := [.tmp 4]) (rs := .c (.i .i64)) (ks := []) (dir := []) envOk mixed rfl Try.func67 (by kernel_rfl) (by kernel_rfl) (by kernel_rfl) (by kernel_rfl) (to_vc (by kernel_rfl) h)

/-- loop.example/g00461/laws.szSym -/
def laws_szSym_h : Hints := ⟨[], []⟩
theorem laws_szSym_of {a : ByteArray} {a1 : Int} {a2 : Bool} {left : Int} {r : AV} {O : List (Nat × Ob)} (h : ifB (decide (IntKind.wrap IntKind.i64 (left - (↑(ByteArray.size a) : Int)) < (0 : Int)))
  (((Z ((-1 : Int))) = r ∧ [] = O))
  (((Z (IntKind.wrap IntKind.i64 (left - (↑(ByteArray.size a) : Int)))) = r ∧ [] = O))) : XC Try.prog 68 [(.dat [(.str a), (.int .i64 a1), (.bool a2)]), (Z left)] [] r O :=
  xc_of (E := env) (hs := laws_szSym_h) (c := (bodyOf Try.f68)) (n := 13) (res := [.tmp 4]) (rs := .c (.i .i64)) (ks := []) (dir := []) envOk mixed rfl Try.func68 (by kernel_rfl) (by kernel_rfl) (by kernel_rfl) (by kernel_rfl) (to_vc (by kernel_rfl) h)

/-- loop.example/g00461/laws.szTerm -/
def laws_szTerm_h : Hints := ⟨[], []⟩
theorem laws_szTerm_of {a : Int} {a1 : Int} {a2 : List (List Da)} {left : Int} {r : AV} {O : List (Nat × Ob)} (h : (∃ (n : Int), (XC Try.prog 114 [(L a2), (Z left)] [] (Z n) [] ∧ ifB (decide (n < (0 : Int)))
  (((Z ((-1 : Int))) = r ∧ [] = O))
  (((Z n) = r ∧ [] = O))))) : XC Try.prog 69 [(.dat [(.int .i64 a), (.int .i64 a1), (.sl a2)]), (Z left)] [] r O :=
  xc_of (E := env) (hs := laws_szTerm_h) (c := (bodyOf Try.f69)) (n := 12) (res := [.tmp 4]) (rs := .c (.i .i64)) (ks := []) (dir := []) envOk mixed rfl Try.func69 (by kernel_rfl) (by kernel_rfl) (by kernel_rfl) (by kernel_rfl) (to_vc (by kernel_rfl) h)

/-- loop.example/g00461/laws.toSym -/
def laws_toSym_h : Hints := ⟨[], []⟩
theorem laws_toSym_of {a : ByteArray} {a1 : Int} {a2 : Bool} {r : AV} {O : List (Nat × Ob)} (h : ((.dat [(.str a), (.int .i64 a1), (.bool a2)]) = r ∧ [] = O)) : XC Try.prog 71 [(.dat [(.str a), (.int .i64 a1), (.bool a2)])] [] r O :=
  xc_of (E := env) (hs := laws_toSym_h) (c := (bodyOf Try.f71)) (n := 14) (res := [.cell 2 113]) (rs := .d [.s, (.i .i64), .b]) (ks := []) (dir := []) envOk mixed rfl Try.func71 (by kernel_rfl) (by kernel_rfl) (by kernel_rfl) (by kernel_rfl) (to_vc (by kernel_rfl) h)

/-- loop.example/g00461/laws.toTerm -/
def laws_toTerm_h : Hints := ⟨[], []⟩
theorem laws_toTerm_of {a : Int} {a1 : Int} {a2 : List (List Da)} {r : AV} {O : List (Nat × Ob)} (h : (∃ (xs : List (List Da)), (XC Try.prog 115 [(L a2)] [] (L xs) [] ∧ ((.dat [(.int .i64 a), (.int .i64 a1), (.sl xs)]) = r ∧ [] = O)))) : XC Try.prog 72 [(.dat [(.int .i64 a), (.int .i64 a1), (.sl a2)])] [] r O :=
  xc_of (E := env) (hs := laws_toTerm_h) (c := (bodyOf Try.f72)) (n := 15) (res := [.cell 2 35]) (rs := .d [(.i .i64), (.i .i64), .l]) (ks := []) (dir := []) envOk mixed rfl Try.func72 (by kernel_rfl) (by kernel_rfl) (by kernel_rfl) (by kernel_rfl) (to_vc (by kernel_rfl) h)

/-- loop.example/g00461/spec.TermText -/
def spec_TermText_h : Hints := ⟨[(7, ⟨[0, 3, 5, 6], [], [], []⟩)], []⟩
def spec_TermText_L7 (r : AV) (O : List (Nat × Ob)) (s : List (List Da)) (out : ByteArray) (i : Int) (t : Int) (t1 : Int) (t2 : List (List Da)) : Prop := CL 55 Try.prog (subC (bodyOf Try.f70) [1, 1, 1, 1, 0, 1, 0, 0]) (kont Try.prog env spec_TermText_h 55 (bodyOf Try.f70) [1, 1, 1, 1, 0, 1, 0, 0] (vRet env [.tmp 4] (.c .s) [] [] r O) (retKE (vRet env [.tmp 4] (.c .s) [] [] r O))).1 (kont Try.prog env spec_TermText_h 55 (bodyOf Try.f70) [1, 1, 1, 1, 0, 1, 0, 0] (vRet env [.tmp 4] (.c .s) [] [] r O) (retKE (vRet env [.tmp 4] (.c .s) [] [] r O))).2 ⟨[(0, (L s)), (3, (.one (.op 1900 0))), (5, (T out)), (6, (Z i))], [(1900, (.var [(.d (.int .i64 t)), (.d (.int .i64 t1)), (.d (.sl t2))]))]⟩
theorem spec_TermText_L7_of {r : AV} {O : List (Nat × Ob)} {s : List (List Da)} {out : ByteArray} {i : Int} {t : Int} {t1 : Int} {t2 : List (List Da)} (h : ifB (decide (i < (↑(List.length t2) : Int)))
  (ifB (decide (i = (0 : Int)))
  ((Do (ByteArray.size (out ++ { data := #[(40 : UInt8)] }) ≤ (281474976710656 : Nat)) ∧ (∃ (m : Nat), (i = ((↑m : Int)) ∧ (∃ (n : Int), (∃ (n1 : Int), (∃ (xs : List (List Da)), ((t2[m]?) = some [(.int .i64 n), (.int .i64 n1), (.sl xs)] ∧ (∃ (q : ByteArray), (XC Try.prog 70 [(L s), (.dat [(.int .i64 n), (.int .i64 n1), (.sl xs)])] [] (T q) [] ∧ (Do (ByteArray.size (out ++ { data := #[(40 : UInt8)] } ++ q) ≤ (281474976710656 : Nat)) ∧ spec_TermText_L7 r O s (out ++ { data := #[(40 : UInt8)] } ++ q) (IntKind.wrap IntKind.i64 (i + (1 : Int))) t t1 t2)))))))))))
  ((Do (ByteArray.size (out ++ { data := #[(44 : UInt8)] }) ≤ (281474976710656 : Nat)) ∧ (∃ (m1 : Nat), (i = ((↑m1 : Int)) ∧ (∃ (n2 : Int), (∃ (n3 : Int), (∃ (xs1 : List (List Da)), ((t2[m1]?) = some [(.int .i64 n2), (.int .i64 n3), (.sl xs1)] ∧ (∃ (q1 : ByteArray), (XC Try.prog 70 [(L s), (.dat [(.int .i64 n2), (.int .i64 n3), (.sl xs1)])] [] (T q1) [] ∧ (Do (ByteArray.size (out ++ { data := #[(44 : UInt8)] } ++ q1) ≤ (281474976710656 : Nat)) ∧ spec_TermText_L7 r O s (out ++ { data := #[(44 : UInt8)] } ++ q1) (IntKind.wrap IntKind.i64 (i + (1 : Int))) t t1 t2))))))))))))
  (ifB (decide ((0 : Int) < (↑(List.length t2) : Int)))
  ((Do (ByteArray.size (out ++ { data := #[(41 : UInt8)] }) ≤ (281474976710656 : Nat)) ∧ ((T (out ++ { data := #[(41 : UInt8)] })) = r ∧ [] = O)))
  (((T out) = r ∧ [] = O)))) : spec_TermText_L7 r O s out i t t1 t2 := by
  unfold spec_TermText_L7
  refine cl_of (E := env) (hs := spec_TermText_h) envOk mixed ?_
  exact to_vc (by kernel_rfl) h
theorem spec_TermText_of {s : List (List Da)} {t : Int} {t1 : Int} {t2 : List (List Da)} {r : AV} {O : List (Nat × Ob)} (h : ifB (decide (t = (-1 : Int)))
  ((∃ (q : ByteArray), (XC Try.prog 83 [(Z t1)] [] (T q) [] ∧ (Do (ByteArray.size ({ data := #[(88 : UInt8)] } ++ q) ≤ (281474976710656 : Nat)) ∧ ((T ({ data := #[(88 : UInt8)] } ++ q)) = r ∧ [] = O)))))
  ((∃ (b : Bool), (XC Try.prog 82 [(Z t), (Z ((0 : Int))), (Z (IntKind.wrap IntKind.i64 ((↑(List.length s) : Int) - (1 : Int))))] [] (B b) [] ∧ ifB b
  ((∃ (m : Nat), (t = ((↑m : Int)) ∧ (∃ (q1 : ByteArray), (∃ (n : Int), (∃ (b1 : Bool), ((s[m]?) = some [(.str q1), (.int .i64 n), (.bool b1)] ∧ spec_TermText_L7 r O s q1 ((0 : Int)) t t1 t2)))))))
  (spec_TermText_L7 r O s ({ data := #[(63 : UInt8)] }) ((0 : Int)) t t1 t2))))) : XC Try.prog 70 [(L s), (.dat [(.int .i64 t), (.int .i64 t1), (.sl t2)])] [] r O :=
  xc_of (E := env) (hs := spec_TermText_h) (c := (bodyOf Try.f70)) (n := 55) (res := [.tmp 4]) (rs := .c .s) (ks := []) (dir := []) envOk mixed rfl Try.func70 (by kernel_rfl) (by kernel_rfl) (by kernel_rfl) (by kernel_rfl) (to_vc (by kernel_rfl) h)

/-- loop.example/g00461/impl.TermText -/
def impl_TermText_h : Hints := ⟨[(10, ⟨[0, 5, 6, 32, 33, 34], [], [], []⟩)], []⟩
def impl_TermText_L10 (r : AV) (O : List (Nat × Ob)) (s : List (List Da)) (name : ByteArray) (s32 : List (List Da)) (s33 : Int) (s34 : Int) (parts : List (List Da)) : Prop := CL 51 Try.prog (subC (bodyOf Try.f73) [1, 1, 1, 1, 1, 1, 0, 1, 0, 0]) (kont Try.prog env impl_TermText_h 51 (bodyOf Try.f73) [1, 1, 1, 1, 1, 1, 0, 1, 0, 0] (vRet env [.tmp 4] (.c .s) [] [] r O) (retKE (vRet env [.tmp 4] (.c .s) [] [] r O))).1 (kont Try.prog env impl_TermText_h 51 (bodyOf Try.f73) [1, 1, 1, 1, 1, 1, 0, 1, 0, 0] (vRet env [.tmp 4] (.c .s) [] [] r O) (retKE (vRet env [.tmp 4] (.c .s) [] [] r O))).2 ⟨[(0, (L s)), (5, (T name)), (6, (.one (.ol 1900))), (32, (L s32)), (33, (Z s33)), (34, (Z s34))], [(1900, (.lst 9 1 parts))]⟩
theorem impl_TermText_L10_of {r : AV} {O : List (Nat × Ob)} {s : List (List Da)} {name : ByteArray} {s32 : List (List Da)} {s33 : Int} {s34 : Int} {parts : List (List Da)} (h : ifB (decide (s34 < s33))
  ((∃ (m : Nat), (s34 = ((↑m : Int)) ∧ (∃ (n : Int), (∃ (n1 : Int), (∃ (xs : List (List Da)), ((s32[m]?) = some [(.int .i64 n), (.int .i64 n1), (.sl xs)] ∧ (∃ (q : ByteArray), (XC Try.prog 73 [(L s), (.dat [(.int .i64 n), (.int .i64 n1), (.sl xs)])] [] (T q) [] ∧ (Do ((List.length parts + List.length [[Da.str q]]) * Prod.fst ((16 : Nat), [At.d (Da.str { data := #[] })]) ≤ (140737488355328 : Nat)) ∧ impl_TermText_L10 r O s name s32 s33 (IntKind.wrap IntKind.i64 (s34 + (1 : Int))) (parts ++ [[Da.str q]])))))))))))
  ((Do (ByteArray.size (name ++ { data := #[(40 : UInt8)] }) ≤ (281474976710656 : Nat)) ∧ (∃ (q1 : ByteArray), (XC Try.prog 93 [(L parts), (T ({ data := #[(44 : UInt8)] }))] [] (T q1) [] ∧ (Do (ByteArray.size (name ++ { data := #[(40 : UInt8)] } ++ q1) ≤ (281474976710656 : Nat)) ∧ (Do (ByteArray.size (name ++ { data := #[(40 : UInt8)] } ++ q1 ++ { data := #[(41 : UInt8)] }) ≤ (281474976710656 : Nat)) ∧ ((T (name ++ { data := #[(40 : UInt8)] } ++ q1 ++ { data := #[(41 : UInt8)] })) = r ∧ [] = O)))))))) : impl_TermText_L10 r O s name s32 s33 s34 parts := by
  unfold impl_TermText_L10
  refine cl_of (E := env) (hs := impl_TermText_h) envOk mixed ?_
  exact to_vc (by kernel_rfl) h
theorem impl_TermText_of {s : List (List Da)} {t : Int} {t1 : Int} {t2 : List (List Da)} {r : AV} {O : List (Nat × Ob)} (h : (∃ (b : Bool), (XC Try.prog 101 [(.dat [(.int .i64 t), (.int .i64 t1), (.sl t2)])] [] (B b) [] ∧ ifB b
  ((∃ (q : ByteArray), (XC Try.prog 87 [(Z t1)] [] (T q) [] ∧ (Do (ByteArray.size ({ data := #[(88 : UInt8)] } ++ q) ≤ (281474976710656 : Nat)) ∧ ((T ({ data := #[(88 : UInt8)] } ++ q)) = r ∧ [] = O)))))
  ((∃ (b1 : Bool), (XC Try.prog 116 [(L s), (Z t)] [] (B b1) [] ∧ ifB b1
  ((∃ (m : Nat), (t = ((↑m : Int)) ∧ (∃ (q1 : ByteArray), (∃ (n : Int), (∃ (b2 : Bool), ((s[m]?) = some [(.str q1), (.int .i64 n), (.bool b2)] ∧ ifB (decide ((↑(List.length t2) : Int) = (0 : Int)))
  (((T q1) = r ∧ [] = O))
  (impl_TermText_L10 r O s q1 t2 ((↑(List.length t2) : Int)) ((0 : Int)) []))))))))
  (ifB (decide ((↑(List.length t2) : Int) = (0 : Int)))
  (((T ({ data := #[(63 : UInt8)] })) = r ∧ [] = O))
  (impl_TermText_L10 r O s ({ data := #[(63 : UInt8)] }) t2 ((↑(List.length t2) : Int)) ((0 : Int)) [])))))))) : XC Try.prog 73 [(L s), (.dat [(.int .i64 t), (.int .i64 t1), (.sl t2)])] [] r O :=
  xc_of (E := env) (hs := impl_TermText_h) (c := (bodyOf Try.f73)) (n := 51) (res := [.tmp 4]) (rs := .c .s) (ks := []) (dir := []) envOk mixed rfl Try.func73 (by kernel_rfl) (by kernel_rfl) (by kernel_rfl) (by kernel_rfl) (to_vc (by kernel_rfl) h)

/-- loop.example/g00461/laws.eqSym -/
def laws_eqSym_h : Hints := ⟨[], []⟩
theorem laws_eqSym_of {a : ByteArray} {a1 : Int} {a2 : Bool} {b : ByteArray} {b1 : Int} {b2 : Bool} {r : AV} {O : List (Nat × Ob)} (h : ifB (decide (a ≠ b))
  (((B (false)) = r ∧ [] = O))
  (ifB (decide (a1 ≠ b1))
  (((B (false)) = r ∧ [] = O))
  (ifB (decide (a2 ≠ b2))
  (((B (false)) = r ∧ [] = O))
  (((B (true)) = r ∧ [] = O))))) : XC Try.prog 74 [(.dat [(.str a), (.int .i64 a1), (.bool a2)]), (.dat [(.str b), (.int .i64 b1), (.bool b2)])] [] r O :=
  xc_of (E := env) (hs := laws_eqSym_h) (c := (bodyOf Try.f74)) (n := 20) (res := [.tmp 4]) (rs := .c .b) (ks := []) (dir := []) envOk mixed rfl Try.func74 (by kernel_rfl) (by kernel_rfl) (by kernel_rfl) (by kernel_rfl) (to_vc (by kernel_rfl) h)

/-- loop.example/g00461/laws.eqTerm -/
def laws_eqTerm_h : Hints := ⟨[], []⟩
theorem laws_eqTerm_of {a : Int} {a1 : Int} {a2 : List (List Da)} {b : Int} {b1 : Int} {b2 : List (List Da)} {r : AV} {O : List (Nat × Ob)} (h : ifB (decide (a ≠ b))
  (((B (false)) = r ∧ [] = O))
  (ifB (decide (a1 ≠ b1))
  (((B (false)) = r ∧ [] = O))
  ((∃ (b3 : Bool), (XC Try.prog 117 [(L a2), (L b2)] [] (B b3) [] ∧ ifB (!b3)
  (((B (false)) = r ∧ [] = O))
  (((B (true)) = r ∧ [] = O))))))) : XC Try.prog 75 [(.dat [(.int .i64 a), (.int .i64 a1), (.sl a2)]), (.dat [(.int .i64 b), (.int .i64 b1), (.sl b2)])] [] r O :=
  xc_of (E := env) (hs := laws_eqTerm_h) (c := (bodyOf Try.f75)) (n := 21) (res := [.tmp 4]) (rs := .c .b) (ks := []) (dir := []) envOk mixed rfl Try.func75 (by kernel_rfl) (by kernel_rfl) (by kernel_rfl) (by kernel_rfl) (to_vc (by kernel_rfl) h)

/-- loop.example/g00461/spec.TermOk -/
def spec_TermOk_h : Hints := ⟨[], []⟩
theorem spec_TermOk_of {s : List (List Da)} {t : Int} {t1 : Int} {t2 : List (List Da)} {r : AV} {O : List (Nat × Ob)} (h : (∃ (b : Bool), (XC Try.prog 118 [(L s)] [] (B b) [] ∧ ifB b
  ((∃ (n : Int), (XC Try.prog 119 [(.dat [(.int .i64 t), (.int .i64 t1), (.sl t2)])] [] (Z n) [] ∧ ifB (decide (n ≤ (60 : Int)))
  ((∃ (b1 : Bool), (XC Try.prog 120 [(L s), (.dat [(.int .i64 t), (.int .i64 t1), (.sl t2)])] [] (B b1) [] ∧ ((B b1) = r ∧ [] = O))))
  (((B (false)) = r ∧ [] = O)))))
  (((B (false)) = r ∧ [] = O))))) : XC Try.prog 76 [(L s), (.dat [(.int .i64 t), (.int .i64 t1), (.sl t2)])] [] r O :=
  xc_of (E := env) (hs := spec_TermOk_h) (c := (bodyOf Try.f76)) (n := 17) (res := [.tmp 4]) (rs := .c .b) (ks := []) (dir := []) envOk mixed rfl Try.func76 (by kernel_rfl) (by kernel_rfl) (by kernel_rfl) (by kernel_rfl) (to_vc (by kernel_rfl) h)

/-- loop.example/g00461/spec.Before -/
def spec_Before_h : Hints := ⟨[(8, ⟨[2, 3, 5], [], [], []⟩)], []⟩
def spec_Before_L8 (r : AV) (O : List (Nat × Ob)) (s5 : Int) (s2 : Int) (s21 : Int) (s22 : List (List Da)) (s3 : Int) (s31 : Int) (s32 : List (List Da)) : Prop := CL 70 Try.prog (subC (bodyOf Try.f77) [1, 1, 1, 1, 0, 1, 0, 0]) (kont Try.prog env spec_Before_h 70 (bodyOf Try.f77) [1, 1, 1, 1, 0, 1, 0, 0] (vRet env [.tmp 4] (.c .b) [] [] r O) (retKE (vRet env [.tmp 4] (.c .b) [] [] r O))).1 (kont Try.prog env spec_Before_h 70 (bodyOf Try.f77) [1, 1, 1, 1, 0, 1, 0, 0] (vRet env [.tmp 4] (.c .b) [] [] r O) (retKE (vRet env [.tmp 4] (.c .b) [] [] r O))).2 ⟨[(2, (.one (.op 1900 0))), (3, (.one (.op 1901 0))), (5, (Z s5))], [(1900, (.var [(.d (.int .i64 s2)), (.d (.int .i64 s21)), (.d (.sl s22))])), (1901, (.var [(.d (.int .i64 s3)), (.d (.int .i64 s31)), (.d (.sl s32))]))]⟩
theorem spec_Before_L8_of {r : AV} {O : List (Nat × Ob)} {s5 : Int} {s2 : Int} {s21 : Int} {s22 : List (List Da)} {s3 : Int} {s31 : Int} {s32 : List (List Da)} (h : ifB (decide (s5 < (↑(List.length s22) : Int)))
  ((∃ (m : Nat), (s5 = ((↑m : Int)) ∧ (∃ (n : Int), (∃ (n1 : Int), (∃ (xs : List (List Da)), ((s22[m]?) = some [(.int .i64 n), (.int .i64 n1), (.sl xs)] ∧ (∃ (m1 : Nat), (s5 = ((↑m1 : Int)) ∧ (∃ (n2 : Int), (∃ (n3 : Int), (∃ (xs1 : List (List Da)), ((s32[m1]?) = some [(.int .i64 n2), (.int .i64 n3), (.sl xs1)] ∧ (∃ (b : Bool), (XC Try.prog 121 [(.dat [(.int .i64 n), (.int .i64 n1), (.sl xs)]), (.dat [(.int .i64 n2), (.int .i64 n3), (.sl xs1)])] [] (B b) [] ∧ ifB (!b)
  ((∃ (m2 : Nat), (s5 = ((↑m2 : Int)) ∧ (∃ (n4 : Int), (∃ (n5 : Int), (∃ (xs2 : List (List Da)), ((s22[m2]?) = some [(.int .i64 n4), (.int .i64 n5), (.sl xs2)] ∧ (∃ (m3 : Nat), (s5 = ((↑m3 : Int)) ∧ (∃ (n6 : Int), (∃ (n7 : Int), (∃ (xs3 : List (List Da)), ((s32[m3]?) = some [(.int .i64 n6), (.int .i64 n7), (.sl xs3)] ∧ (∃ (b1 : Bool), (XC Try.prog 77 [(.dat [(.int .i64 n4), (.int .i64 n5), (.sl xs2)]), (.dat [(.int .i64 n6), (.int .i64 n7), (.sl xs3)])] [] (B b1) [] ∧ ((B b1) = r ∧ [] = O))))))))))))))))
  (spec_Before_L8 r O (IntKind.wrap IntKind.i64 (s5 + (1 : Int))) s2 s21 s22 s3 s31 s32))))))))))))))))
  (((B (false)) = r ∧ [] = O))) : spec_Before_L8 r O s5 s2 s21 s22 s3 s31 s32 := by
  unfold spec_Before_L8
  refine cl_of (E := env) (hs := spec_Before_h) envOk mixed ?_
  exact to_vc (by kernel_rfl) h
theorem spec_Before_of {p : Int} {p1 : Int} {p2 : List (List Da)} {p3 : Int} {p4 : Int} {p5 : List (List Da)} {r : AV} {O : List (Nat × Ob)} (h : ifB (decide (p ≠ p3))
  (((B (decide (p < p3))) = r ∧ [] = O))
  (ifB (decide (p1 ≠ p4))
  (((B (decide (p1 < p4))) = r ∧ [] = O))
  (ifB (decide ((↑(List.length p2) : Int) ≠ (↑(List.length p5) : Int)))
  (((B (decide ((↑(List.length p2) : Int) < (↑(List.length p5) : Int)))) = r ∧ [] = O))
  (spec_Before_L8 r O ((0 : Int)) p p1 p2 p3 p4 p5)))) : XC Try.prog 77 [(.dat [(.int .i64 p), (.int .i64 p1), (.sl p2)]), (.dat [(.int .i64 p3), (.int .i64 p4), (.sl p5)])] [] r O :=
  xc_of (E := env) (hs := spec_Before_h) (c := (bodyOf Try.f77)) (n := 70) (res := [.tmp 4]) (rs := .c .b) (ks := []) (dir := []) envOk mixed rfl Try.func77 (by kernel_rfl) (by kernel_rfl) (by kernel_rfl) (by kernel_rfl) (to_vc (by kernel_rfl) h)

/-- loop.example/g00461/impl.TermOk -/
def impl_TermOk_h : Hints := ⟨[], []⟩
theorem impl_TermOk_of {s : List (List Da)} {t : Int} {t1 : Int} {t2 : List (List Da)} {r : AV} {O : List (Nat × Ob)} (h : (∃ (b : Bool), (XC Try.prog 122 [(L s)] [] (B b) [] ∧ ifB b
  ((∃ (n : Int), (XC Try.prog 123 [(.dat [(.int .i64 t), (.int .i64 t1), (.sl t2)])] [] (Z n) [] ∧ ifB (decide (n ≤ (60 : Int)))
  ((∃ (b1 : Bool), (XC Try.prog 124 [(L s), (.dat [(.int .i64 t), (.int .i64 t1), (.sl t2)])] [] (B b1) [] ∧ ((B b1) = r ∧ [] = O))))
  (((B (false)) = r ∧ [] = O)))))
  (((B (false)) = r ∧ [] = O))))) : XC Try.prog 78 [(L s), (.dat [(.int .i64 t), (.int .i64 t1), (.sl t2)])] [] r O :=
  xc_of (E := env) (hs := impl_TermOk_h) (c := (bodyOf Try.f78)) (n := 17) (res := [.tmp 4]) (rs := .c .b) (ks := []) (dir := []) envOk mixed rfl Try.func78 (by kernel_rfl) (by kernel_rfl) (by kernel_rfl) (by kernel_rfl) (to_vc (by kernel_rfl) h)

/-- loop.example/g00461/impl.Before -/
def impl_Before_h : Hints := ⟨[], []⟩
theorem impl_Before_of {a : Int} {a1 : Int} {a2 : List (List Da)} {b : Int} {b1 : Int} {b2 : List (List Da)} {r : AV} {O : List (Nat × Ob)} (h : (∃ (n : Int), (XC Try.prog 125 [(.dat [(.int .i64 a), (.int .i64 a1), (.sl a2)]), (.dat [(.int .i64 b), (.int .i64 b1), (.sl b2)])] [] (Z n) [] ∧ ((B (decide (n < (0 : Int)))) = r ∧ [] = O)))) : XC Try.prog 79 [(.dat [(.int .i64 a), (.int .i64 a1), (.sl a2)]), (.dat [(.int .i64 b), (.int .i64 b1), (.sl b2)])] [] r O :=
  xc_of (E := env) (hs := impl_Before_h) (c := (bodyOf Try.f79)) (n := 9) (res := [.tmp 4]) (rs := .c .b) (ks := []) (dir := []) envOk mixed rfl Try.func79 (by kernel_rfl) (by kernel_rfl) (by kernel_rfl) (by kernel_rfl) (to_vc (by kernel_rfl) h)

/-- loop.example/g00461/laws.szIntS -/
def laws_szIntS_h : Hints := ⟨[], []⟩
theorem laws_szIntS_of {a : List (List Da)} {left : Int} {r : AV} {O : List (Nat × Ob)} (h : ifB (decide (IntKind.wrap IntKind.i64 (left - (↑(List.length a) : Int)) < (0 : Int)))
  (((Z ((-1 : Int))) = r ∧ [] = O))
  (((Z (IntKind.wrap IntKind.i64 (left - (↑(List.length a) : Int)))) = r ∧ [] = O))) : XC Try.prog 80 [(L a), (Z left)] [] r O :=
  xc_of (E := env) (hs := laws_szIntS_h) (c := (bodyOf Try.f80)) (n := 12) (res := [.tmp 4]) (rs := .c (.i .i64)) (ks := []) (dir := []) envOk mixed rfl Try.func80 (by kernel_rfl) (by kernel_rfl) (by kernel_rfl) (by kernel_rfl) (to_vc (by kernel_rfl) h)

/-- loop.example/g00461/laws.szBindS -/
def laws_szBindS_h : Hints := ⟨[(5, ⟨[0, 1, 5], [], [], []⟩)], []⟩
def laws_szBindS_L5 (r : AV) (O : List (Nat × Ob)) (a : List (List Da)) (left : Int) (i : Int) : Prop := CL 27 Try.prog (subC (bodyOf Try.f81) [1, 1, 1, 0, 1, 0, 0]) (kont Try.prog env laws_szBindS_h 27 (bodyOf Try.f81) [1, 1, 1, 0, 1, 0, 0] (vRet env [.tmp 4] (.c (.i .i64)) [] [] r O) (retKE (vRet env [.tmp 4] (.c (.i .i64)) [] [] r O))).1 (kont Try.prog env laws_szBindS_h 27 (bodyOf Try.f81) [1, 1, 1, 0, 1, 0, 0] (vRet env [.tmp 4] (.c (.i .i64)) [] [] r O) (retKE (vRet env [.tmp 4] (.c (.i .i64)) [] [] r O))).2 ⟨[(0, (L a)), (1, (Z left)), (5, (Z i))], []⟩
theorem laws_szBindS_L5_of {r : AV} {O : List (Nat × Ob)} {a : List (List Da)} {left : Int} {i : Int} (h : ifB (decide (i < (↑(List.length a) : Int)))
  ((∃ (m : Nat), (i = ((↑m : Int)) ∧ (∃ (n : Int), (∃ (n1 : Int), (∃ (n2 : Int), (∃ (xs : List (List Da)), ((a[m]?) = some [(.int .i64 n), (.int .i64 n1), (.int .i64 n2), (.sl xs)] ∧ (∃ (n3 : Int), (XC Try.prog 126 [(.dat [(.int .i64 n), (.int .i64 n1), (.int .i64 n2), (.sl xs)]), (Z left)] [] (Z n3) [] ∧ ifB (decide (n3 < (0 : Int)))
  (((Z ((-1 : Int))) = r ∧ [] = O))
  (laws_szBindS_L5 r O a n3 (IntKind.wrap IntKind.i64 (i + (1 : Int))))))))))))))
  (((Z left) = r ∧ [] = O))) : laws_szBindS_L5 r O a left i := by
  unfold laws_szBindS_L5
  refine cl_of (E := env) (hs := laws_szBindS_h) envOk mixed ?_
  exact to_vc (by kernel_rfl) h
theorem laws_szBindS_of {a : List (List Da)} {left : Int} {r : AV} {O : List (Nat × Ob)} (h : ifB (decide (IntKind.wrap IntKind.i64 (left - (↑(List.length a) : Int)) < (0 : Int)))
  (((Z ((-1 : Int))) = r ∧ [] = O))
  (laws_szBindS_L5 r O a (IntKind.wrap IntKind.i64 (left - (↑(List.length a) : Int))) ((0 : Int)))) : XC Try.prog 81 [(L a), (Z left)] [] r O :=
  xc_of (E := env) (hs := laws_szBindS_h) (c := (bodyOf Try.f81)) (n := 27) (res := [.tmp 4]) (rs := .c (.i .i64)) (ks := []) (dir := []) envOk mixed rfl Try.func81 (by kernel_rfl) (by kernel_rfl) (by kernel_rfl) (by kernel_rfl) (to_vc (by kernel_rfl) h)

/-- loop.example/g00461/laws.toIntS -/
def laws_toIntS_h : Hints := ⟨[(3, ⟨[0, 3, 4], [], [], []⟩)], []⟩
def laws_toIntS_L3 (r : AV) (O : List (Nat × Ob)) (a : List (List Da)) (i : Int) (out : List (List Da)) : Prop := CL 22 Try.prog (subC (bodyOf Try.f84) [1, 1, 0, 1, 0, 0]) (kont Try.prog env laws_toIntS_h 22 (bodyOf Try.f84) [1, 1, 0, 1, 0, 0] (vRet env [.tmp 2] (.c .l) [] [] r O) (retKE (vRet env [.tmp 2] (.c .l) [] [] r O))).1 (kont Try.prog env laws_toIntS_h 22 (bodyOf Try.f84) [1, 1, 0, 1, 0, 0] (vRet env [.tmp 2] (.c .l) [] [] r O) (retKE (vRet env [.tmp 2] (.c .l) [] [] r O))).2 ⟨[(0, (L a)), (3, (.one (.ol 1900))), (4, (Z i))], [(1900, (.lst 3 1 out))]⟩
theorem laws_toIntS_L3_of {r : AV} {O : List (Nat × Ob)} {a : List (List Da)} {i : Int} {out : List (List Da)} (h : ifB (decide (i < (↑(List.length a) : Int)))
  ((∃ (m : Nat), (i = ((↑m : Int)) ∧ (∃ (n : Int), ((a[m]?) = some [(.int .i64 n)] ∧ (∃ (m1 : Nat), (i = ((↑m1 : Int)) ∧ (Do (m1 < List.length out) ∧ (∃ (m2 : Nat), ((m1 * (1 : Nat)) = (m2 * (1 : Nat) + (0 : Nat)) ∧ (∃ (n1 : Int), ((out[m2]?) = some [(.int .i64 n1)] ∧ laws_toIntS_L3 r O a (IntKind.wrap IntKind.i64 (i + (1 : Int))) (List.set out m2 ([] ++ [Da.int IntKind.i64 n] ++ []))))))))))))))
  (((L out) = r ∧ [] = O))) : laws_toIntS_L3 r O a i out := by
  unfold laws_toIntS_L3
  refine cl_of (E := env) (hs := laws_toIntS_h) envOk mixed ?_
  exact to_vc (by kernel_rfl) h
theorem laws_toIntS_of {a : List (List Da)} {r : AV} {O : List (Nat × Ob)} (h : (∃ (l : Nat), (∃ (c : Nat), (((↑(List.length a) : Int)) = ((↑l : Int)) ∧ (((↑(List.length a) : Int)) = ((↑c : Int)) ∧ (Do (l ≤ c ∧ Prod.fst ((8 : Nat), [At.d (Da.int IntKind.i64 (0 : Int))]) * c ≤ (281474976710656 : Nat) ∧ c ≤ (281474976710656 : Nat)) ∧ laws_toIntS_L3 r O a ((0 : Int)) (List.replicate l [Da.int IntKind.i64 (0 : Int)]))))))) : XC Try.prog 84 [(L a)] [] r O :=
  xc_of (E := env) (hs := laws_toIntS_h) (c := (bodyOf Try.f84)) (n := 22) (res := [.tmp 2]) (rs := .c .l) (ks := []) (dir := []) envOk mixed rfl Try.func84 (by kernel_rfl) (by kernel_rfl) (by kernel_rfl) (by kernel_rfl) (to_vc (by kernel_rfl) h)

/-- loop.example/g00461/laws.toBindS -/
def laws_toBindS_h : Hints := ⟨[(3, ⟨[0, 3, 4], [], [], []⟩)], []⟩
def laws_toBindS_L3 (r : AV) (O : List (Nat × Ob)) (a : List (List Da)) (i : Int) (out : List (List Da)) : Prop := CL 23 Try.prog (subC (bodyOf Try.f85) [1, 1, 0, 1, 0, 0]) (kont Try.prog env laws_toBindS_h 23 (bodyOf Try.f85) [1, 1, 0, 1, 0, 0] (vRet env [.tmp 2] (.c .l) [] [] r O) (retKE (vRet env [.tmp 2] (.c .l) [] [] r O))).1 (kont Try.prog env laws_toBindS_h 23 (bodyOf Try.f85) [1, 1, 0, 1, 0, 0] (vRet env [.tmp 2] (.c .l) [] [] r O) (retKE (vRet env [.tmp 2] (.c .l) [] [] r O))).2 ⟨[(0, (L a)), (3, (.one (.ol 1900))), (4, (Z i))], [(1900, (.lst 156 4 out))]⟩
theorem laws_toBindS_L3_of {r : AV} {O : List (Nat × Ob)} {a : List (List Da)} {i : Int} {out : List (List Da)} (h : ifB (decide (i < (↑(List.length a) : Int)))
  ((∃ (m : Nat), (i = ((↑m : Int)) ∧ (∃ (n : Int), (∃ (n1 : Int), (∃ (n2 : Int), (∃ (xs : List (List Da)), ((a[m]?) = some [(.int .i64 n), (.int .i64 n1), (.int .i64 n2), (.sl xs)] ∧ (∃ (n3 : Int), (∃ (n4 : Int), (∃ (n5 : Int), (∃ (xs1 : List (List Da)), (XC Try.prog 127 [(.dat [(.int .i64 n), (.int .i64 n1), (.int .i64 n2), (.sl xs)])] [] (.dat [(.int .i64 n3), (.int .i64 n4), (.int .i64 n5), (.sl xs1)]) [] ∧ (∃ (m1 : Nat), (i = ((↑m1 : Int)) ∧ (Do (m1 < List.length out) ∧ (∃ (m2 : Nat), ((m1 * (4 : Nat)) = (m2 * (4 : Nat) + (0 : Nat)) ∧ (∃ (n6 : Int), (∃ (n7 : Int), (∃ (n8 : Int), (∃ (xs2 : List (List Da)), ((out[m2]?) = some [(.int .i64 n6), (.int .i64 n7), (.int .i64 n8), (.sl xs2)] ∧ laws_toBindS_L3 r O a (IntKind.wrap IntKind.i64 (i + (1 : Int))) (List.set out m2 ([] ++ [Da.int IntKind.i64 n3, Da.int IntKind.i64 n4, Da.int IntKind.i64 n5, Da.sl xs1] ++ [])))))))))))))))))))))))))
  (((L out) = r ∧ [] = O))) : laws_toBindS_L3 r O a i out := by
  unfold laws_toBindS_L3
  refine cl_of (E := env) (hs := laws_toBindS_h) envOk mixed ?_
  exact to_vc (by kernel_rfl) h
theorem laws_toBindS_of {a : List (List Da)} {r : AV} {O : List (Nat × Ob)} (h : (∃ (l : Nat), (∃ (c : Nat), (((↑(List.length a) : Int)) = ((↑l : Int)) ∧ (((↑(List.length a) : Int)) = ((↑c : Int)) ∧ (Do (l ≤ c ∧ Prod.fst ((48 : Nat), [At.d (Da.int IntKind.i64 (0 : Int)), At.d (Da.int IntKind.i64 (0 : Int)), At.d (Da.int IntKind.i64 (0 : Int)), At.e0]) * c ≤ (281474976710656 : Nat) ∧ c ≤ (281474976710656 : Nat)) ∧ laws_toBindS_L3 r O a ((0 : Int)) (List.replicate l [Da.int IntKind.i64 (0 : Int), Da.int IntKind.i64 (0 : Int), Da.int IntKind.i64 (0 : Int), Da.sl []]))))))) : XC Try.prog 85 [(L a)] [] r O :=
  xc_of (E := env) (hs := laws_toBindS_h) (c := (bodyOf Try.f85)) (n := 23) (res := [.tmp 2]) (rs := .c .l) (ks := []) (dir := []) envOk mixed rfl Try.func85 (by kernel_rfl) (by kernel_rfl) (by kernel_rfl) (by kernel_rfl) (to_vc (by kernel_rfl) h)

/-- loop.example/g00461/spec.l1In -/
def spec_l1In_h : Hints := ⟨[], []⟩
theorem spec_l1In_of {x : Int} {lo : Int} {hi : Int} {r : AV} {O : List (Nat × Ob)} (h : ifB (decide (lo ≤ x))
  (((B (decide (x ≤ hi))) = r ∧ [] = O))
  (((B (false)) = r ∧ [] = O))) : XC Try.prog 82 [(Z x), (Z lo), (Z hi)] [] r O :=
  xc_of (E := env) (hs := spec_l1In_h) (c := (bodyOf Try.f82)) (n := 15) (res := [.tmp 6]) (rs := .c .b) (ks := []) (dir := []) envOk mixed rfl Try.func82 (by kernel_rfl) (by kernel_rfl) (by kernel_rfl) (by kernel_rfl) (to_vc (by kernel_rfl) h)

/-- loop.example/g00461/spec.Digits -/
def spec_Digits_h : Hints := ⟨[(5, ⟨[0, 3, 4], [], [], []⟩)], []⟩
def spec_Digits_L5 (r : AV) (O : List (Nat × Ob)) (n : Int) (below : Bool) (out : ByteArray) : Prop := CL 31 Try.prog (subC (bodyOf Try.f83) [1, 1, 1, 1, 0, 0, 0]) (kont Try.prog env spec_Digits_h 31 (bodyOf Try.f83) [1, 1, 1, 1, 0, 0, 0] (vRet env [.tmp 2] (.c .s) [] [] r O) (retKE (vRet env [.tmp 2] (.c .s) [] [] r O))).1 (kont Try.prog env spec_Digits_h 31 (bodyOf Try.f83) [1, 1, 1, 1, 0, 0, 0] (vRet env [.tmp 2] (.c .s) [] [] r O) (retKE (vRet env [.tmp 2] (.c .s) [] [] r O))).2 ⟨[(0, (Z n)), (3, (B below)), (4, (T out))], []⟩
theorem spec_Digits_L5_of {r : AV} {O : List (Nat × Ob)} {n : Int} {below : Bool} {out : ByteArray} (h : ifB (decide (n ≠ (0 : Int)))
  ((Do ((10 : Int) ≠ (0 : Int)) ∧ ifB (decide (Int.tmod n (10 : Int) < (0 : Int)))
  ((∃ (ns : List Int), ([[(.int .u8 (IntKind.wrap IntKind.u8 (IntKind.wrap IntKind.i64 ((48 : Int) + IntKind.wrap IntKind.i64 ((0 : Int) - Int.tmod n (10 : Int))))))]] = (List.map (fun n => [Da.int IntKind.u8 n]) ns) ∧ (Do (ByteArray.size (strOfNums ns ++ out) ≤ (281474976710656 : Nat)) ∧ (Do ((10 : Int) ≠ (0 : Int)) ∧ spec_Digits_L5 r O (IntKind.wrap IntKind.i64 (Int.tdiv n (10 : Int))) below (strOfNums ns ++ out))))))
  ((∃ (ns1 : List Int), ([[(.int .u8 (IntKind.wrap IntKind.u8 (IntKind.wrap IntKind.i64 ((48 : Int) + Int.tmod n (10 : Int)))))]] = (List.map (fun n => [Da.int IntKind.u8 n]) ns1) ∧ (Do (ByteArray.size (strOfNums ns1 ++ out) ≤ (281474976710656 : Nat)) ∧ (Do ((10 : Int) ≠ (0 : Int)) ∧ spec_Digits_L5 r O (IntKind.wrap IntKind.i64 (Int.tdiv n (10 : Int))) below (strOfNums ns1 ++ out))))))))
  (ifB below
  ((Do (ByteArray.size ({ data := #[(45 : UInt8)] } ++ out) ≤ (281474976710656 : Nat)) ∧ ((T ({ data := #[(45 : UInt8)] } ++ out)) = r ∧ [] = O)))
  (((T out) = r ∧ [] = O)))) : spec_Digits_L5 r O n below out := by
  unfold spec_Digits_L5
  refine cl_of (E := env) (hs := spec_Digits_h) envOk mixed ?_
  exact to_vc (by kernel_rfl) h
theorem spec_Digits_of {n : Int} {r : AV} {O : List (Nat × Ob)} (h : ifB (decide (n = (0 : Int)))
  (((T ({ data := #[(48 : UInt8)] })) = r ∧ [] = O))
  (spec_Digits_L5 r O n (decide (n < (0 : Int))) ({ data := #[] }))) : XC Try.prog 83 [(Z n)] [] r O :=
  xc_of (E := env) (hs := spec_Digits_h) (c := (bodyOf Try.f83)) (n := 31) (res := [.tmp 2]) (rs := .c .s) (ks := []) (dir := []) envOk mixed rfl Try.func83 (by kernel_rfl) (by kernel_rfl) (by kernel_rfl) (by kernel_rfl) (to_vc (by kernel_rfl) h)

/-- loop.example/g00461/impl.from -/
def impl_from_h : Hints := ⟨[], []⟩
theorem impl_from_of {n : Int} {low : Int} {high : Int} {r : AV} {O : List (Nat × Ob)} (h : ifB (decide (low ≤ n))
  (((B (decide (n ≤ high))) = r ∧ [] = O))
  (((B (false)) = r ∧ [] = O))) : XC Try.prog 86 [(Z n), (Z low), (Z high)] [] r O :=
  xc_of (E := env) (hs := impl_from_h) (c := (bodyOf Try.f86)) (n := 15) (res := [.tmp 6]) (rs := .c .b) (ks := []) (dir := []) envOk mixed rfl Try.func86 (by kernel_rfl) (by kernel_rfl) (by kernel_rfl) (by kernel_rfl) (to_vc (by kernel_rfl) h)

/-- loop.example/g00461/impl.Digits -/
def impl_Digits_h : Hints := ⟨[], []⟩
theorem impl_Digits_of {n : Int} {r : AV} {O : List (Nat × Ob)} (h : ifB (decide (n < (0 : Int)))
  (ifB (decide ((-10 : Int) < n))
  ((∃ (q : ByteArray), (XC Try.prog 87 [(Z (IntKind.wrap IntKind.i64 ((0 : Int) - n)))] [] (T q) [] ∧ (Do (ByteArray.size ({ data := #[(45 : UInt8)] } ++ q) ≤ (281474976710656 : Nat)) ∧ ((T ({ data := #[(45 : UInt8)] } ++ q)) = r ∧ [] = O)))))
  (ifB (decide (n < (0 : Int)))
  ((Do ((10 : Int) ≠ (0 : Int)) ∧ (∃ (q1 : ByteArray), (XC Try.prog 87 [(Z (IntKind.wrap IntKind.i64 (Int.tdiv n (10 : Int))))] [] (T q1) [] ∧ (Do ((10 : Int) ≠ (0 : Int)) ∧ (∃ (q2 : ByteArray), (XC Try.prog 87 [(Z (IntKind.wrap IntKind.i64 ((0 : Int) - Int.tmod n (10 : Int))))] [] (T q2) [] ∧ (Do (ByteArray.size (q1 ++ q2) ≤ (281474976710656 : Nat)) ∧ ((T (q1 ++ q2)) = r ∧ [] = O)))))))))
  (ifB (decide (n < (10 : Int)))
  ((Do (ByteArray.size (Utf8.encode (IntKind.wrap IntKind.i32 (IntKind.wrap IntKind.i64 ((48 : Int) + n)))) ≤ (281474976710656 : Nat)) ∧ ((T (Utf8.encode (IntKind.wrap IntKind.i32 (IntKind.wrap IntKind.i64 ((48 : Int) + n))))) = r ∧ [] = O)))
  ((Do ((10 : Int) ≠ (0 : Int)) ∧ (∃ (q3 : ByteArray), (XC Try.prog 87 [(Z (IntKind.wrap IntKind.i64 (Int.tdiv n (10 : Int))))] [] (T q3) [] ∧ (Do ((10 : Int) ≠ (0 : Int)) ∧ (Do (ByteArray.size (Utf8.encode (IntKind.wrap IntKind.i32 (IntKind.wrap IntKind.i64 ((48 : Int) + Int.tmod n (10 : Int))))) ≤ (281474976710656 : Nat)) ∧ (Do (ByteArray.size (q3 ++ Utf8.encode (IntKind.wrap IntKind.i32 (IntKind.wrap IntKind.i64 ((48 : Int) + Int.tmod n (10 : Int))))) ≤ (281474976710656 : Nat)) ∧ ((T (q3 ++ Utf8.encode (IntKind.wrap IntKind.i32 (IntKind.wrap IntKind.i64 ((48 : Int) + Int.tmod n (10 : Int)))))) = r ∧ [] = O)))))))))))
  (ifB (decide (n < (0 : Int)))
  ((Do ((10 : Int) ≠ (0 : Int)) ∧ (∃ (q4 : ByteArray), (XC Try.prog 87 [(Z (IntKind.wrap IntKind.i64 (Int.tdiv n (10 : Int))))] [] (T q4) [] ∧ (Do ((10 : Int) ≠ (0 : Int)) ∧ (∃ (q5 : ByteArray), (XC Try.prog 87 [(Z (IntKind.wrap IntKind.i64 ((0 : Int) - Int.tmod n (10 : Int))))] [] (T q5) [] ∧ (Do (ByteArray.size (q4 ++ q5) ≤ (281474976710656 : Nat)) ∧ ((T (q4 ++ q5)) = r ∧ [] = O)))))))))
  (ifB (decide (n < (10 : Int)))
  ((Do (ByteArray.size (Utf8.encode (IntKind.wrap IntKind.i32 (IntKind.wrap IntKind.i64 ((48 : Int) + n)))) ≤ (281474976710656 : Nat)) ∧ ((T (Utf8.encode (IntKind.wrap IntKind.i32 (IntKind.wrap IntKind.i64 ((48 : Int) + n))))) = r ∧ [] = O)))
  ((Do ((10 : Int) ≠ (0 : Int)) ∧ (∃ (q6 : ByteArray), (XC Try.prog 87 [(Z (IntKind.wrap IntKind.i64 (Int.tdiv n (10 : Int))))] [] (T q6) [] ∧ (Do ((10 : Int) ≠ (0 : Int)) ∧ (Do (ByteArray.size (Utf8.encode (IntKind.wrap IntKind.i32 (IntKind.wrap IntKind.i64 ((48 : Int) + Int.tmod n (10 : Int))))) ≤ (281474976710656 : Nat)) ∧ (Do (ByteArray.size (q6 ++ Utf8.encode (IntKind.wrap IntKind.i32 (IntKind.wrap IntKind.i64 ((48 : Int) + Int.tmod n (10 : Int))))) ≤ (281474976710656 : Nat)) ∧ ((T (q6 ++ Utf8.encode (IntKind.wrap IntKind.i32 (IntKind.wrap IntKind.i64 ((48 : Int) + Int.tmod n (10 : Int)))))) = r ∧ [] = O))))))))))) : XC Try.prog 87 [(Z n)] [] r O :=
  xc_of (E := env) (hs := impl_Digits_h) (c := (bodyOf Try.f87)) (n := 41) (res := [.tmp 2]) (rs := .c .s) (ks := []) (dir := []) envOk mixed rfl Try.func87 (by kernel_rfl) (by kernel_rfl) (by kernel_rfl) (by kernel_rfl) (to_vc (by kernel_rfl) h)

/-- loop.example/g00461/laws.eqBindS -/
def laws_eqBindS_h : Hints := ⟨[(4, ⟨[0, 1, 5], [], [], []⟩)], []⟩
def laws_eqBindS_L4 (r : AV) (O : List (Nat × Ob)) (a : List (List Da)) (b : List (List Da)) (i : Int) : Prop := CL 27 Try.prog (subC (bodyOf Try.f88) [1, 1, 0, 1, 0, 0]) (kont Try.prog env laws_eqBindS_h 27 (bodyOf Try.f88) [1, 1, 0, 1, 0, 0] (vRet env [.tmp 4] (.c .b) [] [] r O) (retKE (vRet env [.tmp 4] (.c .b) [] [] r O))).1 (kont Try.prog env laws_eqBindS_h 27 (bodyOf Try.f88) [1, 1, 0, 1, 0, 0] (vRet env [.tmp 4] (.c .b) [] [] r O) (retKE (vRet env [.tmp 4] (.c .b) [] [] r O))).2 ⟨[(0, (L a)), (1, (L b)), (5, (Z i))], []⟩
theorem laws_eqBindS_L4_of {r : AV} {O : List (Nat × Ob)} {a : List (List Da)} {b : List (List Da)} {i : Int} (h : ifB (decide (i < (↑(List.length a) : Int)))
  ((∃ (m : Nat), (i = ((↑m : Int)) ∧ (∃ (n : Int), (∃ (n1 : Int), (∃ (n2 : Int), (∃ (xs : List (List Da)), ((a[m]?) = some [(.int .i64 n), (.int .i64 n1), (.int .i64 n2), (.sl xs)] ∧ (∃ (m1 : Nat), (i = ((↑m1 : Int)) ∧ (∃ (n3 : Int), (∃ (n4 : Int), (∃ (n5 : Int), (∃ (xs1 : List (List Da)), ((b[m1]?) = some [(.int .i64 n3), (.int .i64 n4), (.int .i64 n5), (.sl xs1)] ∧ (∃ (b2 : Bool), (XC Try.prog 128 [(.dat [(.int .i64 n), (.int .i64 n1), (.int .i64 n2), (.sl xs)]), (.dat [(.int .i64 n3), (.int .i64 n4), (.int .i64 n5), (.sl xs1)])] [] (B b2) [] ∧ ifB (!b2)
  (((B (false)) = r ∧ [] = O))
  (laws_eqBindS_L4 r O a b (IntKind.wrap IntKind.i64 (i + (1 : Int)))))))))))))))))))))
  (((B (true)) = r ∧ [] = O))) : laws_eqBindS_L4 r O a b i := by
  unfold laws_eqBindS_L4
  refine cl_of (E := env) (hs := laws_eqBindS_h) envOk mixed ?_
  exact to_vc (by kernel_rfl) h
theorem laws_eqBindS_of {a : List (List Da)} {b : List (List Da)} {r : AV} {O : List (Nat × Ob)} (h : ifB (decide ((↑(List.length a) : Int) ≠ (↑(List.length b) : Int)))
  (((B (false)) = r ∧ [] = O))
  (laws_eqBindS_L4 r O a b ((0 : Int)))) : XC Try.prog 88 [(L a), (L b)] [] r O :=
  xc_of (E := env) (hs := laws_eqBindS_h) (c := (bodyOf Try.f88)) (n := 27) (res := [.tmp 4]) (rs := .c .b) (ks := []) (dir := []) envOk mixed rfl Try.func88 (by kernel_rfl) (by kernel_rfl) (by kernel_rfl) (by kernel_rfl) (to_vc (by kernel_rfl) h)

/-- slices.IndexFunc[[]loop.example/g00461/impl.Step,loop.example/g00461/impl.Step] -/
def slices_IndexFunc_Step_impl_Refuted_1_h : Hints := ⟨[(2, ⟨[0, 1, 7, 8], [], [], []⟩)], []⟩
def slices_IndexFunc_Step_impl_Refuted_1_L2 (r : AV) (O : List (Nat × Ob)) (s : List (List Da)) (s7 : Int) (s8 : Int) : Prop := CL 19 Try.prog (subC (bodyOf Try.f89) [1, 0, 1, 0, 0]) (kont Try.prog env slices_IndexFunc_Step_impl_Refuted_1_h 19 (bodyOf Try.f89) [1, 0, 1, 0, 0] (vRet env [.tmp 4] (.c (.i .i64)) [] [] r O) (retKE (vRet env [.tmp 4] (.c (.i .i64)) [] [] r O))).1 (kont Try.prog env slices_IndexFunc_Step_impl_Refuted_1_h 19 (bodyOf Try.f89) [1, 0, 1, 0, 0] (vRet env [.tmp 4] (.c (.i .i64)) [] [] r O) (retKE (vRet env [.tmp 4] (.c (.i .i64)) [] [] r O))).2 ⟨[(0, (L s)), (1, (.one (.d (.fn 90)))), (7, (Z s7)), (8, (Z s8))], []⟩
theorem slices_IndexFunc_Step_impl_Refuted_1_L2_of {r : AV} {O : List (Nat × Ob)} {s : List (List Da)} {s7 : Int} {s8 : Int} (h : ifB (decide (s8 < s7))
  ((∃ (m : Nat), (s8 = ((↑m : Int)) ∧ (∃ (n : Int), (∃ (n1 : Int), (∃ (n2 : Int), (∃ (n3 : Int), (∃ (n4 : Int), (∃ (b : Bool), (∃ (b1 : Bool), (∃ (xs : List (List Da)), (∃ (b2 : Bool), (∃ (xs1 : List (List Da)), (∃ (xs2 : List (List Da)), ((s[m]?) = some [(.int .i64 n), (.int .i64 n1), (.int .i64 n2), (.int .i64 n3), (.int .i64 n4), (.bool b), (.bool b1), (.sl xs), (.bool b2), (.sl xs1), (.sl xs2)] ∧ (∃ (b3 : Bool), (XC Try.prog 90 [(.dat [(.int .i64 n), (.int .i64 n1), (.int .i64 n2), (.int .i64 n3), (.int .i64 n4), (.bool b), (.bool b1), (.sl xs), (.bool b2), (.sl xs1), (.sl xs2)])] [] (B b3) [] ∧ ifB b3
  (((Z s8) = r ∧ [] = O))
  (slices_IndexFunc_Step_impl_Refuted_1_L2 r O s s7 (IntKind.wrap IntKind.i64 (s8 + (1 : Int)))))))))))))))))))))
  (((Z ((-1 : Int))) = r ∧ [] = O))) : slices_IndexFunc_Step_impl_Refuted_1_L2 r O s s7 s8 := by
  unfold slices_IndexFunc_Step_impl_Refuted_1_L2
  refine cl_of (E := env) (hs := slices_IndexFunc_Step_impl_Refuted_1_h) envOk mixed ?_
  exact to_vc (by kernel_rfl) h
theorem slices_IndexFunc_Step_impl_Refuted_1_of {s : List (List Da)} {r : AV} {O : List (Nat × Ob)} (h : slices_IndexFunc_Step_impl_Refuted_1_L2 r O s ((↑(List.length s) : Int)) ((0 : Int))) : XC Try.prog 89 [(L s), (.one (.d (.fn 90)))] [] r O :=
  xc_of (E := env) (hs := slices_IndexFunc_Step_impl_Refuted_1_h) (c := (bodyOf Try.f89)) (n := 19) (res := [.tmp 4]) (rs := .c (.i .i64)) (ks := []) (dir := []) envOk mixed rfl Try.func89 (by kernel_rfl) (by kernel_rfl) (by kernel_rfl) (by kernel_rfl) (to_vc (by kernel_rfl) h)

/-- loop.example/g00461/laws.szLitS -/
def laws_szLitS_h : Hints := ⟨[(5, ⟨[0, 1, 5], [], [], []⟩)], []⟩
def laws_szLitS_L5 (r : AV) (O : List (Nat × Ob)) (a : List (List Da)) (left : Int) (i : Int) : Prop := CL 27 Try.prog (subC (bodyOf Try.f91) [1, 1, 1, 0, 1, 0, 0]) (kont Try.prog env laws_szLitS_h 27 (bodyOf Try.f91) [1, 1, 1, 0, 1, 0, 0] (vRet env [.tmp 4] (.c (.i .i64)) [] [] r O) (retKE (vRet env [.tmp 4] (.c (.i .i64)) [] [] r O))).1 (kont Try.prog env laws_szLitS_h 27 (bodyOf Try.f91) [1, 1, 1, 0, 1, 0, 0] (vRet env [.tmp 4] (.c (.i .i64)) [] [] r O) (retKE (vRet env [.tmp 4] (.c (.i .i64)) [] [] r O))).2 ⟨[(0, (L a)), (1, (Z left)), (5, (Z i))], []⟩
theorem laws_szLitS_L5_of {r : AV} {O : List (Nat × Ob)} {a : List (List Da)} {left : Int} {i : Int} (h : ifB (decide (i < (↑(List.length a) : Int)))
  ((∃ (m : Nat), (i = ((↑m : Int)) ∧ (∃ (b : Bool), (∃ (n : Int), (∃ (n1 : Int), (∃ (xs : List (List Da)), (∃ (n2 : Int), (∃ (n3 : Int), (∃ (xs1 : List (List Da)), ((a[m]?) = some [(.bool b), (.int .i64 n), (.int .i64 n1), (.sl xs), (.int .i64 n2), (.int .i64 n3), (.sl xs1)] ∧ (∃ (n4 : Int), (XC Try.prog 16 [(.dat [(.bool b), (.int .i64 n), (.int .i64 n1), (.sl xs), (.int .i64 n2), (.int .i64 n3), (.sl xs1)]), (Z left)] [] (Z n4) [] ∧ ifB (decide (n4 < (0 : Int)))
  (((Z ((-1 : Int))) = r ∧ [] = O))
  (laws_szLitS_L5 r O a n4 (IntKind.wrap IntKind.i64 (i + (1 : Int)))))))))))))))))
  (((Z left) = r ∧ [] = O))) : laws_szLitS_L5 r O a left i := by
  unfold laws_szLitS_L5
  refine cl_of (E := env) (hs := laws_szLitS_h) envOk mixed ?_
  exact to_vc (by kernel_rfl) h
theorem laws_szLitS_of {a : List (List Da)} {left : Int} {r : AV} {O : List (Nat × Ob)} (h : ifB (decide (IntKind.wrap IntKind.i64 (left - (↑(List.length a) : Int)) < (0 : Int)))
  (((Z ((-1 : Int))) = r ∧ [] = O))
  (laws_szLitS_L5 r O a (IntKind.wrap IntKind.i64 (left - (↑(List.length a) : Int))) ((0 : Int)))) : XC Try.prog 91 [(L a), (Z left)] [] r O :=
  xc_of (E := env) (hs := laws_szLitS_h) (c := (bodyOf Try.f91)) (n := 27) (res := [.tmp 4]) (rs := .c (.i .i64)) (ks := []) (dir := []) envOk mixed rfl Try.func91 (by kernel_rfl) (by kernel_rfl) (by kernel_rfl) (by kernel_rfl) (to_vc (by kernel_rfl) h)

/-- loop.example/g00461/laws.toLitS -/
def laws_toLitS_h : Hints := ⟨[(3, ⟨[0, 3, 4], [], [], []⟩)], []⟩
def laws_toLitS_L3 (r : AV) (O : List (Nat × Ob)) (a : List (List Da)) (i : Int) (out : List (List Da)) : Prop := CL 23 Try.prog (subC (bodyOf Try.f92) [1, 1, 0, 1, 0, 0]) (kont Try.prog env laws_toLitS_h 23 (bodyOf Try.f92) [1, 1, 0, 1, 0, 0] (vRet env [.tmp 2] (.c .l) [] [] r O) (retKE (vRet env [.tmp 2] (.c .l) [] [] r O))).1 (kont Try.prog env laws_toLitS_h 23 (bodyOf Try.f92) [1, 1, 0, 1, 0, 0] (vRet env [.tmp 2] (.c .l) [] [] r O) (retKE (vRet env [.tmp 2] (.c .l) [] [] r O))).2 ⟨[(0, (L a)), (3, (.one (.ol 1900))), (4, (Z i))], [(1900, (.lst 37 7 out))]⟩
theorem laws_toLitS_L3_of {r : AV} {O : List (Nat × Ob)} {a : List (List Da)} {i : Int} {out : List (List Da)} (h : ifB (decide (i < (↑(List.length a) : Int)))
  ((∃ (m : Nat), (i = ((↑m : Int)) ∧ (∃ (b : Bool), (∃ (n : Int), (∃ (n1 : Int), (∃ (xs : List (List Da)), (∃ (n2 : Int), (∃ (n3 : Int), (∃ (xs1 : List (List Da)), ((a[m]?) = some [(.bool b), (.int .i64 n), (.int .i64 n1), (.sl xs), (.int .i64 n2), (.int .i64 n3), (.sl xs1)] ∧ (∃ (b1 : Bool), (∃ (n4 : Int), (∃ (n5 : Int), (∃ (xs2 : List (List Da)), (∃ (n6 : Int), (∃ (n7 : Int), (∃ (xs3 : List (List Da)), (XC Try.prog 19 [(.dat [(.bool b), (.int .i64 n), (.int .i64 n1), (.sl xs), (.int .i64 n2), (.int .i64 n3), (.sl xs1)])] [] (.dat [(.bool b1), (.int .i64 n4), (.int .i64 n5), (.sl xs2), (.int .i64 n6), (.int .i64 n7), (.sl xs3)]) [] ∧ (∃ (m1 : Nat), (i = ((↑m1 : Int)) ∧ (Do (m1 < List.length out) ∧ (∃ (m2 : Nat), ((m1 * (7 : Nat)) = (m2 * (7 : Nat) + (0 : Nat)) ∧ (∃ (b2 : Bool), (∃ (n8 : Int), (∃ (n9 : Int), (∃ (xs4 : List (List Da)), (∃ (n10 : Int), (∃ (n11 : Int), (∃ (xs5 : List (List Da)), ((out[m2]?) = some [(.bool b2), (.int .i64 n8), (.int .i64 n9), (.sl xs4), (.int .i64 n10), (.int .i64 n11), (.sl xs5)] ∧ laws_toLitS_L3 r O a (IntKind.wrap IntKind.i64 (i + (1 : Int))) (List.set out m2 ([] ++ [Da.bool b1, Da.int IntKind.i64 n4, Da.int IntKind.i64 n5, Da.sl xs2, Da.int IntKind.i64 n6, Da.int IntKind.i64 n7, Da.sl xs3] ++ []))))))))))))))))))))))))))))))))))
  (((L out) = r ∧ [] = O))) : laws_toLitS_L3 r O a i out := by
  unfold laws_toLitS_L3
  refine cl_of (E := env) (hs := laws_toLitS_h) envOk mixed ?_
  exact to_vc (by kernel_rfl) h
theorem laws_toLitS_of {a : List (List Da)} {r : AV} {O : List (Nat × Ob)} (h : (∃ (l : Nat), (∃ (c : Nat), (((↑(List.length a) : Int)) = ((↑l : Int)) ∧ (((↑(List.length a) : Int)) = ((↑c : Int)) ∧ (Do (l ≤ c ∧ Prod.fst ((88 : Nat), [At.d (Da.bool false), At.d (Da.int IntKind.i64 (0 : Int)), At.d (Da.int IntKind.i64 (0 : Int)), At.e0, At.d (Da.int IntKind.i64 (0 : Int)), At.d (Da.int IntKind.i64 (0 : Int)), At.e0]) * c ≤ (281474976710656 : Nat) ∧ c ≤ (281474976710656 : Nat)) ∧ laws_toLitS_L3 r O a ((0 : Int)) (List.replicate l [Da.bool false, Da.int IntKind.i64 (0 : Int), Da.int IntKind.i64 (0 : Int), Da.sl [], Da.int IntKind.i64 (0 : Int), Da.int IntKind.i64 (0 : Int), Da.sl []]))))))) : XC Try.prog 92 [(L a)] [] r O :=
  xc_of (E := env) (hs := laws_toLitS_h) (c := (bodyOf Try.f92)) (n := 23) (res := [.tmp 2]) (rs := .c .l) (ks := []) (dir := []) envOk mixed rfl Try.func92 (by kernel_rfl) (by kernel_rfl) (by kernel_rfl) (by kernel_rfl) (to_vc (by kernel_rfl) h)

/-- strings.Join -/
def strings_Join_h : Hints := ⟨[(12, ⟨[0, 1, 5, 39, 40, 41], [], [], []⟩), (22, ⟨[1, 8, 63, 64, 65], [], [], []⟩)], []⟩
def strings_Join_L12 (r : AV) (O : List (Nat × Ob)) (s0 : List (List Da)) (s1 : ByteArray) (s5 : Int) (s39 : List (List Da)) (s40 : Int) (s41 : Int) : Prop := CL 75 Try.prog (subC (bodyOf Try.f93) [1, 1, 1, 1, 0, 1, 0, 0]) (kont Try.prog env strings_Join_h 75 (bodyOf Try.f93) [1, 1, 1, 1, 0, 1, 0, 0] (vRet env [.tmp 4] (.c .s) [] [] r O) (retKE (vRet env [.tmp 4] (.c .s) [] [] r O))).1 (kont Try.prog env strings_Join_h 75 (bodyOf Try.f93) [1, 1, 1, 1, 0, 1, 0, 0] (vRet env [.tmp 4] (.c .s) [] [] r O) (retKE (vRet env [.tmp 4] (.c .s) [] [] r O))).2 ⟨[(0, (L s0)), (1, (T s1)), (5, (Z s5)), (39, (L s39)), (40, (Z s40)), (41, (Z s41))], []⟩
theorem strings_Join_L12_of {r : AV} {O : List (Nat × Ob)} {s0 : List (List Da)} {s1 : ByteArray} {s5 : Int} {s39 : List (List Da)} {s40 : Int} {s41 : Int} (h : ifB (decide (s41 < s40))
  ((∃ (m : Nat), (s41 = ((↑m : Int)) ∧ (∃ (q : ByteArray), ((s39[m]?) = some [(.str q)] ∧ ifB (decide (IntKind.wrap IntKind.i64 ((9223372036854775807 : Int) - s5) < (↑(ByteArray.size q) : Int)))
  (Stop 15 0)
  (strings_Join_L12 r O s0 s1 (IntKind.wrap IntKind.i64 (s5 + (↑(ByteArray.size q) : Int))) s39 s40 (IntKind.wrap IntKind.i64 (s41 + (1 : Int)))))))))
  (Stop 18 0)) : strings_Join_L12 r O s0 s1 s5 s39 s40 s41 := by
  unfold strings_Join_L12
  refine cl_of (E := env) (hs := strings_Join_h) envOk mixed ?_
  exact to_vc (by kernel_rfl) h
theorem strings_Join_of {p : List (List Da)} {p1 : ByteArray} {r : AV} {O : List (Nat × Ob)} (h : ifB (decide ((↑(List.length p) : Int) = (0 : Int)))
  (((T ({ data := #[] })) = r ∧ [] = O))
  (ifB (decide ((↑(List.length p) : Int) = (1 : Int)))
  ((∃ (m : Nat), (((0 : Int)) = ((↑m : Int)) ∧ (∃ (q : ByteArray), ((p[m]?) = some [(.str q)] ∧ ((T q) = r ∧ [] = O))))))
  (ifB (decide ((0 : Int) < (↑(ByteArray.size p1) : Int)))
  ((Do (IntKind.wrap IntKind.i64 ((↑(List.length p) : Int) - (1 : Int)) ≠ (0 : Int)) ∧ ifB (decide (IntKind.wrap IntKind.i64 (Int.tdiv (9223372036854775807 : Int) (IntKind.wrap IntKind.i64 ((↑(List.length p) : Int) - (1 : Int)))) ≤ (↑(ByteArray.size p1) : Int)))
  (Stop 9 0)
  (strings_Join_L12 r O p p1 (IntKind.wrap IntKind.i64 ((0 : Int) + IntKind.wrap IntKind.i64 ((↑(ByteArray.size p1) : Int) * IntKind.wrap IntKind.i64 ((↑(List.length p) : Int) - (1 : Int))))) p ((↑(List.length p) : Int)) ((0 : Int)))))
  (strings_Join_L12 r O p p1 ((0 : Int)) p ((↑(List.length p) : Int)) ((0 : Int)))))) : XC Try.prog 93 [(L p), (T p1)] [] r O :=
  xc_of (E := env) (hs := strings_Join_h) (c := (bodyOf Try.f93)) (n := 75) (res := [.tmp 4]) (rs := .c .s) (ks := []) (dir := []) envOk mixed rfl Try.func93 (by kernel_rfl) (by kernel_rfl) (by kernel_rfl) (by kernel_rfl) (to_vc (by kernel_rfl) h)

/-- loop.example/g00461/laws.eqLitS -/
def laws_eqLitS_h : Hints := ⟨[(4, ⟨[0, 1, 5], [], [], []⟩)], []⟩
def laws_eqLitS_L4 (r : AV) (O : List (Nat × Ob)) (a : List (List Da)) (b : List (List Da)) (i : Int) : Prop := CL 27 Try.prog (subC (bodyOf Try.f94) [1, 1, 0, 1, 0, 0]) (kont Try.prog env laws_eqLitS_h 27 (bodyOf Try.f94) [1, 1, 0, 1, 0, 0] (vRet env [.tmp 4] (.c .b) [] [] r O) (retKE (vRet env [.tmp 4] (.c .b) [] [] r O))).1 (kont Try.prog env laws_eqLitS_h 27 (bodyOf Try.f94) [1, 1, 0, 1, 0, 0] (vRet env [.tmp 4] (.c .b) [] [] r O) (retKE (vRet env [.tmp 4] (.c .b) [] [] r O))).2 ⟨[(0, (L a)), (1, (L b)), (5, (Z i))], []⟩
theorem laws_eqLitS_L4_of {r : AV} {O : List (Nat × Ob)} {a : List (List Da)} {b : List (List Da)} {i : Int} (h : ifB (decide (i < (↑(List.length a) : Int)))
  ((∃ (m : Nat), (i = ((↑m : Int)) ∧ (∃ (b2 : Bool), (∃ (n : Int), (∃ (n1 : Int), (∃ (xs : List (List Da)), (∃ (n2 : Int), (∃ (n3 : Int), (∃ (xs1 : List (List Da)), ((a[m]?) = some [(.bool b2), (.int .i64 n), (.int .i64 n1), (.sl xs), (.int .i64 n2), (.int .i64 n3), (.sl xs1)] ∧ (∃ (m1 : Nat), (i = ((↑m1 : Int)) ∧ (∃ (b3 : Bool), (∃ (n4 : Int), (∃ (n5 : Int), (∃ (xs2 : List (List Da)), (∃ (n6 : Int), (∃ (n7 : Int), (∃ (xs3 : List (List Da)), ((b[m1]?) = some [(.bool b3), (.int .i64 n4), (.int .i64 n5), (.sl xs2), (.int .i64 n6), (.int .i64 n7), (.sl xs3)] ∧ (∃ (b4 : Bool), (XC Try.prog 22 [(.dat [(.bool b2), (.int .i64 n), (.int .i64 n1), (.sl xs), (.int .i64 n2), (.int .i64 n3), (.sl xs1)]), (.dat [(.bool b3), (.int .i64 n4), (.int .i64 n5), (.sl xs2), (.int .i64 n6), (.int .i64 n7), (.sl xs3)])] [] (B b4) [] ∧ ifB (!b4)
  (((B (false)) = r ∧ [] = O))
  (laws_eqLitS_L4 r O a b (IntKind.wrap IntKind.i64 (i + (1 : Int)))))))))))))))))))))))))))
  (((B (true)) = r ∧ [] = O))) : laws_eqLitS_L4 r O a b i := by
  unfold laws_eqLitS_L4
  refine cl_of (E := env) (hs := laws_eqLitS_h) envOk mixed ?_
  exact to_vc (by kernel_rfl) h
theorem laws_eqLitS_of {a : List (List Da)} {b : List (List Da)} {r : AV} {O : List (Nat × Ob)} (h : ifB (decide ((↑(List.length a) : Int) ≠ (↑(List.length b) : Int)))
  (((B (false)) = r ∧ [] = O))
  (laws_eqLitS_L4 r O a b ((0 : Int)))) : XC Try.prog 94 [(L a), (L b)] [] r O :=
  xc_of (E := env) (hs := laws_eqLitS_h) (c := (bodyOf Try.f94)) (n := 27) (res := [.tmp 4]) (rs := .c .b) (ks := []) (dir := []) envOk mixed rfl Try.func94 (by kernel_rfl) (by kernel_rfl) (by kernel_rfl) (by kernel_rfl) (to_vc (by kernel_rfl) h)

/-- loop.example/g00461/spec.LitBefore -/
def spec_LitBefore_h : Hints := ⟨[], []⟩
theorem spec_LitBefore_of {a : Bool} {a1 : Int} {a2 : Int} {a3 : List (List Da)} {a4 : Int} {a5 : Int} {a6 : List (List Da)} {b : Bool} {b1 : Int} {b2 : Int} {b3 : List (List Da)} {b4 : Int} {b5 : Int} {b6 : List (List Da)} {r : AV} {O : List (Nat × Ob)} (h : ifB (decide (a ≠ b))
  (((B b) = r ∧ [] = O))
  ((∃ (b7 : Bool), (XC Try.prog 121 [(.dat [(.int .i64 a1), (.int .i64 a2), (.sl a3)]), (.dat [(.int .i64 b1), (.int .i64 b2), (.sl b3)])] [] (B b7) [] ∧ ifB (!b7)
  ((∃ (b8 : Bool), (XC Try.prog 77 [(.dat [(.int .i64 a1), (.int .i64 a2), (.sl a3)]), (.dat [(.int .i64 b1), (.int .i64 b2), (.sl b3)])] [] (B b8) [] ∧ ((B b8) = r ∧ [] = O))))
  ((∃ (b9 : Bool), (XC Try.prog 77 [(.dat [(.int .i64 a4), (.int .i64 a5), (.sl a6)]), (.dat [(.int .i64 b4), (.int .i64 b5), (.sl b6)])] [] (B b9) [] ∧ ((B b9) = r ∧ [] = O)))))))) : XC Try.prog 95 [(.dat [(.bool a), (.int .i64 a1), (.int .i64 a2), (.sl a3), (.int .i64 a4), (.int .i64 a5), (.sl a6)]), (.dat [(.bool b), (.int .i64 b1), (.int .i64 b2), (.sl b3), (.int .i64 b4), (.int .i64 b5), (.sl b6)])] [] r O :=
  xc_of (E := env) (hs := spec_LitBefore_h) (c := (bodyOf Try.f95)) (n := 28) (res := [.tmp 4]) (rs := .c .b) (ks := []) (dir := []) envOk mixed rfl Try.func95 (by kernel_rfl) (by kernel_rfl) (by kernel_rfl) (by kernel_rfl) (to_vc (by kernel_rfl) h)

/-- loop.example/g00461/impl.LitBefore -/
def impl_LitBefore_h : Hints := ⟨[], []⟩
theorem impl_LitBefore_of {a : Bool} {a1 : Int} {a2 : Int} {a3 : List (List Da)} {a4 : Int} {a5 : Int} {a6 : List (List Da)} {b : Bool} {b1 : Int} {b2 : Int} {b3 : List (List Da)} {b4 : Int} {b5 : Int} {b6 : List (List Da)} {r : AV} {O : List (Nat × Ob)} (h : (∃ (n : Int), (XC Try.prog 132 [(.dat [(.bool a), (.int .i64 a1), (.int .i64 a2), (.sl a3), (.int .i64 a4), (.int .i64 a5), (.sl a6)]), (.dat [(.bool b), (.int .i64 b1), (.int .i64 b2), (.sl b3), (.int .i64 b4), (.int .i64 b5), (.sl b6)])] [] (Z n) [] ∧ ((B (decide (n < (0 : Int)))) = r ∧ [] = O)))) : XC Try.prog 96 [(.dat [(.bool a), (.int .i64 a1), (.int .i64 a2), (.sl a3), (.int .i64 a4), (.int .i64 a5), (.sl a6)]), (.dat [(.bool b), (.int .i64 b1), (.int .i64 b2), (.sl b3), (.int .i64 b4), (.int .i64 b5), (.sl b6)])] [] r O :=
  xc_of (E := env) (hs := impl_LitBefore_h) (c := (bodyOf Try.f96)) (n := 9) (res := [.tmp 4]) (rs := .c .b) (ks := []) (dir := []) envOk mixed rfl Try.func96 (by kernel_rfl) (by kernel_rfl) (by kernel_rfl) (by kernel_rfl) (to_vc (by kernel_rfl) h)

/-- loop.example/g00461/spec.l14Below -/
def spec_l14Below_h : Hints := ⟨[], []⟩
theorem spec_l14Below_of {t : Int} {t1 : Int} {t2 : List (List Da)} {n : Int} {r : AV} {O : List (Nat × Ob)} (h : (∃ (xs : List (List Da)), (XC Try.prog 98 [(.dat [(.int .i64 t), (.int .i64 t1), (.sl t2)])] [] (L xs) [] ∧ ifB (decide ((↑(List.length xs) : Int) = (0 : Int)))
  (((B (true)) = r ∧ [] = O))
  ((∃ (m : Nat), ((IntKind.wrap IntKind.i64 ((↑(List.length xs) : Int) - (1 : Int))) = ((↑m : Int)) ∧ (∃ (n1 : Int), ((xs[m]?) = some [(.int .i64 n1)] ∧ ((B (decide (n1 < n))) = r ∧ [] = O))))))))) : XC Try.prog 97 [(.dat [(.int .i64 t), (.int .i64 t1), (.sl t2)]), (Z n)] [] r O :=
  xc_of (E := env) (hs := spec_l14Below_h) (c := (bodyOf Try.f97)) (n := 21) (res := [.tmp 4]) (rs := .c .b) (ks := []) (dir := []) envOk mixed rfl Try.func97 (by kernel_rfl) (by kernel_rfl) (by kernel_rfl) (by kernel_rfl) (to_vc (by kernel_rfl) h)

/-- loop.example/g00461/spec.VarsOf -/
def spec_VarsOf_h : Hints := ⟨[], []⟩
theorem spec_VarsOf_of {t : Int} {t1 : Int} {t2 : List (List Da)} {r : AV} {O : List (Nat × Ob)} (h : (∃ (xs : List (List Da)), (XC Try.prog 106 [(.dat [(.int .i64 t), (.int .i64 t1), (.sl t2)]), (L [])] [] (L xs) [] ∧ ((L xs) = r ∧ [] = O)))) : XC Try.prog 98 [(.dat [(.int .i64 t), (.int .i64 t1), (.sl t2)])] [] r O :=
  xc_of (E := env) (hs := spec_VarsOf_h) (c := (bodyOf Try.f98)) (n := 6) (res := [.tmp 2]) (rs := .c .l) (ks := []) (dir := []) envOk mixed rfl Try.func98 (by kernel_rfl) (by kernel_rfl) (by kernel_rfl) (by kernel_rfl) (to_vc (by kernel_rfl) h)

/-- loop.example/g00461/spec.Count -/
def spec_Count_h : Hints := ⟨[(3, ⟨[1, 2, 5, 6], [], [], []⟩)], []⟩
def spec_Count_L3 (r : AV) (O : List (Nat × Ob)) (v : Int) (n : Int) (i : Int) (t : Int) (t1 : Int) (t2 : List (List Da)) : Prop := CL 34 Try.prog (subC (bodyOf Try.f99) [1, 1, 0, 1, 0, 0]) (kont Try.prog env spec_Count_h 34 (bodyOf Try.f99) [1, 1, 0, 1, 0, 0] (vRet env [.tmp 4] (.c (.i .i64)) [] [] r O) (retKE (vRet env [.tmp 4] (.c (.i .i64)) [] [] r O))).1 (kont Try.prog env spec_Count_h 34 (bodyOf Try.f99) [1, 1, 0, 1, 0, 0] (vRet env [.tmp 4] (.c (.i .i64)) [] [] r O) (retKE (vRet env [.tmp 4] (.c (.i .i64)) [] [] r O))).2 ⟨[(1, (Z v)), (2, (.one (.op 1900 0))), (5, (Z n)), (6, (Z i))], [(1900, (.var [(.d (.int .i64 t)), (.d (.int .i64 t1)), (.d (.sl t2))]))]⟩
theorem spec_Count_L3_of {r : AV} {O : List (Nat × Ob)} {v : Int} {n : Int} {i : Int} {t : Int} {t1 : Int} {t2 : List (List Da)} (h : ifB (decide (i < (↑(List.length t2) : Int)))
  ((∃ (m : Nat), (i = ((↑m : Int)) ∧ (∃ (n1 : Int), (∃ (n2 : Int), (∃ (xs : List (List Da)), ((t2[m]?) = some [(.int .i64 n1), (.int .i64 n2), (.sl xs)] ∧ (∃ (n3 : Int), (XC Try.prog 99 [(.dat [(.int .i64 n1), (.int .i64 n2), (.sl xs)]), (Z v)] [] (Z n3) [] ∧ spec_Count_L3 r O v (IntKind.wrap IntKind.i64 (n + n3)) (IntKind.wrap IntKind.i64 (i + (1 : Int))) t t1 t2)))))))))
  (((Z n) = r ∧ [] = O))) : spec_Count_L3 r O v n i t t1 t2 := by
  unfold spec_Count_L3
  refine cl_of (E := env) (hs := spec_Count_h) envOk mixed ?_
  exact to_vc (by kernel_rfl) h
theorem spec_Count_of {t : Int} {t1 : Int} {t2 : List (List Da)} {v : Int} {r : AV} {O : List (Nat × Ob)} (h : ifB (decide (t = (-1 : Int)))
  ((∃ (n : Int), (XC Try.prog 133 [(B (decide (t1 = v)))] [] (Z n) [] ∧ spec_Count_L3 r O v n ((0 : Int)) t t1 t2)))
  ((∃ (n1 : Int), (XC Try.prog 133 [(B (false))] [] (Z n1) [] ∧ spec_Count_L3 r O v n1 ((0 : Int)) t t1 t2)))) : XC Try.prog 99 [(.dat [(.int .i64 t), (.int .i64 t1), (.sl t2)]), (Z v)] [] r O :=
  xc_of (E := env) (hs := spec_Count_h) (c := (bodyOf Try.f99)) (n := 34) (res := [.tmp 4]) (rs := .c (.i .i64)) (ks := []) (dir := []) envOk mixed rfl Try.func99 (by kernel_rfl) (by kernel_rfl) (by kernel_rfl) (by kernel_rfl) (to_vc (by kernel_rfl) h)

/-- loop.example/g00461/impl.VarsOf -/
def impl_VarsOf_h : Hints := ⟨[], []⟩
theorem impl_VarsOf_of {t : Int} {t1 : Int} {t2 : List (List Da)} {r : AV} {O : List (Nat × Ob)} (h : (∃ (xs : List (List Da)), Stop 2 2)) : XC Try.prog 100 [(.dat [(.int .i64 t), (.int .i64 t1), (.sl t2)])] [] r O :=
  xc_of (E := env) (hs := impl_VarsOf_h) (c := (bodyOf Try.f100)) (n := 9) (res := [.tmp 2]) (rs := .c .l) (ks := []) (dir := []) envOk mixed rfl Try.func100 (by kernel_rfl) (by kernel_rfl) (by kernel_rfl) (by kernel_rfl) (to_vc (by kernel_rfl) h)

/-- loop.example/g00461/impl.isVar -/
def impl_isVar_h : Hints := ⟨[], []⟩
theorem impl_isVar_of {t : Int} {t1 : Int} {t2 : List (List Da)} {r : AV} {O : List (Nat × Ob)} (h : ((B (decide (t = (-1 : Int)))) = r ∧ [] = O)) : XC Try.prog 101 [(.dat [(.int .i64 t), (.int .i64 t1), (.sl t2)])] [] r O :=
  xc_of (E := env) (hs := impl_isVar_h) (c := (bodyOf Try.f101)) (n := 6) (res := [.tmp 2]) (rs := .c .b) (ks := []) (dir := []) envOk mixed rfl Try.func101 (by kernel_rfl) (by kernel_rfl) (by kernel_rfl) (by kernel_rfl) (to_vc (by kernel_rfl) h)

/-- slices.ContainsFunc[[]int,int] -/
def slices_ContainsFunc_int_impl_RuleOk_1_h : Hints := ⟨[], []⟩
theorem slices_ContainsFunc_int_impl_RuleOk_1_of {s : List (List Da)} {r : AV} {O : List (Nat × Ob)} (h : (∃ (n : Int), (XC Try.prog 136 [(L s), (.one (.d (.fn 103)))] [] (Z n) [] ∧ ((B (decide ((0 : Int) ≤ n))) = r ∧ [] = O)))) : XC Try.prog 102 [(L s), (.one (.d (.fn 103)))] [] r O :=
  xc_of (E := env) (hs := slices_ContainsFunc_int_impl_RuleOk_1_h) (c := (bodyOf Try.f102)) (n := 9) (res := [.tmp 4]) (rs := .c .b) (ks := []) (dir := []) envOk mixed rfl Try.func102 (by kernel_rfl) (by kernel_rfl) (by kernel_rfl) (by kernel_rfl) (to_vc (by kernel_rfl) h)

/-- slices.ContainsFunc[[]int,int] -/
def slices_ContainsFunc_int_impl_RuleOk_2_h : Hints := ⟨[], []⟩
theorem slices_ContainsFunc_int_impl_RuleOk_2_of {s : List (List Da)} {o2000 : List (List Da)} {r : AV} {O : List (Nat × Ob)} (h : (∃ (n : Int), (∃ (xs : List (List Da)), (XC Try.prog 136 [(L s), (.one (.clo 104 [(2000, 0)]))] [(2000, (.var [(.d (.sl o2000))]))] (Z n) [(2000, (.var [(.d (.sl xs))]))] ∧ ((B (decide ((0 : Int) ≤ n))) = r ∧ [(2000, (.var [(.d (.sl xs))]))] = O))))) : XC Try.prog 102 [(L s), (.one (.clo 104 [(2000, 0)]))] [(2000, (.var [(.d (.sl o2000))]))] r O :=
  xc_of (E := env) (hs := slices_ContainsFunc_int_impl_RuleOk_2_h) (c := (bodyOf Try.f102)) (n := 9) (res := [.tmp 4]) (rs := .c .b) (ks := [(2000, (true))]) (dir := [2000]) envOk mixed rfl Try.func102 (by kernel_rfl) (by kernel_rfl) (by kernel_rfl) (by kernel_rfl) (to_vc (by kernel_rfl) h)

/-- loop.example/g00461/laws.markLitS -/
def laws_markLitS_h : Hints := ⟨[(2, ⟨[0, 1, 5], [], [], []⟩)], []⟩
def laws_markLitS_L2 (r : AV) (O : List (Nat × Ob)) (s0 : List (List Da)) (s1 : Int) (s5 : Int) : Prop := CL 70 Try.prog (subC (bodyOf Try.f109) [1, 0, 1, 0, 0]) (kont Try.prog env laws_markLitS_h 70 (bodyOf Try.f109) [1, 0, 1, 0, 0] (vRet env [.tmp 4] (.c (.i .i64)) [] [] r O) (retKE (vRet env [.tmp 4] (.c (.i .i64)) [] [] r O))).1 (kont Try.prog env laws_markLitS_h 70 (bodyOf Try.f109) [1, 0, 1, 0, 0] (vRet env [.tmp 4] (.c (.i .i64)) [] [] r O) (retKE (vRet env [.tmp 4] (.c (.i .i64)) [] [] r O))).2 ⟨[(0, (L s0)), (1, (Z s1)), (5, (Z s5))], []⟩
theorem laws_markLitS_L2_of {r : AV} {O : List (Nat × Ob)} {s0 : List (List Da)} {s1 : Int} {s5 : Int} (h : ifB (decide (s5 < (↑(List.length s0) : Int)))
  ((Do ((3 : Int) ≠ (0 : Int)) ∧ (∃ (m : Nat), (s5 = ((↑m : Int)) ∧ (∃ (b : Bool), (∃ (n : Int), (∃ (n1 : Int), (∃ (xs : List (List Da)), (∃ (n2 : Int), (∃ (n3 : Int), (∃ (xs1 : List (List Da)), ((s0[m]?) = some [(.bool b), (.int .i64 n), (.int .i64 n1), (.sl xs), (.int .i64 n2), (.int .i64 n3), (.sl xs1)] ∧ Stop 4 7))))))))))))
  (((Z s1) = r ∧ [] = O))) : laws_markLitS_L2 r O s0 s1 s5 := by
  unfold laws_markLitS_L2
  refine cl_of (E := env) (hs := laws_markLitS_h) envOk mixed ?_
  exact to_vc (by kernel_rfl) h
theorem laws_markLitS_of {p : List (List Da)} {p1 : Int} {r : AV} {O : List (Nat × Ob)} (h : laws_markLitS_L2 r O p p1 ((0 : Int))) : XC Try.prog 109 [(L p), (Z p1)] [] r O :=
  xc_of (E := env) (hs := laws_markLitS_h) (c := (bodyOf Try.f109)) (n := 70) (res := [.tmp 4]) (rs := .c (.i .i64)) (ks := []) (dir := []) envOk mixed rfl Try.func109 (by kernel_rfl) (by kernel_rfl) (by kernel_rfl) (by kernel_rfl) (to_vc (by kernel_rfl) h)

/-- loop.example/g00461/spec.NumIn -/
def spec_NumIn_h : Hints := ⟨[(2, ⟨[0, 1, 5], [], [], []⟩)], []⟩
def spec_NumIn_L2 (r : AV) (O : List (Nat × Ob)) (list : List (List Da)) (n : Int) (i : Int) : Prop := CL 18 Try.prog (subC (bodyOf Try.f110) [1, 0, 1, 0, 0]) (kont Try.prog env spec_NumIn_h 18 (bodyOf Try.f110) [1, 0, 1, 0, 0] (vRet env [.tmp 4] (.c .b) [] [] r O) (retKE (vRet env [.tmp 4] (.c .b) [] [] r O))).1 (kont Try.prog env spec_NumIn_h 18 (bodyOf Try.f110) [1, 0, 1, 0, 0] (vRet env [.tmp 4] (.c .b) [] [] r O) (retKE (vRet env [.tmp 4] (.c .b) [] [] r O))).2 ⟨[(0, (L list)), (1, (Z n)), (5, (Z i))], []⟩
theorem spec_NumIn_L2_of {r : AV} {O : List (Nat × Ob)} {list : List (List Da)} {n : Int} {i : Int} (h : ifB (decide (i < (↑(List.length list) : Int)))
  ((∃ (m : Nat), (i = ((↑m : Int)) ∧ (∃ (n2 : Int), ((list[m]?) = some [(.int .i64 n2)] ∧ ifB (decide (n2 = n))
  (((B (true)) = r ∧ [] = O))
  (spec_NumIn_L2 r O list n (IntKind.wrap IntKind.i64 (i + (1 : Int)))))))))
  (((B (false)) = r ∧ [] = O))) : spec_NumIn_L2 r O list n i := by
  unfold spec_NumIn_L2
  refine cl_of (E := env) (hs := spec_NumIn_h) envOk mixed ?_
  exact to_vc (by kernel_rfl) h
theorem spec_NumIn_of {list : List (List Da)} {n : Int} {r : AV} {O : List (Nat × Ob)} (h : spec_NumIn_L2 r O list n ((0 : Int))) : XC Try.prog 110 [(L list), (Z n)] [] r O :=
  xc_of (E := env) (hs := spec_NumIn_h) (c := (bodyOf Try.f110)) (n := 18) (res := [.tmp 4]) (rs := .c .b) (ks := []) (dir := []) envOk mixed rfl Try.func110 (by kernel_rfl) (by kernel_rfl) (by kernel_rfl) (by kernel_rfl) (to_vc (by kernel_rfl) h)

/-- loop.example/g00461/spec.NumAdd -/
def spec_NumAdd_h : Hints := ⟨[(4, ⟨[0, 1, 5], [], [], []⟩)], []⟩
def spec_NumAdd_L4 (r : AV) (O : List (Nat × Ob)) (list : List (List Da)) (n : Int) (at_ : Int) : Prop := CL 41 Try.prog (subC (bodyOf Try.f111) [1, 1, 1, 0, 0, 0]) (kont Try.prog env spec_NumAdd_h 41 (bodyOf Try.f111) [1, 1, 1, 0, 0, 0] (vRet env [.tmp 4] (.c .l) [] [] r O) (retKE (vRet env [.tmp 4] (.c .l) [] [] r O))).1 (kont Try.prog env spec_NumAdd_h 41 (bodyOf Try.f111) [1, 1, 1, 0, 0, 0] (vRet env [.tmp 4] (.c .l) [] [] r O) (retKE (vRet env [.tmp 4] (.c .l) [] [] r O))).2 ⟨[(0, (L list)), (1, (Z n)), (5, (Z at_))], []⟩
theorem spec_NumAdd_L4_of {r : AV} {O : List (Nat × Ob)} {list : List (List Da)} {n : Int} {at_ : Int} (h : ifB (decide (at_ < (↑(List.length list) : Int)))
  ((∃ (m : Nat), (at_ = ((↑m : Int)) ∧ (∃ (n2 : Int), ((list[m]?) = some [(.int .i64 n2)] ∧ ifB (decide (n2 < n))
  (spec_NumAdd_L4 r O list n (IntKind.wrap IntKind.i64 (at_ + (1 : Int))))
  ((∃ (n3 : Nat), (at_ = ((↑n3 : Int)) ∧ (Do ((0 : Nat) ≤ n3 ∧ n3 ≤ List.length list) ∧ (Do (∀ (c : List Da), c ∈ list → List.length c = TI.n { agg := false, n := (1 : Nat), b := (8 : Nat), el := none, fs := [], pr := (3 : Nat), ik := some IntKind.i64 }) ∧ (Do (∀ (y : List Da), y ∈ List.drop (0 : Nat) (List.take n3 list) → List.length y = Prod.fst ((1 : Nat), (8 : Nat), [At.d (Da.int IntKind.i64 (0 : Int))])) ∧ (Do ((List.length ([] : List (List Da)) + List.length (List.drop (0 : Nat) (List.take n3 list))) * Prod.fst ((8 : Nat), [At.d (Da.int IntKind.i64 (0 : Int))]) ≤ (140737488355328 : Nat)) ∧ (Do ((List.length ([] ++ List.drop (0 : Nat) (List.take n3 list)) + List.length [[Da.int IntKind.i64 n]]) * Prod.fst ((8 : Nat), [At.d (Da.int IntKind.i64 (0 : Int))]) ≤ (140737488355328 : Nat)) ∧ (∃ (n4 : Nat), (at_ = ((↑n4 : Int)) ∧ (Do (n4 ≤ List.length list ∧ List.length list ≤ List.length list) ∧ (Do (∀ (c : List Da), c ∈ list → List.length c = TI.n { agg := false, n := (1 : Nat), b := (8 : Nat), el := none, fs := [], pr := (3 : Nat), ik := some IntKind.i64 }) ∧ (Do (∀ (y : List Da), y ∈ List.drop n4 (List.take (List.length list) list) → List.length y = Prod.fst ((1 : Nat), (8 : Nat), [At.d (Da.int IntKind.i64 (0 : Int))])) ∧ (Do ((List.length ([] ++ List.drop (0 : Nat) (List.take n3 list) ++ [[Da.int IntKind.i64 n]]) + List.length (List.drop n4 (List.take (List.length list) list))) * Prod.fst ((8 : Nat), [At.d (Da.int IntKind.i64 (0 : Int))]) ≤ (140737488355328 : Nat)) ∧ ((L ([] ++ List.drop (0 : Nat) (List.take n3 list) ++ [[Da.int IntKind.i64 n]] ++ List.drop n4 (List.take (List.length list) list))) = r ∧ [] = O))))))))))))))))))))
  ((∃ (n5 : Nat), (at_ = ((↑n5 : Int)) ∧ (Do ((0 : Nat) ≤ n5 ∧ n5 ≤ List.length list) ∧ (Do (∀ (c : List Da), c ∈ list → List.length c = TI.n { agg := false, n := (1 : Nat), b := (8 : Nat), el := none, fs := [], pr := (3 : Nat), ik := some IntKind.i64 }) ∧ (Do (∀ (y : List Da), y ∈ List.drop (0 : Nat) (List.take n5 list) → List.length y = Prod.fst ((1 : Nat), (8 : Nat), [At.d (Da.int IntKind.i64 (0 : Int))])) ∧ (Do ((List.length ([] : List (List Da)) + List.length (List.drop (0 : Nat) (List.take n5 list))) * Prod.fst ((8 : Nat), [At.d (Da.int IntKind.i64 (0 : Int))]) ≤ (140737488355328 : Nat)) ∧ (Do ((List.length ([] ++ List.drop (0 : Nat) (List.take n5 list)) + List.length [[Da.int IntKind.i64 n]]) * Prod.fst ((8 : Nat), [At.d (Da.int IntKind.i64 (0 : Int))]) ≤ (140737488355328 : Nat)) ∧ (∃ (n6 : Nat), (at_ = ((↑n6 : Int)) ∧ (Do (n6 ≤ List.length list ∧ List.length list ≤ List.length list) ∧ (Do (∀ (c : List Da), c ∈ list → List.length c = TI.n { agg := false, n := (1 : Nat), b := (8 : Nat), el := none, fs := [], pr := (3 : Nat), ik := some IntKind.i64 }) ∧ (Do (∀ (y : List Da), y ∈ List.drop n6 (List.take (List.length list) list) → List.length y = Prod.fst ((1 : Nat), (8 : Nat), [At.d (Da.int IntKind.i64 (0 : Int))])) ∧ (Do ((List.length ([] ++ List.drop (0 : Nat) (List.take n5 list) ++ [[Da.int IntKind.i64 n]]) + List.length (List.drop n6 (List.take (List.length list) list))) * Prod.fst ((8 : Nat), [At.d (Da.int IntKind.i64 (0 : Int))]) ≤ (140737488355328 : Nat)) ∧ ((L ([] ++ List.drop (0 : Nat) (List.take n5 list) ++ [[Da.int IntKind.i64 n]] ++ List.drop n6 (List.take (List.length list) list))) = r ∧ [] = O)))))))))))))))) : spec_NumAdd_L4 r O list n at_ := by
  unfold spec_NumAdd_L4
  refine cl_of (E := env) (hs := spec_NumAdd_h) envOk mixed ?_
  exact to_vc (by kernel_rfl) h
theorem spec_NumAdd_of {list : List (List Da)} {n : Int} {r : AV} {O : List (Nat × Ob)} (h : (∃ (b : Bool), (XC Try.prog 110 [(L list), (Z n)] [] (B b) [] ∧ ifB b
  ((Do (∀ (y : List Da), y ∈ list → List.length y = Prod.fst ((1 : Nat), (8 : Nat), [At.d (Da.int IntKind.i64 (0 : Int))])) ∧ (Do ((List.length ([] : List (List Da)) + List.length list) * Prod.fst ((8 : Nat), [At.d (Da.int IntKind.i64 (0 : Int))]) ≤ (140737488355328 : Nat)) ∧ ((L ([] ++ list)) = r ∧ [] = O))))
  (spec_NumAdd_L4 r O list n ((0 : Int)))))) : XC Try.prog 111 [(L list), (Z n)] [] r O :=
  xc_of (E := env) (hs := spec_NumAdd_h) (c := (bodyOf Try.f111)) (n := 41) (res := [.tmp 4]) (rs := .c .l) (ks := []) (dir := []) envOk mixed rfl Try.func111 (by kernel_rfl) (by kernel_rfl) (by kernel_rfl) (by kernel_rfl) (to_vc (by kernel_rfl) h)

/-- loop.example/g00461/impl.NumIn -/
def impl_NumIn_h : Hints := ⟨[], []⟩
theorem impl_NumIn_of {list : List (List Da)} {n : Int} {r : AV} {O : List (Nat × Ob)} (h : (∃ (b : Bool), (XC Try.prog 137 [(L list), (Z n)] [] (B b) [] ∧ ((B b) = r ∧ [] = O)))) : XC Try.prog 105 [(L list), (Z n)] [] r O :=
  xc_of (E := env) (hs := impl_NumIn_h) (c := (bodyOf Try.f105)) (n := 8) (res := [.tmp 4]) (rs := .c .b) (ks := []) (dir := []) envOk mixed rfl Try.func105 (by kernel_rfl) (by kernel_rfl) (by kernel_rfl) (by kernel_rfl) (to_vc (by kernel_rfl) h)

/-- loop.example/g00461/impl.standsOn -/
def impl_standsOn_h : Hints := ⟨[], []⟩
theorem impl_standsOn_of {log : List (List Da)} {n : Int} {r : AV} {O : List (Nat × Ob)} (h : (∃ (m : Nat), (n = ((↑m : Int)) ∧ (∃ (n1 : Int), (∃ (n2 : Int), (∃ (n3 : Int), (∃ (n4 : Int), (∃ (n5 : Int), (∃ (b : Bool), (∃ (b1 : Bool), (∃ (xs : List (List Da)), (∃ (b2 : Bool), (∃ (xs1 : List (List Da)), (∃ (xs2 : List (List Da)), ((log[m]?) = some [(.int .i64 n1), (.int .i64 n2), (.int .i64 n3), (.int .i64 n4), (.int .i64 n5), (.bool b), (.bool b1), (.sl xs), (.bool b2), (.sl xs1), (.sl xs2)] ∧ ifB (decide (n1 ≠ (1 : Int)))
  ((∃ (b3 : Bool), (XC Try.prog 86 [(Z n2), (Z ((0 : Int))), (Z (IntKind.wrap IntKind.i64 (n - (1 : Int))))] [] (B b3) [] ∧ ifB b3
  ((Do ((List.length ([] : List (List Da)) + List.length [[Da.int IntKind.i64 n2]]) * Prod.fst ((8 : Nat), [At.d (Da.int IntKind.i64 (0 : Int))]) ≤ (140737488355328 : Nat)) ∧ (∃ (b4 : Bool), (XC Try.prog 143 [(.dat [(.int .i64 n1), (.int .i64 n2), (.int .i64 n3), (.int .i64 n4), (.int .i64 n5), (.bool b), (.bool b1), (.sl xs), (.bool b2), (.sl xs1), (.sl xs2)])] [] (B b4) [] ∧ ifB b4
  ((∃ (b5 : Bool), (XC Try.prog 86 [(Z n3), (Z ((0 : Int))), (Z (IntKind.wrap IntKind.i64 (n - (1 : Int))))] [] (B b5) [] ∧ ifB b5
  ((∃ (xs3 : List (List Da)), (XC Try.prog 108 [(L ([] ++ [[Da.int IntKind.i64 n2]])), (Z n3)] [] (L xs3) [] ∧ ((L xs3) = r ∧ [] = O))))
  (((L ([] ++ [[Da.int IntKind.i64 n2]])) = r ∧ [] = O)))))
  (((L ([] ++ [[Da.int IntKind.i64 n2]])) = r ∧ [] = O))))))
  ((∃ (b6 : Bool), (XC Try.prog 143 [(.dat [(.int .i64 n1), (.int .i64 n2), (.int .i64 n3), (.int .i64 n4), (.int .i64 n5), (.bool b), (.bool b1), (.sl xs), (.bool b2), (.sl xs1), (.sl xs2)])] [] (B b6) [] ∧ ifB b6
  ((∃ (b7 : Bool), (XC Try.prog 86 [(Z n3), (Z ((0 : Int))), (Z (IntKind.wrap IntKind.i64 (n - (1 : Int))))] [] (B b7) [] ∧ ifB b7
  ((∃ (xs4 : List (List Da)), (XC Try.prog 108 [(L []), (Z n3)] [] (L xs4) [] ∧ ((L xs4) = r ∧ [] = O))))
  (((L []) = r ∧ [] = O)))))
  (((L []) = r ∧ [] = O))))))))
  ((∃ (b8 : Bool), (XC Try.prog 143 [(.dat [(.int .i64 n1), (.int .i64 n2), (.int .i64 n3), (.int .i64 n4), (.int .i64 n5), (.bool b), (.bool b1), (.sl xs), (.bool b2), (.sl xs1), (.sl xs2)])] [] (B b8) [] ∧ ifB b8
  ((∃ (b9 : Bool), (XC Try.prog 86 [(Z n3), (Z ((0 : Int))), (Z (IntKind.wrap IntKind.i64 (n - (1 : Int))))] [] (B b9) [] ∧ ifB b9
  ((∃ (xs5 : List (List Da)), (XC Try.prog 108 [(L []), (Z n3)] [] (L xs5) [] ∧ ((L xs5) = r ∧ [] = O))))
  (((L []) = r ∧ [] = O)))))
  (((L []) = r ∧ [] = O)))))))))))))))))))) : XC Try.prog 112 [(L log), (Z n)] [] r O :=
  xc_of (E := env) (hs := impl_standsOn_h) (c := (bodyOf Try.f112)) (n := 41) (res := [.tmp 4]) (rs := .c .l) (ks := []) (dir := []) envOk mixed rfl Try.func112 (by kernel_rfl) (by kernel_rfl) (by kernel_rfl) (by kernel_rfl) (to_vc (by kernel_rfl) h)

/-- loop.example/g00461/impl.NumAdd -/
def impl_NumAdd_h : Hints := ⟨[], []⟩
theorem impl_NumAdd_of {list : List (List Da)} {n : Int} {r : AV} {O : List (Nat × Ob)} (h : (∃ (xs : List (List Da)), (XC Try.prog 139 [(L list)] [] (L xs) [] ∧ (∃ (b : Bool), (XC Try.prog 105 [(L list), (Z n)] [] (B b) [] ∧ ifB b
  (((L xs) = r ∧ [] = O))
  ((∃ (n1 : Int), (∃ (m : Int), (XC Try.prog 136 [(L list), (.one (.clo 140 [(2000, 0)]))] [(2000, (.var [(.d (.int .i64 n))]))] (Z n1) [(2000, (.var [(.d (.int .i64 m))]))] ∧ ifB (decide (n1 < (0 : Int)))
  ((∃ (xs1 : List (List Da)), (XC Try.prog 141 [(L xs), (Z ((↑(List.length list) : Int))), (L [[(.int .i64 m)]])] [] (L xs1) [] ∧ ((L xs1) = r ∧ [] = O))))
  ((∃ (xs2 : List (List Da)), (XC Try.prog 141 [(L xs), (Z n1), (L [[(.int .i64 m)]])] [] (L xs2) [] ∧ ((L xs2) = r ∧ [] = O))))))))))))) : XC Try.prog 108 [(L list), (Z n)] [] r O :=
  xc_of (E := env) (hs := impl_NumAdd_h) (c := (bodyOf Try.f108)) (n := 25) (res := [.tmp 4]) (rs := .c .l) (ks := []) (dir := []) envOk mixed rfl Try.func108 (by kernel_rfl) (by kernel_rfl) (by kernel_rfl) (by kernel_rfl) (to_vc (by kernel_rfl) h)

/-- loop.example/g00461/laws.szTermS -/
def laws_szTermS_h : Hints := ⟨[(5, ⟨[0, 1, 5], [], [], []⟩)], []⟩
def laws_szTermS_L5 (r : AV) (O : List (Nat × Ob)) (a : List (List Da)) (left : Int) (i : Int) : Prop := CL 27 Try.prog (subC (bodyOf Try.f114) [1, 1, 1, 0, 1, 0, 0]) (kont Try.prog env laws_szTermS_h 27 (bodyOf Try.f114) [1, 1, 1, 0, 1, 0, 0] (vRet env [.tmp 4] (.c (.i .i64)) [] [] r O) (retKE (vRet env [.tmp 4] (.c (.i .i64)) [] [] r O))).1 (kont Try.prog env laws_szTermS_h 27 (bodyOf Try.f114) [1, 1, 1, 0, 1, 0, 0] (vRet env [.tmp 4] (.c (.i .i64)) [] [] r O) (retKE (vRet env [.tmp 4] (.c (.i .i64)) [] [] r O))).2 ⟨[(0, (L a)), (1, (Z left)), (5, (Z i))], []⟩
theorem laws_szTermS_L5_of {r : AV} {O : List (Nat × Ob)} {a : List (List Da)} {left : Int} {i : Int} (h : ifB (decide (i < (↑(List.length a) : Int)))
  ((∃ (m : Nat), (i = ((↑m : Int)) ∧ (∃ (n : Int), (∃ (n1 : Int), (∃ (xs : List (List Da)), ((a[m]?) = some [(.int .i64 n), (.int .i64 n1), (.sl xs)] ∧ (∃ (n2 : Int), (XC Try.prog 69 [(.dat [(.int .i64 n), (.int .i64 n1), (.sl xs)]), (Z left)] [] (Z n2) [] ∧ ifB (decide (n2 < (0 : Int)))
  (((Z ((-1 : Int))) = r ∧ [] = O))
  (laws_szTermS_L5 r O a n2 (IntKind.wrap IntKind.i64 (i + (1 : Int)))))))))))))
  (((Z left) = r ∧ [] = O))) : laws_szTermS_L5 r O a left i := by
  unfold laws_szTermS_L5
  refine cl_of (E := env) (hs := laws_szTermS_h) envOk mixed ?_
  exact to_vc (by kernel_rfl) h
theorem laws_szTermS_of {a : List (List Da)} {left : Int} {r : AV} {O : List (Nat × Ob)} (h : ifB (decide (IntKind.wrap IntKind.i64 (left - (↑(List.length a) : Int)) < (0 : Int)))
  (((Z ((-1 : Int))) = r ∧ [] = O))
  (laws_szTermS_L5 r O a (IntKind.wrap IntKind.i64 (left - (↑(List.length a) : Int))) ((0 : Int)))) : XC Try.prog 114 [(L a), (Z left)] [] r O :=
  xc_of (E := env) (hs := laws_szTermS_h) (c := (bodyOf Try.f114)) (n := 27) (res := [.tmp 4]) (rs := .c (.i .i64)) (ks := []) (dir := []) envOk mixed rfl Try.func114 (by kernel_rfl) (by kernel_rfl) (by kernel_rfl) (by kernel_rfl) (to_vc (by kernel_rfl) h)

/-- loop.example/g00461/laws.toTermS -/
def laws_toTermS_h : Hints := ⟨[(3, ⟨[0, 3, 4], [], [], []⟩)], []⟩
def laws_toTermS_L3 (r : AV) (O : List (Nat × Ob)) (a : List (List Da)) (i : Int) (out : List (List Da)) : Prop := CL 23 Try.prog (subC (bodyOf Try.f115) [1, 1, 0, 1, 0, 0]) (kont Try.prog env laws_toTermS_h 23 (bodyOf Try.f115) [1, 1, 0, 1, 0, 0] (vRet env [.tmp 2] (.c .l) [] [] r O) (retKE (vRet env [.tmp 2] (.c .l) [] [] r O))).1 (kont Try.prog env laws_toTermS_h 23 (bodyOf Try.f115) [1, 1, 0, 1, 0, 0] (vRet env [.tmp 2] (.c .l) [] [] r O) (retKE (vRet env [.tmp 2] (.c .l) [] [] r O))).2 ⟨[(0, (L a)), (3, (.one (.ol 1900))), (4, (Z i))], [(1900, (.lst 35 3 out))]⟩
theorem laws_toTermS_L3_of {r : AV} {O : List (Nat × Ob)} {a : List (List Da)} {i : Int} {out : List (List Da)} (h : ifB (decide (i < (↑(List.length a) : Int)))
  ((∃ (m : Nat), (i = ((↑m : Int)) ∧ (∃ (n : Int), (∃ (n1 : Int), (∃ (xs : List (List Da)), ((a[m]?) = some [(.int .i64 n), (.int .i64 n1), (.sl xs)] ∧ (∃ (n2 : Int), (∃ (n3 : Int), (∃ (xs1 : List (List Da)), (XC Try.prog 72 [(.dat [(.int .i64 n), (.int .i64 n1), (.sl xs)])] [] (.dat [(.int .i64 n2), (.int .i64 n3), (.sl xs1)]) [] ∧ (∃ (m1 : Nat), (i = ((↑m1 : Int)) ∧ (Do (m1 < List.length out) ∧ (∃ (m2 : Nat), ((m1 * (3 : Nat)) = (m2 * (3 : Nat) + (0 : Nat)) ∧ (∃ (n4 : Int), (∃ (n5 : Int), (∃ (xs2 : List (List Da)), ((out[m2]?) = some [(.int .i64 n4), (.int .i64 n5), (.sl xs2)] ∧ laws_toTermS_L3 r O a (IntKind.wrap IntKind.i64 (i + (1 : Int))) (List.set out m2 ([] ++ [Da.int IntKind.i64 n2, Da.int IntKind.i64 n3, Da.sl xs1] ++ []))))))))))))))))))))))
  (((L out) = r ∧ [] = O))) : laws_toTermS_L3 r O a i out := by
  unfold laws_toTermS_L3
  refine cl_of (E := env) (hs := laws_toTermS_h) envOk mixed ?_
  exact to_vc (by kernel_rfl) h
theorem laws_toTermS_of {a : List (List Da)} {r : AV} {O : List (Nat × Ob)} (h : (∃ (l : Nat), (∃ (c : Nat), (((↑(List.length a) : Int)) = ((↑l : Int)) ∧ (((↑(List.length a) : Int)) = ((↑c : Int)) ∧ (Do (l ≤ c ∧ Prod.fst ((40 : Nat), [At.d (Da.int IntKind.i64 (0 : Int)), At.d (Da.int IntKind.i64 (0 : Int)), At.e0]) * c ≤ (281474976710656 : Nat) ∧ c ≤ (281474976710656 : Nat)) ∧ laws_toTermS_L3 r O a ((0 : Int)) (List.replicate l [Da.int IntKind.i64 (0 : Int), Da.int IntKind.i64 (0 : Int), Da.sl []]))))))) : XC Try.prog 115 [(L a)] [] r O :=
  xc_of (E := env) (hs := laws_toTermS_h) (c := (bodyOf Try.f115)) (n := 23) (res := [.tmp 2]) (rs := .c .l) (ks := []) (dir := []) envOk mixed rfl Try.func115 (by kernel_rfl) (by kernel_rfl) (by kernel_rfl) (by kernel_rfl) (to_vc (by kernel_rfl) h)

/-- loop.example/g00461/impl.isSym -/
def impl_isSym_h : Hints := ⟨[], []⟩
theorem impl_isSym_of {s : List (List Da)} {f : Int} {r : AV} {O : List (Nat × Ob)} (h : (∃ (b : Bool), (XC Try.prog 86 [(Z f), (Z ((0 : Int))), (Z (IntKind.wrap IntKind.i64 ((↑(List.length s) : Int) - (1 : Int))))] [] (B b) [] ∧ ((B b) = r ∧ [] = O)))) : XC Try.prog 116 [(L s), (Z f)] [] r O :=
  xc_of (E := env) (hs := impl_isSym_h) (c := (bodyOf Try.f116)) (n := 10) (res := [.tmp 4]) (rs := .c .b) (ks := []) (dir := []) envOk mixed rfl Try.func116 (by kernel_rfl) (by kernel_rfl) (by kernel_rfl) (by kernel_rfl) (to_vc (by kernel_rfl) h)

/-- loop.example/g00461/laws.eqTermS -/
def laws_eqTermS_h : Hints := ⟨[(4, ⟨[0, 1, 5], [], [], []⟩)], []⟩
def laws_eqTermS_L4 (r : AV) (O : List (Nat × Ob)) (a : List (List Da)) (b : List (List Da)) (i : Int) : Prop := CL 27 Try.prog (subC (bodyOf Try.f117) [1, 1, 0, 1, 0, 0]) (kont Try.prog env laws_eqTermS_h 27 (bodyOf Try.f117) [1, 1, 0, 1, 0, 0] (vRet env [.tmp 4] (.c .b) [] [] r O) (retKE (vRet env [.tmp 4] (.c .b) [] [] r O))).1 (kont Try.prog env laws_eqTermS_h 27 (bodyOf Try.f117) [1, 1, 0, 1, 0, 0] (vRet env [.tmp 4] (.c .b) [] [] r O) (retKE (vRet env [.tmp 4] (.c .b) [] [] r O))).2 ⟨[(0, (L a)), (1, (L b)), (5, (Z i))], []⟩
theorem laws_eqTermS_L4_of {r : AV} {O : List (Nat × Ob)} {a : List (List Da)} {b : List (List Da)} {i : Int} (h : ifB (decide (i < (↑(List.length a) : Int)))
  ((∃ (m : Nat), (i = ((↑m : Int)) ∧ (∃ (n : Int), (∃ (n1 : Int), (∃ (xs : List (List Da)), ((a[m]?) = some [(.int .i64 n), (.int .i64 n1), (.sl xs)] ∧ (∃ (m1 : Nat), (i = ((↑m1 : Int)) ∧ (∃ (n2 : Int), (∃ (n3 : Int), (∃ (xs1 : List (List Da)), ((b[m1]?) = some [(.int .i64 n2), (.int .i64 n3), (.sl xs1)] ∧ (∃ (b2 : Bool), (XC Try.prog 75 [(.dat [(.int .i64 n), (.int .i64 n1), (.sl xs)]), (.dat [(.int .i64 n2), (.int .i64 n3), (.sl xs1)])] [] (B b2) [] ∧ ifB (!b2)
  (((B (false)) = r ∧ [] = O))
  (laws_eqTermS_L4 r O a b (IntKind.wrap IntKind.i64 (i + (1 : Int)))))))))))))))))))
  (((B (true)) = r ∧ [] = O))) : laws_eqTermS_L4 r O a b i := by
  unfold laws_eqTermS_L4
  refine cl_of (E := env) (hs := laws_eqTermS_h) envOk mixed ?_
  exact to_vc (by kernel_rfl) h
theorem laws_eqTermS_of {a : List (List Da)} {b : List (List Da)} {r : AV} {O : List (Nat × Ob)} (h : ifB (decide ((↑(List.length a) : Int) ≠ (↑(List.length b) : Int)))
  (((B (false)) = r ∧ [] = O))
  (laws_eqTermS_L4 r O a b ((0 : Int)))) : XC Try.prog 117 [(L a), (L b)] [] r O :=
  xc_of (E := env) (hs := laws_eqTermS_h) (c := (bodyOf Try.f117)) (n := 27) (res := [.tmp 4]) (rs := .c .b) (ks := []) (dir := []) envOk mixed rfl Try.func117 (by kernel_rfl) (by kernel_rfl) (by kernel_rfl) (by kernel_rfl) (to_vc (by kernel_rfl) h)

/-- loop.example/g00461/spec.SigOk -/
def spec_SigOk_h : Hints := ⟨[(2, ⟨[0, 3], [], [], []⟩)], []⟩
def spec_SigOk_L2 (r : AV) (O : List (Nat × Ob)) (s : List (List Da)) (i : Int) : Prop := CL 62 Try.prog (subC (bodyOf Try.f118) [1, 0, 1, 0, 0]) (kont Try.prog env spec_SigOk_h 62 (bodyOf Try.f118) [1, 0, 1, 0, 0] (vRet env [.tmp 2] (.c .b) [] [] r O) (retKE (vRet env [.tmp 2] (.c .b) [] [] r O))).1 (kont Try.prog env spec_SigOk_h 62 (bodyOf Try.f118) [1, 0, 1, 0, 0] (vRet env [.tmp 2] (.c .b) [] [] r O) (retKE (vRet env [.tmp 2] (.c .b) [] [] r O))).2 ⟨[(0, (L s)), (3, (Z i))], []⟩
theorem spec_SigOk_L2_of {r : AV} {O : List (Nat × Ob)} {s : List (List Da)} {i : Int} (h : ifB (decide (i < (↑(List.length s) : Int)))
  ((∃ (m : Nat), (i = ((↑m : Int)) ∧ (∃ (q : ByteArray), (∃ (n : Int), (∃ (b : Bool), ((s[m]?) = some [(.str q), (.int .i64 n), (.bool b)] ∧ (∃ (b1 : Bool), (XC Try.prog 144 [(T q)] [] (B b1) [] ∧ ifB (!b1)
  (((B (false)) = r ∧ [] = O))
  ((∃ (m1 : Nat), (i = ((↑m1 : Int)) ∧ (∃ (q1 : ByteArray), (∃ (n1 : Int), (∃ (b2 : Bool), ((s[m1]?) = some [(.str q1), (.int .i64 n1), (.bool b2)] ∧ (∃ (n2 : Int), (XC Try.prog 145 [(L s), (T q1)] [] (Z n2) [] ∧ ifB (decide (n2 ≠ i))
  (((B (false)) = r ∧ [] = O))
  ((∃ (m2 : Nat), (i = ((↑m2 : Int)) ∧ (∃ (q2 : ByteArray), (∃ (n3 : Int), (∃ (b3 : Bool), ((s[m2]?) = some [(.str q2), (.int .i64 n3), (.bool b3)] ∧ (∃ (b4 : Bool), (XC Try.prog 82 [(Z n3), (Z ((0 : Int))), (Z ((3 : Int)))] [] (B b4) [] ∧ ifB (!b4)
  (((B (false)) = r ∧ [] = O))
  ((∃ (m3 : Nat), (i = ((↑m3 : Int)) ∧ (∃ (q3 : ByteArray), (∃ (n4 : Int), (∃ (b5 : Bool), ((s[m3]?) = some [(.str q3), (.int .i64 n4), (.bool b5)] ∧ ifB b5
  ((∃ (m4 : Nat), (i = ((↑m4 : Int)) ∧ (∃ (q4 : ByteArray), (∃ (n5 : Int), (∃ (b6 : Bool), ((s[m4]?) = some [(.str q4), (.int .i64 n5), (.bool b6)] ∧ ifB (decide (n5 ≠ (2 : Int)))
  (((B (false)) = r ∧ [] = O))
  (spec_SigOk_L2 r O s (IntKind.wrap IntKind.i64 (i + (1 : Int)))))))))))
  (spec_SigOk_L2 r O s (IntKind.wrap IntKind.i64 (i + (1 : Int))))))))))))))))))))))))))))))))))))))
  ((∃ (b7 : Bool), (XC Try.prog 82 [(Z ((↑(List.length s) : Int))), (Z ((1 : Int))), (Z ((8 : Int)))] [] (B b7) [] ∧ ifB b7
  ((∃ (m5 : Nat), (((0 : Int)) = ((↑m5 : Int)) ∧ (∃ (q5 : ByteArray), (∃ (n6 : Int), (∃ (b8 : Bool), ((s[m5]?) = some [(.str q5), (.int .i64 n6), (.bool b8)] ∧ ((B (decide (q5 = { data := #[(116 : UInt8), (116 : UInt8)] }) && (decide (n6 = (0 : Int)) && decide (b8 = false)))) = r ∧ [] = O))))))))
  (((B (false)) = r ∧ [] = O)))))) : spec_SigOk_L2 r O s i := by
  unfold spec_SigOk_L2
  refine cl_of (E := env) (hs := spec_SigOk_h) envOk mixed ?_
  exact to_vc (by kernel_rfl) h
theorem spec_SigOk_of {s : List (List Da)} {r : AV} {O : List (Nat × Ob)} (h : spec_SigOk_L2 r O s ((0 : Int))) : XC Try.prog 118 [(L s)] [] r O :=
  xc_of (E := env) (hs := spec_SigOk_h) (c := (bodyOf Try.f118)) (n := 62) (res := [.tmp 2]) (rs := .c .b) (ks := []) (dir := []) envOk mixed rfl Try.func118 (by kernel_rfl) (by kernel_rfl) (by kernel_rfl) (by kernel_rfl) (to_vc (by kernel_rfl) h)

/-- loop.example/g00461/spec.Parts -/
def spec_Parts_h : Hints := ⟨[(3, ⟨[1, 3, 4], [], [], []⟩)], []⟩
def spec_Parts_L3 (r : AV) (O : List (Nat × Ob)) (n : Int) (i : Int) (t : Int) (t1 : Int) (t2 : List (List Da)) : Prop := CL 21 Try.prog (subC (bodyOf Try.f119) [1, 1, 0, 1, 0, 0]) (kont Try.prog env spec_Parts_h 21 (bodyOf Try.f119) [1, 1, 0, 1, 0, 0] (vRet env [.tmp 2] (.c (.i .i64)) [] [] r O) (retKE (vRet env [.tmp 2] (.c (.i .i64)) [] [] r O))).1 (kont Try.prog env spec_Parts_h 21 (bodyOf Try.f119) [1, 1, 0, 1, 0, 0] (vRet env [.tmp 2] (.c (.i .i64)) [] [] r O) (retKE (vRet env [.tmp 2] (.c (.i .i64)) [] [] r O))).2 ⟨[(1, (.one (.op 1900 0))), (3, (Z n)), (4, (Z i))], [(1900, (.var [(.d (.int .i64 t)), (.d (.int .i64 t1)), (.d (.sl t2))]))]⟩
theorem spec_Parts_L3_of {r : AV} {O : List (Nat × Ob)} {n : Int} {i : Int} {t : Int} {t1 : Int} {t2 : List (List Da)} (h : ifB (decide (i < (↑(List.length t2) : Int)))
  ((∃ (m : Nat), (i = ((↑m : Int)) ∧ (∃ (n1 : Int), (∃ (n2 : Int), (∃ (xs : List (List Da)), ((t2[m]?) = some [(.int .i64 n1), (.int .i64 n2), (.sl xs)] ∧ (∃ (n3 : Int), (XC Try.prog 119 [(.dat [(.int .i64 n1), (.int .i64 n2), (.sl xs)])] [] (Z n3) [] ∧ spec_Parts_L3 r O (IntKind.wrap IntKind.i64 (n + n3)) (IntKind.wrap IntKind.i64 (i + (1 : Int))) t t1 t2)))))))))
  (((Z n) = r ∧ [] = O))) : spec_Parts_L3 r O n i t t1 t2 := by
  unfold spec_Parts_L3
  refine cl_of (E := env) (hs := spec_Parts_h) envOk mixed ?_
  exact to_vc (by kernel_rfl) h
theorem spec_Parts_of {t : Int} {t1 : Int} {t2 : List (List Da)} {r : AV} {O : List (Nat × Ob)} (h : spec_Parts_L3 r O ((1 : Int)) ((0 : Int)) t t1 t2) : XC Try.prog 119 [(.dat [(.int .i64 t), (.int .i64 t1), (.sl t2)])] [] r O :=
  xc_of (E := env) (hs := spec_Parts_h) (c := (bodyOf Try.f119)) (n := 21) (res := [.tmp 2]) (rs := .c (.i .i64)) (ks := []) (dir := []) envOk mixed rfl Try.func119 (by kernel_rfl) (by kernel_rfl) (by kernel_rfl) (by kernel_rfl) (to_vc (by kernel_rfl) h)

end AM
end Go.Proofs.Ytbgpofimflnabaa
