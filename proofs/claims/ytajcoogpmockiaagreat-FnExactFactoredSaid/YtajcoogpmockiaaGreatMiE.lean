/- A part of the proof of the law that the last of these texts states, for every input; no conditions. -/
import Derived.Test.YtajcoogpmockiaaGreatMiD
set_option linter.unusedVariables false
set_option linter.unusedSimpArgs false
set_option maxRecDepth 100000
namespace Go.Proofs.YtajcoogpmockiaaGreat
namespace AM
open Go
open Go.Proofs.Tryz renaming prog → pg
attribute [local irreducible] vC
def a2hq : a8q := ⟨[], []⟩
theorem a1Jq {p : Int} {o2000 o2001 : LL} {r : AV} {O : List (Nat × Ob)} (h : (∀ (c : Nat), (o2000.length ≤ c) → ((c ≤ maxLen) → (∃ n : Nat, p = (↑n : Int) ∧ Do (n ≤ o2000.length ∧ (o2000.length ≤ o2000.length ∨ (0 : Nat) + o2000.length ≤ c)) ∧ ifB (decide ((↑(o2001.length) : Int) = (0 : Int)))
 (Do (o2000.length ≤ o2000.length) ∧ (.one (.ol 0)) = r ∧ [(2001, .lst 3 1 o2001), (0, .lst 3 1 (List.take (o2000.length) o2000))] = O)
 (ifB (decide (p = (↑(o2000.length) : Int)))
 (Do ((0 : Nat) + o2000.length ≤ o2000.length ∧ ((0 : Nat) + o2000.length + o2001.length) * 8 ≤ 140737488355328) ∧ ifB (decide ((0 : Nat) + o2000.length + o2001.length ≤ c))
 (Do (o2000.length + o2001.length ≤ List.length (List.take ((0 : Nat) + o2000.length) o2000 ++ o2001 ++ List.drop ((0 : Nat) + o2000.length + o2001.length) o2000)) ∧ (.one (.ol 0)) = r ∧ [(2001, .lst 3 1 o2001), (0, .lst 3 1 (List.take (o2000.length + o2001.length) (List.take ((0 : Nat) + o2000.length) o2000 ++ o2001 ++ List.drop ((0 : Nat) + o2000.length + o2001.length) o2000)))] = O)
 ((.one (.ol 0)) = r ∧ [(2001, .lst 3 1 o2001), (0, .lst 3 1 (List.take (o2000.length) (List.drop (0 : Nat) o2000) ++ o2001))] = O))
 (ifB (decide ((↑(c - (0 : Nat)) : Int) < IntKind.wrap .i64 ((↑(o2000.length) : Int) + (↑(o2001.length) : Int))))
 (∃ n1 : Nat, p = (↑n1 : Int) ∧ Do ((0 : Nat) ≤ n1 ∧ (n1 ≤ o2000.length ∨ (0 : Nat) + n1 ≤ c)) ∧ ∃ q : Nat, (IntKind.wrap .i64 (IntKind.wrap .i64 ((↑(o2000.length) : Int) + (↑(o2001.length) : Int)) - p)) = (↑q : Int) ∧ Do ((0 : Nat) + (0 : Nat) + (n1 - (0 : Nat)) ≤ o2000.length ∧ ((0 : Nat) + (0 : Nat) + (n1 - (0 : Nat)) + List.length (List.replicate q [Da.int IntKind.i64 (0 : Int)])) * 8 ≤ 140737488355328) ∧ ifB (decide ((0 : Nat) + (0 : Nat) + (n1 - (0 : Nat)) + List.length (List.replicate q [Da.int IntKind.i64 (0 : Int)]) ≤ c))
 (∃ n2 : Nat, p = (↑n2 : Int) ∧ Do (n2 ≤ n1 - (0 : Nat) + List.length (List.replicate q [Da.int IntKind.i64 (0 : Int)]) ∧ (n1 - (0 : Nat) + List.length (List.replicate q [Da.int IntKind.i64 (0 : Int)]) ≤ n1 - (0 : Nat) + List.length (List.replicate q [Da.int IntKind.i64 (0 : Int)]) ∨ (0 : Nat) + (0 : Nat) + (n1 - (0 : Nat) + List.length (List.replicate q [Da.int IntKind.i64 (0 : Int)])) ≤ c)) ∧ Do ((0 : Nat) + (0 : Nat) + n2 ≤ List.length (List.take ((0 : Nat) + (0 : Nat) + (n1 - (0 : Nat))) o2000 ++ List.replicate q [Da.int IntKind.i64 (0 : Int)] ++ List.drop ((0 : Nat) + (0 : Nat) + (n1 - (0 : Nat)) + List.length (List.replicate q [Da.int IntKind.i64 (0 : Int)])) o2000) ∧ (0 : Nat) + (0 : Nat) + n2 + min (o2001.length) (n1 - (0 : Nat) + List.length (List.replicate q [Da.int IntKind.i64 (0 : Int)]) - n2) ≤ (281474976710656 : Nat)) ∧ ∃ n3 : Nat, (IntKind.wrap .i64 (p + (↑(o2001.length) : Int))) = (↑n3 : Int) ∧ Do (n3 ≤ n1 - (0 : Nat) + List.length (List.replicate q [Da.int IntKind.i64 (0 : Int)]) ∧ (n1 - (0 : Nat) + List.length (List.replicate q [Da.int IntKind.i64 (0 : Int)]) ≤ n1 - (0 : Nat) + List.length (List.replicate q [Da.int IntKind.i64 (0 : Int)]) ∨ (0 : Nat) + (0 : Nat) + (n1 - (0 : Nat) + List.length (List.replicate q [Da.int IntKind.i64 (0 : Int)])) ≤ c)) ∧ ∃ n4 : Nat, p = (↑n4 : Int) ∧ Do (n4 ≤ o2000.length ∧ (o2000.length ≤ o2000.length ∨ (0 : Nat) + o2000.length ≤ c)) ∧ Do ((0 : Nat) + n4 + min (o2000.length - n4) (n1 - (0 : Nat) + List.length (List.replicate q [Da.int IntKind.i64 (0 : Int)]) - n3) ≤ List.length (List.take ((0 : Nat) + (0 : Nat) + n2) (List.take ((0 : Nat) + (0 : Nat) + (n1 - (0 : Nat))) o2000 ++ List.replicate q [Da.int IntKind.i64 (0 : Int)] ++ List.drop ((0 : Nat) + (0 : Nat) + (n1 - (0 : Nat)) + List.length (List.replicate q [Da.int IntKind.i64 (0 : Int)])) o2000) ++ List.take (min (o2001.length) (n1 - (0 : Nat) + List.length (List.replicate q [Da.int IntKind.i64 (0 : Int)]) - n2)) o2001 ++ List.drop ((0 : Nat) + (0 : Nat) + n2 + min (o2001.length) (n1 - (0 : Nat) + List.length (List.replicate q [Da.int IntKind.i64 (0 : Int)]) - n2)) (List.take ((0 : Nat) + (0 : Nat) + (n1 - (0 : Nat))) o2000 ++ List.replicate q [Da.int IntKind.i64 (0 : Int)] ++ List.drop ((0 : Nat) + (0 : Nat) + (n1 - (0 : Nat)) + List.length (List.replicate q [Da.int IntKind.i64 (0 : Int)])) o2000))) ∧ Do ((0 : Nat) + (0 : Nat) + n3 ≤ List.length (List.take ((0 : Nat) + (0 : Nat) + n2) (List.take ((0 : Nat) + (0 : Nat) + (n1 - (0 : Nat))) o2000 ++ List.replicate q [Da.int IntKind.i64 (0 : Int)] ++ List.drop ((0 : Nat) + (0 : Nat) + (n1 - (0 : Nat)) + List.length (List.replicate q [Da.int IntKind.i64 (0 : Int)])) o2000) ++ List.take (min (o2001.length) (n1 - (0 : Nat) + List.length (List.replicate q [Da.int IntKind.i64 (0 : Int)]) - n2)) o2001 ++ List.drop ((0 : Nat) + (0 : Nat) + n2 + min (o2001.length) (n1 - (0 : Nat) + List.length (List.replicate q [Da.int IntKind.i64 (0 : Int)]) - n2)) (List.take ((0 : Nat) + (0 : Nat) + (n1 - (0 : Nat))) o2000 ++ List.replicate q [Da.int IntKind.i64 (0 : Int)] ++ List.drop ((0 : Nat) + (0 : Nat) + (n1 - (0 : Nat)) + List.length (List.replicate q [Da.int IntKind.i64 (0 : Int)])) o2000)) ∧ (0 : Nat) + (0 : Nat) + n3 + min (o2000.length - n4) (n1 - (0 : Nat) + List.length (List.replicate q [Da.int IntKind.i64 (0 : Int)]) - n3) ≤ (281474976710656 : Nat)) ∧ Do (n1 - (0 : Nat) + List.length (List.replicate q [Da.int IntKind.i64 (0 : Int)]) ≤ List.length (List.take ((0 : Nat) + (0 : Nat) + n3) (List.take ((0 : Nat) + (0 : Nat) + n2) (List.take ((0 : Nat) + (0 : Nat) + (n1 - (0 : Nat))) o2000 ++ List.replicate q [Da.int IntKind.i64 (0 : Int)] ++ List.drop ((0 : Nat) + (0 : Nat) + (n1 - (0 : Nat)) + List.length (List.replicate q [Da.int IntKind.i64 (0 : Int)])) o2000) ++ List.take (min (o2001.length) (n1 - (0 : Nat) + List.length (List.replicate q [Da.int IntKind.i64 (0 : Int)]) - n2)) o2001 ++ List.drop ((0 : Nat) + (0 : Nat) + n2 + min (o2001.length) (n1 - (0 : Nat) + List.length (List.replicate q [Da.int IntKind.i64 (0 : Int)]) - n2)) (List.take ((0 : Nat) + (0 : Nat) + (n1 - (0 : Nat))) o2000 ++ List.replicate q [Da.int IntKind.i64 (0 : Int)] ++ List.drop ((0 : Nat) + (0 : Nat) + (n1 - (0 : Nat)) + List.length (List.replicate q [Da.int IntKind.i64 (0 : Int)])) o2000)) ++ List.take (min (o2000.length - n4) (n1 - (0 : Nat) + List.length (List.replicate q [Da.int IntKind.i64 (0 : Int)]) - n3)) (List.drop ((0 : Nat) + n4) (List.take ((0 : Nat) + (0 : Nat) + n2) (List.take ((0 : Nat) + (0 : Nat) + (n1 - (0 : Nat))) o2000 ++ List.replicate q [Da.int IntKind.i64 (0 : Int)] ++ List.drop ((0 : Nat) + (0 : Nat) + (n1 - (0 : Nat)) + List.length (List.replicate q [Da.int IntKind.i64 (0 : Int)])) o2000) ++ List.take (min (o2001.length) (n1 - (0 : Nat) + List.length (List.replicate q [Da.int IntKind.i64 (0 : Int)]) - n2)) o2001 ++ List.drop ((0 : Nat) + (0 : Nat) + n2 + min (o2001.length) (n1 - (0 : Nat) + List.length (List.replicate q [Da.int IntKind.i64 (0 : Int)]) - n2)) (List.take ((0 : Nat) + (0 : Nat) + (n1 - (0 : Nat))) o2000 ++ List.replicate q [Da.int IntKind.i64 (0 : Int)] ++ List.drop ((0 : Nat) + (0 : Nat) + (n1 - (0 : Nat)) + List.length (List.replicate q [Da.int IntKind.i64 (0 : Int)])) o2000))) ++ List.drop ((0 : Nat) + (0 : Nat) + n3 + min (o2000.length - n4) (n1 - (0 : Nat) + List.length (List.replicate q [Da.int IntKind.i64 (0 : Int)]) - n3)) (List.take ((0 : Nat) + (0 : Nat) + n2) (List.take ((0 : Nat) + (0 : Nat) + (n1 - (0 : Nat))) o2000 ++ List.replicate q [Da.int IntKind.i64 (0 : Int)] ++ List.drop ((0 : Nat) + (0 : Nat) + (n1 - (0 : Nat)) + List.length (List.replicate q [Da.int IntKind.i64 (0 : Int)])) o2000) ++ List.take (min (o2001.length) (n1 - (0 : Nat) + List.length (List.replicate q [Da.int IntKind.i64 (0 : Int)]) - n2)) o2001 ++ List.drop ((0 : Nat) + (0 : Nat) + n2 + min (o2001.length) (n1 - (0 : Nat) + List.length (List.replicate q [Da.int IntKind.i64 (0 : Int)]) - n2)) (List.take ((0 : Nat) + (0 : Nat) + (n1 - (0 : Nat))) o2000 ++ List.replicate q [Da.int IntKind.i64 (0 : Int)] ++ List.drop ((0 : Nat) + (0 : Nat) + (n1 - (0 : Nat)) + List.length (List.replicate q [Da.int IntKind.i64 (0 : Int)])) o2000)))) ∧ (.one (.ol 0)) = r ∧ [(2001, .lst 3 1 o2001), (0, .lst 3 1 (List.take (n1 - (0 : Nat) + List.length (List.replicate q [Da.int IntKind.i64 (0 : Int)])) (List.take ((0 : Nat) + (0 : Nat) + n3) (List.take ((0 : Nat) + (0 : Nat) + n2) (List.take ((0 : Nat) + (0 : Nat) + (n1 - (0 : Nat))) o2000 ++ List.replicate q [Da.int IntKind.i64 (0 : Int)] ++ List.drop ((0 : Nat) + (0 : Nat) + (n1 - (0 : Nat)) + List.length (List.replicate q [Da.int IntKind.i64 (0 : Int)])) o2000) ++ List.take (min (o2001.length) (n1 - (0 : Nat) + List.length (List.replicate q [Da.int IntKind.i64 (0 : Int)]) - n2)) o2001 ++ List.drop ((0 : Nat) + (0 : Nat) + n2 + min (o2001.length) (n1 - (0 : Nat) + List.length (List.replicate q [Da.int IntKind.i64 (0 : Int)]) - n2)) (List.take ((0 : Nat) + (0 : Nat) + (n1 - (0 : Nat))) o2000 ++ List.replicate q [Da.int IntKind.i64 (0 : Int)] ++ List.drop ((0 : Nat) + (0 : Nat) + (n1 - (0 : Nat)) + List.length (List.replicate q [Da.int IntKind.i64 (0 : Int)])) o2000)) ++ List.take (min (o2000.length - n4) (n1 - (0 : Nat) + List.length (List.replicate q [Da.int IntKind.i64 (0 : Int)]) - n3)) (List.drop ((0 : Nat) + n4) (List.take ((0 : Nat) + (0 : Nat) + n2) (List.take ((0 : Nat) + (0 : Nat) + (n1 - (0 : Nat))) o2000 ++ List.replicate q [Da.int IntKind.i64 (0 : Int)] ++ List.drop ((0 : Nat) + (0 : Nat) + (n1 - (0 : Nat)) + List.length (List.replicate q [Da.int IntKind.i64 (0 : Int)])) o2000) ++ List.take (min (o2001.length) (n1 - (0 : Nat) + List.length (List.replicate q [Da.int IntKind.i64 (0 : Int)]) - n2)) o2001 ++ List.drop ((0 : Nat) + (0 : Nat) + n2 + min (o2001.length) (n1 - (0 : Nat) + List.length (List.replicate q [Da.int IntKind.i64 (0 : Int)]) - n2)) (List.take ((0 : Nat) + (0 : Nat) + (n1 - (0 : Nat))) o2000 ++ List.replicate q [Da.int IntKind.i64 (0 : Int)] ++ List.drop ((0 : Nat) + (0 : Nat) + (n1 - (0 : Nat)) + List.length (List.replicate q [Da.int IntKind.i64 (0 : Int)])) o2000))) ++ List.drop ((0 : Nat) + (0 : Nat) + n3 + min (o2000.length - n4) (n1 - (0 : Nat) + List.length (List.replicate q [Da.int IntKind.i64 (0 : Int)]) - n3)) (List.take ((0 : Nat) + (0 : Nat) + n2) (List.take ((0 : Nat) + (0 : Nat) + (n1 - (0 : Nat))) o2000 ++ List.replicate q [Da.int IntKind.i64 (0 : Int)] ++ List.drop ((0 : Nat) + (0 : Nat) + (n1 - (0 : Nat)) + List.length (List.replicate q [Da.int IntKind.i64 (0 : Int)])) o2000) ++ List.take (min (o2001.length) (n1 - (0 : Nat) + List.length (List.replicate q [Da.int IntKind.i64 (0 : Int)]) - n2)) o2001 ++ List.drop ((0 : Nat) + (0 : Nat) + n2 + min (o2001.length) (n1 - (0 : Nat) + List.length (List.replicate q [Da.int IntKind.i64 (0 : Int)]) - n2)) (List.take ((0 : Nat) + (0 : Nat) + (n1 - (0 : Nat))) o2000 ++ List.replicate q [Da.int IntKind.i64 (0 : Int)] ++ List.drop ((0 : Nat) + (0 : Nat) + (n1 - (0 : Nat)) + List.length (List.replicate q [Da.int IntKind.i64 (0 : Int)])) o2000)))))] = O)
 (∃ n5 : Nat, p = (↑n5 : Int) ∧ Do (n5 ≤ List.length (List.take (n1 - (0 : Nat)) (List.drop ((0 : Nat) + (0 : Nat)) o2000) ++ List.replicate q [Da.int IntKind.i64 (0 : Int)]) ∧ List.length (List.take (n1 - (0 : Nat)) (List.drop ((0 : Nat) + (0 : Nat)) o2000) ++ List.replicate q [Da.int IntKind.i64 (0 : Int)]) ≤ List.length (List.take (n1 - (0 : Nat)) (List.drop ((0 : Nat) + (0 : Nat)) o2000) ++ List.replicate q [Da.int IntKind.i64 (0 : Int)])) ∧ Do ((0 : Nat) + n5 + min (o2001.length) (List.length (List.take (n1 - (0 : Nat)) (List.drop ((0 : Nat) + (0 : Nat)) o2000) ++ List.replicate q [Da.int IntKind.i64 (0 : Int)]) - n5) ≤ List.length (List.take (n1 - (0 : Nat)) (List.drop ((0 : Nat) + (0 : Nat)) o2000) ++ List.replicate q [Da.int IntKind.i64 (0 : Int)])) ∧ ∃ n6 : Nat, (IntKind.wrap .i64 (p + (↑(o2001.length) : Int))) = (↑n6 : Int) ∧ Do (n6 ≤ List.length (List.take ((0 : Nat) + n5) (List.take (n1 - (0 : Nat)) (List.drop ((0 : Nat) + (0 : Nat)) o2000) ++ List.replicate q [Da.int IntKind.i64 (0 : Int)]) ++ List.take (min (o2001.length) (List.length (List.take (n1 - (0 : Nat)) (List.drop ((0 : Nat) + (0 : Nat)) o2000) ++ List.replicate q [Da.int IntKind.i64 (0 : Int)]) - n5)) o2001 ++ List.drop ((0 : Nat) + n5 + min (o2001.length) (List.length (List.take (n1 - (0 : Nat)) (List.drop ((0 : Nat) + (0 : Nat)) o2000) ++ List.replicate q [Da.int IntKind.i64 (0 : Int)]) - n5)) (List.take (n1 - (0 : Nat)) (List.drop ((0 : Nat) + (0 : Nat)) o2000) ++ List.replicate q [Da.int IntKind.i64 (0 : Int)])) ∧ List.length (List.take ((0 : Nat) + n5) (List.take (n1 - (0 : Nat)) (List.drop ((0 : Nat) + (0 : Nat)) o2000) ++ List.replicate q [Da.int IntKind.i64 (0 : Int)]) ++ List.take (min (o2001.length) (List.length (List.take (n1 - (0 : Nat)) (List.drop ((0 : Nat) + (0 : Nat)) o2000) ++ List.replicate q [Da.int IntKind.i64 (0 : Int)]) - n5)) o2001 ++ List.drop ((0 : Nat) + n5 + min (o2001.length) (List.length (List.take (n1 - (0 : Nat)) (List.drop ((0 : Nat) + (0 : Nat)) o2000) ++ List.replicate q [Da.int IntKind.i64 (0 : Int)]) - n5)) (List.take (n1 - (0 : Nat)) (List.drop ((0 : Nat) + (0 : Nat)) o2000) ++ List.replicate q [Da.int IntKind.i64 (0 : Int)])) ≤ List.length (List.take ((0 : Nat) + n5) (List.take (n1 - (0 : Nat)) (List.drop ((0 : Nat) + (0 : Nat)) o2000) ++ List.replicate q [Da.int IntKind.i64 (0 : Int)]) ++ List.take (min (o2001.length) (List.length (List.take (n1 - (0 : Nat)) (List.drop ((0 : Nat) + (0 : Nat)) o2000) ++ List.replicate q [Da.int IntKind.i64 (0 : Int)]) - n5)) o2001 ++ List.drop ((0 : Nat) + n5 + min (o2001.length) (List.length (List.take (n1 - (0 : Nat)) (List.drop ((0 : Nat) + (0 : Nat)) o2000) ++ List.replicate q [Da.int IntKind.i64 (0 : Int)]) - n5)) (List.take (n1 - (0 : Nat)) (List.drop ((0 : Nat) + (0 : Nat)) o2000) ++ List.replicate q [Da.int IntKind.i64 (0 : Int)]))) ∧ ∃ n7 : Nat, p = (↑n7 : Int) ∧ Do (n7 ≤ o2000.length ∧ (o2000.length ≤ o2000.length ∨ (0 : Nat) + o2000.length ≤ c)) ∧ Do ((0 : Nat) + n7 + min (o2000.length - n7) (List.length (List.take ((0 : Nat) + n5) (List.take (n1 - (0 : Nat)) (List.drop ((0 : Nat) + (0 : Nat)) o2000) ++ List.replicate q [Da.int IntKind.i64 (0 : Int)]) ++ List.take (min (o2001.length) (List.length (List.take (n1 - (0 : Nat)) (List.drop ((0 : Nat) + (0 : Nat)) o2000) ++ List.replicate q [Da.int IntKind.i64 (0 : Int)]) - n5)) o2001 ++ List.drop ((0 : Nat) + n5 + min (o2001.length) (List.length (List.take (n1 - (0 : Nat)) (List.drop ((0 : Nat) + (0 : Nat)) o2000) ++ List.replicate q [Da.int IntKind.i64 (0 : Int)]) - n5)) (List.take (n1 - (0 : Nat)) (List.drop ((0 : Nat) + (0 : Nat)) o2000) ++ List.replicate q [Da.int IntKind.i64 (0 : Int)])) - n6) ≤ o2000.length) ∧ Do ((0 : Nat) + n6 + min (o2000.length - n7) (List.length (List.take ((0 : Nat) + n5) (List.take (n1 - (0 : Nat)) (List.drop ((0 : Nat) + (0 : Nat)) o2000) ++ List.replicate q [Da.int IntKind.i64 (0 : Int)]) ++ List.take (min (o2001.length) (List.length (List.take (n1 - (0 : Nat)) (List.drop ((0 : Nat) + (0 : Nat)) o2000) ++ List.replicate q [Da.int IntKind.i64 (0 : Int)]) - n5)) o2001 ++ List.drop ((0 : Nat) + n5 + min (o2001.length) (List.length (List.take (n1 - (0 : Nat)) (List.drop ((0 : Nat) + (0 : Nat)) o2000) ++ List.replicate q [Da.int IntKind.i64 (0 : Int)]) - n5)) (List.take (n1 - (0 : Nat)) (List.drop ((0 : Nat) + (0 : Nat)) o2000) ++ List.replicate q [Da.int IntKind.i64 (0 : Int)])) - n6) ≤ List.length (List.take ((0 : Nat) + n5) (List.take (n1 - (0 : Nat)) (List.drop ((0 : Nat) + (0 : Nat)) o2000) ++ List.replicate q [Da.int IntKind.i64 (0 : Int)]) ++ List.take (min (o2001.length) (List.length (List.take (n1 - (0 : Nat)) (List.drop ((0 : Nat) + (0 : Nat)) o2000) ++ List.replicate q [Da.int IntKind.i64 (0 : Int)]) - n5)) o2001 ++ List.drop ((0 : Nat) + n5 + min (o2001.length) (List.length (List.take (n1 - (0 : Nat)) (List.drop ((0 : Nat) + (0 : Nat)) o2000) ++ List.replicate q [Da.int IntKind.i64 (0 : Int)]) - n5)) (List.take (n1 - (0 : Nat)) (List.drop ((0 : Nat) + (0 : Nat)) o2000) ++ List.replicate q [Da.int IntKind.i64 (0 : Int)]))) ∧ (.one (.ol 0)) = r ∧ [(2001, .lst 3 1 o2001), (0, .lst 3 1 (List.take ((0 : Nat) + n6) (List.take ((0 : Nat) + n5) (List.take (n1 - (0 : Nat)) (List.drop ((0 : Nat) + (0 : Nat)) o2000) ++ List.replicate q [Da.int IntKind.i64 (0 : Int)]) ++ List.take (min (o2001.length) (List.length (List.take (n1 - (0 : Nat)) (List.drop ((0 : Nat) + (0 : Nat)) o2000) ++ List.replicate q [Da.int IntKind.i64 (0 : Int)]) - n5)) o2001 ++ List.drop ((0 : Nat) + n5 + min (o2001.length) (List.length (List.take (n1 - (0 : Nat)) (List.drop ((0 : Nat) + (0 : Nat)) o2000) ++ List.replicate q [Da.int IntKind.i64 (0 : Int)]) - n5)) (List.take (n1 - (0 : Nat)) (List.drop ((0 : Nat) + (0 : Nat)) o2000) ++ List.replicate q [Da.int IntKind.i64 (0 : Int)])) ++ List.take (min (o2000.length - n7) (List.length (List.take ((0 : Nat) + n5) (List.take (n1 - (0 : Nat)) (List.drop ((0 : Nat) + (0 : Nat)) o2000) ++ List.replicate q [Da.int IntKind.i64 (0 : Int)]) ++ List.take (min (o2001.length) (List.length (List.take (n1 - (0 : Nat)) (List.drop ((0 : Nat) + (0 : Nat)) o2000) ++ List.replicate q [Da.int IntKind.i64 (0 : Int)]) - n5)) o2001 ++ List.drop ((0 : Nat) + n5 + min (o2001.length) (List.length (List.take (n1 - (0 : Nat)) (List.drop ((0 : Nat) + (0 : Nat)) o2000) ++ List.replicate q [Da.int IntKind.i64 (0 : Int)]) - n5)) (List.take (n1 - (0 : Nat)) (List.drop ((0 : Nat) + (0 : Nat)) o2000) ++ List.replicate q [Da.int IntKind.i64 (0 : Int)])) - n6)) (List.drop ((0 : Nat) + n7) o2000) ++ List.drop ((0 : Nat) + n6 + min (o2000.length - n7) (List.length (List.take ((0 : Nat) + n5) (List.take (n1 - (0 : Nat)) (List.drop ((0 : Nat) + (0 : Nat)) o2000) ++ List.replicate q [Da.int IntKind.i64 (0 : Int)]) ++ List.take (min (o2001.length) (List.length (List.take (n1 - (0 : Nat)) (List.drop ((0 : Nat) + (0 : Nat)) o2000) ++ List.replicate q [Da.int IntKind.i64 (0 : Int)]) - n5)) o2001 ++ List.drop ((0 : Nat) + n5 + min (o2001.length) (List.length (List.take (n1 - (0 : Nat)) (List.drop ((0 : Nat) + (0 : Nat)) o2000) ++ List.replicate q [Da.int IntKind.i64 (0 : Int)]) - n5)) (List.take (n1 - (0 : Nat)) (List.drop ((0 : Nat) + (0 : Nat)) o2000) ++ List.replicate q [Da.int IntKind.i64 (0 : Int)])) - n6)) (List.take ((0 : Nat) + n5) (List.take (n1 - (0 : Nat)) (List.drop ((0 : Nat) + (0 : Nat)) o2000) ++ List.replicate q [Da.int IntKind.i64 (0 : Int)]) ++ List.take (min (o2001.length) (List.length (List.take (n1 - (0 : Nat)) (List.drop ((0 : Nat) + (0 : Nat)) o2000) ++ List.replicate q [Da.int IntKind.i64 (0 : Int)]) - n5)) o2001 ++ List.drop ((0 : Nat) + n5 + min (o2001.length) (List.length (List.take (n1 - (0 : Nat)) (List.drop ((0 : Nat) + (0 : Nat)) o2000) ++ List.replicate q [Da.int IntKind.i64 (0 : Int)]) - n5)) (List.take (n1 - (0 : Nat)) (List.drop ((0 : Nat) + (0 : Nat)) o2000) ++ List.replicate q [Da.int IntKind.i64 (0 : Int)]))))] = O))
 (∃ n8 : Nat, (IntKind.wrap .i64 ((↑(o2000.length) : Int) + (↑(o2001.length) : Int))) = (↑n8 : Int) ∧ Do ((0 : Nat) ≤ n8 ∧ (n8 ≤ o2000.length ∨ (0 : Nat) + n8 ≤ c)) ∧ ∃ n9 : Nat, (IntKind.wrap .i64 (p + (↑(o2001.length) : Int))) = (↑n9 : Int) ∧ Do (n9 ≤ n8 - (0 : Nat) ∧ (n8 - (0 : Nat) ≤ n8 - (0 : Nat) ∨ (0 : Nat) + (0 : Nat) + (n8 - (0 : Nat)) ≤ c)) ∧ ∃ n10 : Nat, (IntKind.wrap .i64 (p + (↑(o2001.length) : Int))) = (↑n10 : Int) ∧ Do (n10 ≤ n8 - (0 : Nat) ∧ (n8 - (0 : Nat) ≤ n8 - (0 : Nat) ∨ (0 : Nat) + (0 : Nat) + (n8 - (0 : Nat)) ≤ c)) ∧ ∃ n11 : Nat, p = (↑n11 : Int) ∧ Do (n11 ≤ n8 - (0 : Nat) ∧ (n8 - (0 : Nat) ≤ n8 - (0 : Nat) ∨ (0 : Nat) + (0 : Nat) + (n8 - (0 : Nat)) ≤ c)) ∧ Do ((0 : Nat) + (0 : Nat) + n11 + min (n8 - (0 : Nat) - n11) (n8 - (0 : Nat) - n10) ≤ o2000.length) ∧ Do ((0 : Nat) + (0 : Nat) + n10 ≤ o2000.length ∧ (0 : Nat) + (0 : Nat) + n10 + min (n8 - (0 : Nat) - n11) (n8 - (0 : Nat) - n10) ≤ (281474976710656 : Nat)) ∧ ∃ n12 : Nat, p = (↑n12 : Int) ∧ Do (n12 ≤ n8 - (0 : Nat) ∧ (n8 - (0 : Nat) ≤ n8 - (0 : Nat) ∨ (0 : Nat) + (0 : Nat) + (n8 - (0 : Nat)) ≤ c)) ∧ Do ((0 : Nat) + (0 : Nat) + n12 ≤ List.length (List.take ((0 : Nat) + (0 : Nat) + n10) o2000 ++ List.take (min (n8 - (0 : Nat) - n11) (n8 - (0 : Nat) - n10)) (List.drop ((0 : Nat) + (0 : Nat) + n11) o2000) ++ List.drop ((0 : Nat) + (0 : Nat) + n10 + min (n8 - (0 : Nat) - n11) (n8 - (0 : Nat) - n10)) o2000) ∧ (0 : Nat) + (0 : Nat) + n12 + min (o2001.length) (n8 - (0 : Nat) - n12) ≤ (281474976710656 : Nat)) ∧ Do (n8 - (0 : Nat) ≤ List.length (List.take ((0 : Nat) + (0 : Nat) + n12) (List.take ((0 : Nat) + (0 : Nat) + n10) o2000 ++ List.take (min (n8 - (0 : Nat) - n11) (n8 - (0 : Nat) - n10)) (List.drop ((0 : Nat) + (0 : Nat) + n11) o2000) ++ List.drop ((0 : Nat) + (0 : Nat) + n10 + min (n8 - (0 : Nat) - n11) (n8 - (0 : Nat) - n10)) o2000) ++ List.take (min (o2001.length) (n8 - (0 : Nat) - n12)) o2001 ++ List.drop ((0 : Nat) + (0 : Nat) + n12 + min (o2001.length) (n8 - (0 : Nat) - n12)) (List.take ((0 : Nat) + (0 : Nat) + n10) o2000 ++ List.take (min (n8 - (0 : Nat) - n11) (n8 - (0 : Nat) - n10)) (List.drop ((0 : Nat) + (0 : Nat) + n11) o2000) ++ List.drop ((0 : Nat) + (0 : Nat) + n10 + min (n8 - (0 : Nat) - n11) (n8 - (0 : Nat) - n10)) o2000))) ∧ (.one (.ol 0)) = r ∧ [(2001, .lst 3 1 o2001), (0, .lst 3 1 (List.take (n8 - (0 : Nat)) (List.take ((0 : Nat) + (0 : Nat) + n12) (List.take ((0 : Nat) + (0 : Nat) + n10) o2000 ++ List.take (min (n8 - (0 : Nat) - n11) (n8 - (0 : Nat) - n10)) (List.drop ((0 : Nat) + (0 : Nat) + n11) o2000) ++ List.drop ((0 : Nat) + (0 : Nat) + n10 + min (n8 - (0 : Nat) - n11) (n8 - (0 : Nat) - n10)) o2000) ++ List.take (min (o2001.length) (n8 - (0 : Nat) - n12)) o2001 ++ List.drop ((0 : Nat) + (0 : Nat) + n12 + min (o2001.length) (n8 - (0 : Nat) - n12)) (List.take ((0 : Nat) + (0 : Nat) + n10) o2000 ++ List.take (min (n8 - (0 : Nat) - n11) (n8 - (0 : Nat) - n10)) (List.drop ((0 : Nat) + (0 : Nat) + n11) o2000) ++ List.drop ((0 : Nat) + (0 : Nat) + n10 + min (n8 - (0 : Nat) - n11) (n8 - (0 : Nat) - n10)) o2000))))] = O))))))) : XC pg 217 [(.one (.ol 2000)), (Z p), (.one (.ol 2001))] [(2000, (.lst 3 1 o2000)), (2001, (.lst 3 1 o2001))] r O :=
 a8Bq (E := c6q) (hs := a2hq) (c := (a1q Tryz.f217)) (n := 95) (res := [.tmp 6]) (rs := .b 3 1) (ks := [(2000, (false)), (2001, (false))]) (dir := [2001]) f9q a3q [(2000, 1000), (2001, 2001)] [1000] (by kernel_rfl) rfl Tryz.func217 (by kernel_rfl) (by kernel_rfl) (by kernel_rfl) (by kernel_rfl) (a5q (by kernel_rfl) h)
def a86q : a8q := ⟨[], []⟩
theorem a6nq {v : Int} {o2000 : LL} {r : AV} {O : List (Nat × Ob)} (h : ∃ n : Int, XC pg 198 [L o2000, Z v] [] (Z n) [] ∧ (Z n) = r ∧ [(2000, .var [.ol 0]), (0, .tr 3 1 o2000)] = O) : XC pg 197 [(Z v), (.one (.op 2000 0))] [(2000, (.var [(.ol 2001)])), (2001, (.tr 3 1 o2000))] r O :=
 b1q (E := env) (hs := a86q) (c := (a1q Tryz.f197)) (n := 7) (res := [.tmp 3]) (rs := .c (.i .i64)) (ks := [(2000, (true)), (2001, (false))]) (dir := [2000]) envOk a3q rfl Tryz.func197 (by kernel_rfl) (by kernel_rfl) (by kernel_rfl) (by kernel_rfl) (a5q (by kernel_rfl) h)
def a02q : a8q := ⟨[(2, ⟨[0, 1, 5], [], [], [], [], [], []⟩)], []⟩
def A7q (r : AV) (O : List (Nat × Ob)) (list : LL) (n i : Int) : Prop := CLk 18 env a02q (a1q Tryz.f239) [1, 0, 1, 0, 0] (c7q env [.tmp 4] (.c .b) [] [] r O) ⟨[(0, (L list)), (1, (Z n)), (5, (Z i))], []⟩
theorem Z4q {r : AV} {O : List (Nat × Ob)} {list : LL} {n i : Int} (h : ifB (decide (i < (↑(list.length) : Int)))
 (∃ m : Nat, i = (↑m : Int) ∧ ∃ n2 : Int, (list[m]?) = some [.int .i64 n2] ∧ ifB (decide (n2 = n))
 ((B (true)) = r ∧ [] = O)
 (A7q r O list n (IntKind.wrap .i64 (i + (1 : Int)))))
 ((B (false)) = r ∧ [] = O)) : A7q r O list n i := by
 unfold A7q CLk
 refine c2q (E := env) (hs := a02q) envOk a3q ?_
 exact a5q (by kernel_rfl) h
theorem a8dq {list : LL} {n : Int} {r : AV} {O : List (Nat × Ob)} (h : A7q r O list n (0 : Int)) : XC pg 239 [(L list), (Z n)] [] r O :=
 b1q (E := env) (hs := a02q) (c := (a1q Tryz.f239)) (n := 18) (res := [.tmp 4]) (rs := .c .b) (ks := []) (dir := []) envOk a3q rfl Tryz.func239 (by kernel_rfl) (by kernel_rfl) (by kernel_rfl) (by kernel_rfl) (a5q (by kernel_rfl) h)
def a64q : a8q := ⟨[], []⟩
theorem a4Lq {c : Int} {r : AV} {O : List (Nat × Ob)} (h : ifB (decide ((97 : Int) ≤ c))
 ((B (decide (c ≤ (122 : Int)))) = r ∧ [] = O)
 ((B (false)) = r ∧ [] = O)) : XC pg 242 [(I .u8 c)] [] r O :=
 b1q (E := env) (hs := a64q) (c := (a1q Tryz.f242)) (n := 9) (res := [.tmp 2]) (rs := .c .b) (ks := []) (dir := []) envOk a3q rfl Tryz.func242 (by kernel_rfl) (by kernel_rfl) (by kernel_rfl) (by kernel_rfl) (a5q (by kernel_rfl) h)
def a75q : a8q := ⟨[], []⟩
theorem a5Gq {c : Int} {r : AV} {O : List (Nat × Ob)} (h : ifB (decide ((48 : Int) ≤ c))
 ((B (decide (c ≤ (57 : Int)))) = r ∧ [] = O)
 ((B (false)) = r ∧ [] = O)) : XC pg 243 [(I .u8 c)] [] r O :=
 b1q (E := env) (hs := a75q) (c := (a1q Tryz.f243)) (n := 9) (res := [.tmp 2]) (rs := .c .b) (ks := []) (dir := []) envOk a3q rfl Tryz.func243 (by kernel_rfl) (by kernel_rfl) (by kernel_rfl) (by kernel_rfl) (a5q (by kernel_rfl) h)
def m7q : a8q := ⟨[(2, ⟨[0, 1, 7, 8], [], [], [], [], [], []⟩)], []⟩
def h5q (r : AV) (O : List (Nat × Ob)) (s : LL) (s7 s8 : Int) (o2000 : ByteArray) : Prop := CLk 19 env m7q (a1q Tryz.f244) [1, 0, 1, 0, 0] (c7q env [.tmp 4] (.c (.i .i64)) [(2000, (true))] [2000] r O) ⟨[(0, (L s)), (1, (.one (.clo 245 [(2000, 0)]))), (7, (Z s7)), (8, (Z s8))], [(2000, (.var [(.d (.str o2000))]))]⟩
theorem p2q {r : AV} {O : List (Nat × Ob)} {s : LL} {s7 s8 : Int} {o2000 : ByteArray} (h : ifB (decide (s8 < s7))
 (∃ m : Nat, s8 = (↑m : Int) ∧ ∃ q : ByteArray, ∃ n : Int, ∃ b : Bool, (s[m]?) = some [.str q, .int .i64 n, .bool b] ∧ ∃ b1 : Bool, ∃ q1 : ByteArray, XC pg 245 [.dat [.str q, .int .i64 n, .bool b], .one (.op 2000 0)] [(2000, .var [.d (.str o2000)])] (B b1) [(2000, .var [.d (.str q1)])] ∧ ifB b1
 ((Z s8) = r ∧ [(2000, .var [.d (.str q1)])] = O)
 (h5q r O s s7 (IntKind.wrap .i64 (s8 + (1 : Int))) q1))
 ((Z (-1 : Int)) = r ∧ [(2000, .var [.d (.str o2000)])] = O)) : h5q r O s s7 s8 o2000 := by
 unfold h5q CLk
 refine c2q (E := env) (hs := m7q) envOk a3q ?_
 exact a5q (by kernel_rfl) h
theorem D3q {s : LL} {o2000 : ByteArray} {r : AV} {O : List (Nat × Ob)} (h : h5q r O s (↑(s.length) : Int) (0 : Int) o2000) : XC pg 244 [(L s), (.one (.clo 245 [(2000, 0)]))] [(2000, (.var [(.d (.str o2000))]))] r O :=
 b1q (E := env) (hs := m7q) (c := (a1q Tryz.f244)) (n := 19) (res := [.tmp 4]) (rs := .c (.i .i64)) (ks := [(2000, (true))]) (dir := [2000]) envOk a3q rfl Tryz.func244 (by kernel_rfl) (by kernel_rfl) (by kernel_rfl) (by kernel_rfl) (a5q (by kernel_rfl) h)
def a6yq : a8q := ⟨[], []⟩
theorem a5Wq {x x1 : Int} {x2 : LL} {o2000 : Int} {r : AV} {O : List (Nat × Ob)} (h : (.tup []) = r ∧ [(2000, .var [.d (.int .i64 (IntKind.wrap .i64 (o2000 + (1 : Int))))])] = O) : XC pg 220 [(.dat [(.int .i64 x), (.int .i64 x1), (.sl x2)]), (.one (.op 2000 0))] [(2000, (.var [(.d (.int .i64 o2000))]))] r O :=
 b1q (E := env) (hs := a6yq) (c := (a1q Tryz.f220)) (n := 5) (res := []) (rs := .t []) (ks := [(2000, (true))]) (dir := [2000]) envOk a3q rfl Tryz.func220 (by kernel_rfl) (by kernel_rfl) (by kernel_rfl) (by kernel_rfl) (a5q (by kernel_rfl) h)
def G4q : a8q := ⟨[(3, ⟨[3, 7, 8, 9], [], [], [], [], [], []⟩)], []⟩
def s1q (r : AV) (O : List (Nat × Ob)) (s7 : LL) (s8 s9 : Int) (out : LL) : Prop := CLk 20 env G4q (a1q Tryz.f172) [1, 1, 0, 1, 0, 0] (c7q env [.tmp 2] (.o 30 3) [] [] r O) ⟨[(3, (.one (.ol 1900))), (7, (L s7)), (8, (Z s8)), (9, (Z s9))], [(1900, (.tr 30 3 out))]⟩
theorem K7q {r : AV} {O : List (Nat × Ob)} {s7 : LL} {s8 s9 : Int} {out : LL} (h : ifB (decide (s9 < s8))
 (∃ m : Nat, s9 = (↑m : Int) ∧ ∃ n n1 : Int, ∃ xs : LL, (s7[m]?) = some (r3 n n1 xs) ∧ ∃ n2 n3 : Int, ∃ xs1 : LL, XC pg 117 [.dat (r3 n n1 xs)] [] (g3 n2 n3 0) [(0, .tr 30 3 xs1)] ∧ Do ((out.length + List.length [(r3 n2 n3 xs1)]) * 40 ≤ 140737488355328) ∧ s1q r O s7 s8 (IntKind.wrap .i64 (s9 + (1 : Int))) (out ++ [(r3 n2 n3 xs1)]))
 ((.one (.ol 0)) = r ∧ [(0, .tr 30 3 out)] = O)) : s1q r O s7 s8 s9 out := by
 unfold s1q CLk
 refine c2q (E := env) (hs := G4q) envOk a3q ?_
 exact a5q (by kernel_rfl) h
theorem a3tq {list : LL} {r : AV} {O : List (Nat × Ob)} (h : s1q r O list (↑(list.length) : Int) (0 : Int) []) : XC pg 172 [(L list)] [] r O :=
 b1q (E := env) (hs := G4q) (c := (a1q Tryz.f172)) (n := 20) (res := [.tmp 2]) (rs := .o 30 3) (ks := []) (dir := []) envOk a3q rfl Tryz.func172 (by kernel_rfl) (by kernel_rfl) (by kernel_rfl) (by kernel_rfl) (a5q (by kernel_rfl) h)
def e8q : a8q := ⟨[(1, ⟨[0, 1, 2, 3, 8], [], [], [], [], [], []⟩), (4, ⟨[0, 1, 2, 3, 8, 9], [], [], [], [], [], []⟩)], []⟩
def c5q (r : AV) (O : List (Nat × Ob)) (a b i : Int) (data : LL) : Prop := CLk 53 c6q e8q (a1q Tryz.f260) [1, 0, 0] (c7q c6q [] (.t []) [(2000, (false))] [2000] r O) ⟨[(0, (.one (.ol 2000))), (1, (Z a)), (2, (Z b)), (3, (.one (.d (.fn 143)))), (8, (Z i))], [(2000, (.lst 30 3 data))]⟩
def e3q (r : AV) (O : List (Nat × Ob)) (a b : Int) (i j : Int) (data : LL) : Prop := CLk 53 c6q e8q (a1q Tryz.f260) [1, 0, 0, 1, 0, 0, 1, 0, 0] (c7q c6q [] (.t []) [(2000, (false))] [2000] r O) ⟨[(0, (.one (.ol 2000))), (1, (Z a)), (2, (Z b)), (3, (.one (.d (.fn 143)))), (8, (Z i)), (9, (Z j))], [(2000, (.lst 30 3 data))]⟩
theorem i3q {r : AV} {O : List (Nat × Ob)} {a b i : Int} {data : LL} (h : ifB (decide (i < b))
 (e3q r O a b i i data)
 ((.tup []) = r ∧ [(2000, .lst 30 3 data)] = O)) : c5q r O a b i data := by
 unfold c5q CLk
 refine c2q (E := c6q) (hs := e8q) f9q a3q ?_
 exact a5q (by kernel_rfl) h
theorem i2q {r : AV} {O : List (Nat × Ob)} {a b i j : Int} {data : LL} (h : ifB (decide (a < j))
 (∃ m : Nat, j = (↑m : Int) ∧ Do (m < data.length) ∧ ∃ n : Nat, (m * (3 : Nat)) = (n * (3 : Nat)) ∧ ∃ n1 n2 : Int, ∃ d : Da, (data[n]?) = some [.int .i64 n1, .int .i64 n2, d] ∧ ∃ m1 : Nat, (IntKind.wrap .i64 (j - (1 : Int))) = (↑m1 : Int) ∧ Do (m1 < data.length) ∧ ∃ n3 : Nat, (m1 * (3 : Nat)) = (n3 * (3 : Nat)) ∧ ∃ n4 n5 : Int, ∃ d1 : Da, (data[n3]?) = some [.int .i64 n4, .int .i64 n5, d1] ∧ ∃ n6 : Int, XC pg 143 [.dat [.int .i64 n1, .int .i64 n2, d], .dat [.int .i64 n4, .int .i64 n5, d1]] [] (Z n6) [] ∧ ifB (decide (n6 < (0 : Int)))
 (∃ m2 : Nat, (IntKind.wrap .i64 (j - (1 : Int))) = (↑m2 : Int) ∧ Do (m2 < data.length) ∧ ∃ n7 : Nat, (m2 * (3 : Nat)) = (n7 * (3 : Nat)) ∧ ∃ n8 n9 : Int, ∃ d2 : Da, (data[n7]?) = some [.int .i64 n8, .int .i64 n9, d2] ∧ ∃ m3 : Nat, j = (↑m3 : Int) ∧ Do (m3 < data.length) ∧ ∃ n10 : Nat, (m3 * (3 : Nat)) = (n10 * (3 : Nat)) ∧ ∃ n11 n12 : Int, ∃ d3 : Da, (data[n10]?) = some [.int .i64 n11, .int .i64 n12, d3] ∧ ∃ m4 : Nat, j = (↑m4 : Int) ∧ Do (m4 < data.length) ∧ ∃ m5 : Nat, (m4 * (3 : Nat)) = (m5 * (3 : Nat) + (0 : Nat)) ∧ ∃ n13 n14 : Int, ∃ d4 : Da, (data[m5]?) = some [.int .i64 n13, .int .i64 n14, d4] ∧ ∃ m6 : Nat, (IntKind.wrap .i64 (j - (1 : Int))) = (↑m6 : Int) ∧ Do (m6 < List.length (List.set data m5 ([] ++ [Da.int IntKind.i64 n8, Da.int IntKind.i64 n9, d2] ++ []))) ∧ ∃ m7 : Nat, (m6 * (3 : Nat)) = (m7 * (3 : Nat) + (0 : Nat)) ∧ ∃ n15 n16 : Int, ∃ d5 : Da, ((List.set data m5 ([] ++ [Da.int IntKind.i64 n8, Da.int IntKind.i64 n9, d2] ++ []))[m7]?) = some [.int .i64 n15, .int .i64 n16, d5] ∧ e3q r O a b i (IntKind.wrap .i64 (j - (1 : Int))) (List.set (List.set data m5 ([] ++ [Da.int IntKind.i64 n8, Da.int IntKind.i64 n9, d2] ++ [])) m7 ([] ++ [Da.int IntKind.i64 n11, Da.int IntKind.i64 n12, d3] ++ [])))
 (c5q r O a b (IntKind.wrap .i64 (i + (1 : Int))) data))
 (c5q r O a b (IntKind.wrap .i64 (i + (1 : Int))) data)) : e3q r O a b i j data := by
 unfold e3q CLk
 refine c2q (E := c6q) (hs := e8q) f9q a3q ?_
 exact a5q (by kernel_rfl) h
theorem m0q {a b : Int} {o2000 : LL} {r : AV} {O : List (Nat × Ob)} (h : c5q r O a b (IntKind.wrap .i64 (a + (1 : Int))) o2000) : XC pg 260 [(.one (.ol 2000)), (Z a), (Z b), (.one (.d (.fn 143)))] [(2000, (.lst 30 3 o2000))] r O :=
 b1q (E := c6q) (hs := e8q) (c := (a1q Tryz.f260)) (n := 53) (res := []) (rs := .t []) (ks := [(2000, (false))]) (dir := [2000]) f9q a3q rfl Tryz.func260 (by kernel_rfl) (by kernel_rfl) (by kernel_rfl) (by kernel_rfl) (a5q (by kernel_rfl) h)
def b8q : a8q := ⟨[(3, ⟨[0, 1, 4, 10, 11], [], [], [], [], [], []⟩), (9, ⟨[0, 10, 13], [], [], [], [], [], []⟩), (15, ⟨[0, 2, 4, 14, 15], [], [], [], [], [], []⟩), (21, ⟨[0, 14, 17], [], [], [], [], [], []⟩), (33, ⟨[0, 1, 2, 3, 4, 18, 19, 20, 21, 22], [], [], [], [], [], []⟩)], []⟩
def c1q (r : AV) (O : List (Nat × Ob)) (s1 s10 s11 : Int) (s0 : LL) : Prop := CLk 220 c6q b8q (a1q Tryz.f261) [0, 1, 0, 1, 1, 0, 0, 0] (c7q c6q [] (.t []) [(2000, (false))] [2000] r O) ⟨[(0, (.one (.ol 2000))), (1, (Z s1)), (4, (.one (.d (.fn 143)))), (10, (Z s10)), (11, (Z s11))], [(2000, (.lst 30 3 s0))]⟩
def c0q (r : AV) (O : List (Nat × Ob)) (s2 s14 s15 : Int) (s0 : LL) : Prop := CLk 220 c6q b8q (a1q Tryz.f261) [1, 0, 1, 0, 1, 1, 0, 0, 0] (c7q c6q [] (.t []) [(2000, (false))] [2000] r O) ⟨[(0, (.one (.ol 2000))), (2, (Z s2)), (4, (.one (.d (.fn 143)))), (14, (Z s14)), (15, (Z s15))], [(2000, (.lst 30 3 s0))]⟩
def b0q (r : AV) (O : List (Nat × Ob)) (s1 s2 : Int) (s3 s18 : Int) (s19 s20 : Int) (s21 s22 : Int) (s0 : LL) : Prop := CLk 220 c6q b8q (a1q Tryz.f261) [1, 1, 1, 1, 1, 1, 1, 0, 0, 0] (c7q c6q [] (.t []) [(2000, (false))] [2000] r O) ⟨[(0, (.one (.ol 2000))), (1, (Z s1)), (2, (Z s2)), (3, (Z s3)), (4, (.one (.d (.fn 143)))), (18, (Z s18)), (19, (Z s19)), (20, (Z s20)), (21, (Z s21)), (22, (Z s22))], [(2000, (.lst 30 3 s0))]⟩
def e1q (r : AV) (O : List (Nat × Ob)) (s10 s13 : Int) (s0 : LL) : Prop := CLk 220 c6q b8q (a1q Tryz.f261) [0, 1, 0, 1, 1, 1, 0, 1, 0, 0] (c7q c6q [] (.t []) [(2000, (false))] [2000] r O) ⟨[(0, (.one (.ol 2000))), (10, (Z s10)), (13, (Z s13))], [(2000, (.lst 30 3 s0))]⟩
def d7q (r : AV) (O : List (Nat × Ob)) (s14 s17 : Int) (s0 : LL) : Prop := CLk 220 c6q b8q (a1q Tryz.f261) [1, 0, 1, 0, 1, 1, 1, 0, 1, 0, 0] (c7q c6q [] (.t []) [(2000, (false))] [2000] r O) ⟨[(0, (.one (.ol 2000))), (14, (Z s14)), (17, (Z s17))], [(2000, (.lst 30 3 s0))]⟩
theorem n0q {r : AV} {O : List (Nat × Ob)} {s1 s10 s11 : Int} {s0 : LL} (h : ifB (decide (s10 < s11))
 (Do ((0 : Int) ≤ (1 : Int) ∧ (1 : Int) ≤ (↑(IntKind.bits IntKind.u64) : Int)) ∧ ∃ m : Nat, (IntKind.wrap .i64 (IntKind.wrap IntKind.u64 (IntKind.wrap .i64 (s10 + s11)) / (2 : Int) ^ Int.toNat (1 : Int))) = (↑m : Int) ∧ Do (m < s0.length) ∧ ∃ n : Nat, (m * (3 : Nat)) = (n * (3 : Nat)) ∧ ∃ n1 n2 : Int, ∃ d : Da, (s0[n]?) = some [.int .i64 n1, .int .i64 n2, d] ∧ ∃ m1 : Nat, s1 = (↑m1 : Int) ∧ Do (m1 < s0.length) ∧ ∃ n3 : Nat, (m1 * (3 : Nat)) = (n3 * (3 : Nat)) ∧ ∃ n4 n5 : Int, ∃ d1 : Da, (s0[n3]?) = some [.int .i64 n4, .int .i64 n5, d1] ∧ ∃ n6 : Int, XC pg 143 [.dat [.int .i64 n1, .int .i64 n2, d], .dat [.int .i64 n4, .int .i64 n5, d1]] [] (Z n6) [] ∧ ifB (decide (n6 < (0 : Int)))
 (c1q r O s1 (IntKind.wrap .i64 (IntKind.wrap .i64 (IntKind.wrap IntKind.u64 (IntKind.wrap .i64 (s10 + s11)) / (2 : Int) ^ Int.toNat (1 : Int)) + (1 : Int))) s11 s0)
 (c1q r O s1 s10 (IntKind.wrap .i64 (IntKind.wrap IntKind.u64 (IntKind.wrap .i64 (s10 + s11)) / (2 : Int) ^ Int.toNat (1 : Int))) s0))
 (e1q r O s10 s1 s0)) : c1q r O s1 s10 s11 s0 := by
 unfold c1q CLk
 refine c2q (E := c6q) (hs := b8q) f9q a3q ?_
 exact a5q (by kernel_rfl) h
theorem m2q {r : AV} {O : List (Nat × Ob)} {s2 s14 s15 : Int} {s0 : LL} (h : ifB (decide (s14 < s15))
 (Do ((0 : Int) ≤ (1 : Int) ∧ (1 : Int) ≤ (↑(IntKind.bits IntKind.u64) : Int)) ∧ ∃ m : Nat, s2 = (↑m : Int) ∧ Do (m < s0.length) ∧ ∃ n : Nat, (m * (3 : Nat)) = (n * (3 : Nat)) ∧ ∃ n1 n2 : Int, ∃ d : Da, (s0[n]?) = some [.int .i64 n1, .int .i64 n2, d] ∧ ∃ m1 : Nat, (IntKind.wrap .i64 (IntKind.wrap IntKind.u64 (IntKind.wrap .i64 (s14 + s15)) / (2 : Int) ^ Int.toNat (1 : Int))) = (↑m1 : Int) ∧ Do (m1 < s0.length) ∧ ∃ n3 : Nat, (m1 * (3 : Nat)) = (n3 * (3 : Nat)) ∧ ∃ n4 n5 : Int, ∃ d1 : Da, (s0[n3]?) = some [.int .i64 n4, .int .i64 n5, d1] ∧ ∃ n6 : Int, XC pg 143 [.dat [.int .i64 n1, .int .i64 n2, d], .dat [.int .i64 n4, .int .i64 n5, d1]] [] (Z n6) [] ∧ ifB (!decide (n6 < (0 : Int)))
 (c0q r O s2 (IntKind.wrap .i64 (IntKind.wrap .i64 (IntKind.wrap IntKind.u64 (IntKind.wrap .i64 (s14 + s15)) / (2 : Int) ^ Int.toNat (1 : Int)) + (1 : Int))) s15 s0)
 (c0q r O s2 s14 (IntKind.wrap .i64 (IntKind.wrap IntKind.u64 (IntKind.wrap .i64 (s14 + s15)) / (2 : Int) ^ Int.toNat (1 : Int))) s0))
 (d7q r O s14 s2 s0)) : c0q r O s2 s14 s15 s0 := by
 unfold c0q CLk
 refine c2q (E := c6q) (hs := b8q) f9q a3q ?_
 exact a5q (by kernel_rfl) h
theorem m5q {r : AV} {O : List (Nat × Ob)} {s1 s2 s3 s18 s19 s20 s21 s22 : Int} {s0 : LL} (h : ifB (decide (s20 < s21))
 (Do ((0 : Int) ≤ (1 : Int) ∧ (1 : Int) ≤ (↑(IntKind.bits IntKind.u64) : Int)) ∧ ∃ m : Nat, (IntKind.wrap .i64 (s22 - IntKind.wrap .i64 (IntKind.wrap IntKind.u64 (IntKind.wrap .i64 (s20 + s21)) / (2 : Int) ^ Int.toNat (1 : Int)))) = (↑m : Int) ∧ Do (m < s0.length) ∧ ∃ n : Nat, (m * (3 : Nat)) = (n * (3 : Nat)) ∧ ∃ n1 n2 : Int, ∃ d : Da, (s0[n]?) = some [.int .i64 n1, .int .i64 n2, d] ∧ ∃ m1 : Nat, (IntKind.wrap .i64 (IntKind.wrap IntKind.u64 (IntKind.wrap .i64 (s20 + s21)) / (2 : Int) ^ Int.toNat (1 : Int))) = (↑m1 : Int) ∧ Do (m1 < s0.length) ∧ ∃ n3 : Nat, (m1 * (3 : Nat)) = (n3 * (3 : Nat)) ∧ ∃ n4 n5 : Int, ∃ d1 : Da, (s0[n3]?) = some [.int .i64 n4, .int .i64 n5, d1] ∧ ∃ n6 : Int, XC pg 143 [.dat [.int .i64 n1, .int .i64 n2, d], .dat [.int .i64 n4, .int .i64 n5, d1]] [] (Z n6) [] ∧ ifB (!decide (n6 < (0 : Int)))
 (b0q r O s1 s2 s3 s18 s19 (IntKind.wrap .i64 (IntKind.wrap .i64 (IntKind.wrap IntKind.u64 (IntKind.wrap .i64 (s20 + s21)) / (2 : Int) ^ Int.toNat (1 : Int)) + (1 : Int))) s21 s22 s0)
 (b0q r O s1 s2 s3 s18 s19 s20 (IntKind.wrap .i64 (IntKind.wrap IntKind.u64 (IntKind.wrap .i64 (s20 + s21)) / (2 : Int) ^ Int.toNat (1 : Int))) s22 s0))
 (ifB (decide (s20 < s2))
 (ifB (decide (s2 < IntKind.wrap .i64 (s19 - s20)))
 (∃ xs : LL, XC pg 268 [.one (.ol 2000), Z s20, Z s2, Z (IntKind.wrap .i64 (s19 - s20)), .one (.d (.fn 143))] [(2000, .lst 30 3 s0)] (.tup []) [(2000, .lst 30 3 xs)] ∧ ifB (decide (s1 < s20))
 (ifB (decide (s20 < s18))
 (∃ xs1 : LL, XC pg 261 [.one (.ol 2000), Z s1, Z s20, Z s18, .one (.d (.fn 143))] [(2000, .lst 30 3 xs)] (.tup []) [(2000, .lst 30 3 xs1)] ∧ ifB (decide (s18 < IntKind.wrap .i64 (s19 - s20)))
 (ifB (decide (IntKind.wrap .i64 (s19 - s20) < s3))
 (∃ xs2 : LL, XC pg 261 [.one (.ol 2000), Z s18, Z (IntKind.wrap .i64 (s19 - s20)), Z s3, .one (.d (.fn 143))] [(2000, .lst 30 3 xs1)] (.tup []) [(2000, .lst 30 3 xs2)] ∧ (.tup []) = r ∧ [(2000, .lst 30 3 xs2)] = O)
 ((.tup []) = r ∧ [(2000, .lst 30 3 xs1)] = O))
 ((.tup []) = r ∧ [(2000, .lst 30 3 xs1)] = O))
 (ifB (decide (s18 < IntKind.wrap .i64 (s19 - s20)))
 (ifB (decide (IntKind.wrap .i64 (s19 - s20) < s3))
 (∃ xs3 : LL, XC pg 261 [.one (.ol 2000), Z s18, Z (IntKind.wrap .i64 (s19 - s20)), Z s3, .one (.d (.fn 143))] [(2000, .lst 30 3 xs)] (.tup []) [(2000, .lst 30 3 xs3)] ∧ (.tup []) = r ∧ [(2000, .lst 30 3 xs3)] = O)
 ((.tup []) = r ∧ [(2000, .lst 30 3 xs)] = O))
 ((.tup []) = r ∧ [(2000, .lst 30 3 xs)] = O)))
 (ifB (decide (s18 < IntKind.wrap .i64 (s19 - s20)))
 (ifB (decide (IntKind.wrap .i64 (s19 - s20) < s3))
 (∃ xs4 : LL, XC pg 261 [.one (.ol 2000), Z s18, Z (IntKind.wrap .i64 (s19 - s20)), Z s3, .one (.d (.fn 143))] [(2000, .lst 30 3 xs)] (.tup []) [(2000, .lst 30 3 xs4)] ∧ (.tup []) = r ∧ [(2000, .lst 30 3 xs4)] = O)
 ((.tup []) = r ∧ [(2000, .lst 30 3 xs)] = O))
 ((.tup []) = r ∧ [(2000, .lst 30 3 xs)] = O)))
 (ifB (decide (s1 < s20))
 (ifB (decide (s20 < s18))
 (∃ xs5 : LL, XC pg 261 [.one (.ol 2000), Z s1, Z s20, Z s18, .one (.d (.fn 143))] [(2000, .lst 30 3 s0)] (.tup []) [(2000, .lst 30 3 xs5)] ∧ ifB (decide (s18 < IntKind.wrap .i64 (s19 - s20)))
 (ifB (decide (IntKind.wrap .i64 (s19 - s20) < s3))
 (∃ xs6 : LL, XC pg 261 [.one (.ol 2000), Z s18, Z (IntKind.wrap .i64 (s19 - s20)), Z s3, .one (.d (.fn 143))] [(2000, .lst 30 3 xs5)] (.tup []) [(2000, .lst 30 3 xs6)] ∧ (.tup []) = r ∧ [(2000, .lst 30 3 xs6)] = O)
 ((.tup []) = r ∧ [(2000, .lst 30 3 xs5)] = O))
 ((.tup []) = r ∧ [(2000, .lst 30 3 xs5)] = O))
 (ifB (decide (s18 < IntKind.wrap .i64 (s19 - s20)))
 (ifB (decide (IntKind.wrap .i64 (s19 - s20) < s3))
 (∃ xs7 : LL, XC pg 261 [.one (.ol 2000), Z s18, Z (IntKind.wrap .i64 (s19 - s20)), Z s3, .one (.d (.fn 143))] [(2000, .lst 30 3 s0)] (.tup []) [(2000, .lst 30 3 xs7)] ∧ (.tup []) = r ∧ [(2000, .lst 30 3 xs7)] = O)
 ((.tup []) = r ∧ [(2000, .lst 30 3 s0)] = O))
 ((.tup []) = r ∧ [(2000, .lst 30 3 s0)] = O)))
 (ifB (decide (s18 < IntKind.wrap .i64 (s19 - s20)))
 (ifB (decide (IntKind.wrap .i64 (s19 - s20) < s3))
 (∃ xs8 : LL, XC pg 261 [.one (.ol 2000), Z s18, Z (IntKind.wrap .i64 (s19 - s20)), Z s3, .one (.d (.fn 143))] [(2000, .lst 30 3 s0)] (.tup []) [(2000, .lst 30 3 xs8)] ∧ (.tup []) = r ∧ [(2000, .lst 30 3 xs8)] = O)
 ((.tup []) = r ∧ [(2000, .lst 30 3 s0)] = O))
 ((.tup []) = r ∧ [(2000, .lst 30 3 s0)] = O))))
 (ifB (decide (s1 < s20))
 (ifB (decide (s20 < s18))
 (∃ xs9 : LL, XC pg 261 [.one (.ol 2000), Z s1, Z s20, Z s18, .one (.d (.fn 143))] [(2000, .lst 30 3 s0)] (.tup []) [(2000, .lst 30 3 xs9)] ∧ ifB (decide (s18 < IntKind.wrap .i64 (s19 - s20)))
 (ifB (decide (IntKind.wrap .i64 (s19 - s20) < s3))
 (∃ xs10 : LL, XC pg 261 [.one (.ol 2000), Z s18, Z (IntKind.wrap .i64 (s19 - s20)), Z s3, .one (.d (.fn 143))] [(2000, .lst 30 3 xs9)] (.tup []) [(2000, .lst 30 3 xs10)] ∧ (.tup []) = r ∧ [(2000, .lst 30 3 xs10)] = O)
 ((.tup []) = r ∧ [(2000, .lst 30 3 xs9)] = O))
 ((.tup []) = r ∧ [(2000, .lst 30 3 xs9)] = O))
 (ifB (decide (s18 < IntKind.wrap .i64 (s19 - s20)))
 (ifB (decide (IntKind.wrap .i64 (s19 - s20) < s3))
 (∃ xs11 : LL, XC pg 261 [.one (.ol 2000), Z s18, Z (IntKind.wrap .i64 (s19 - s20)), Z s3, .one (.d (.fn 143))] [(2000, .lst 30 3 s0)] (.tup []) [(2000, .lst 30 3 xs11)] ∧ (.tup []) = r ∧ [(2000, .lst 30 3 xs11)] = O)
 ((.tup []) = r ∧ [(2000, .lst 30 3 s0)] = O))
 ((.tup []) = r ∧ [(2000, .lst 30 3 s0)] = O)))
 (ifB (decide (s18 < IntKind.wrap .i64 (s19 - s20)))
 (ifB (decide (IntKind.wrap .i64 (s19 - s20) < s3))
 (∃ xs12 : LL, XC pg 261 [.one (.ol 2000), Z s18, Z (IntKind.wrap .i64 (s19 - s20)), Z s3, .one (.d (.fn 143))] [(2000, .lst 30 3 s0)] (.tup []) [(2000, .lst 30 3 xs12)] ∧ (.tup []) = r ∧ [(2000, .lst 30 3 xs12)] = O)
 ((.tup []) = r ∧ [(2000, .lst 30 3 s0)] = O))
 ((.tup []) = r ∧ [(2000, .lst 30 3 s0)] = O))))) : b0q r O s1 s2 s3 s18 s19 s20 s21 s22 s0 := by
 unfold b0q CLk
 refine c2q (E := c6q) (hs := b8q) f9q a3q ?_
 exact a5q (by kernel_rfl) h
theorem m9q {r : AV} {O : List (Nat × Ob)} {s10 s13 : Int} {s0 : LL} (h : ifB (decide (s13 < IntKind.wrap .i64 (s10 - (1 : Int))))
 (∃ m : Nat, (IntKind.wrap .i64 (s13 + (1 : Int))) = (↑m : Int) ∧ Do (m < s0.length) ∧ ∃ n : Nat, (m * (3 : Nat)) = (n * (3 : Nat)) ∧ ∃ n1 n2 : Int, ∃ d : Da, (s0[n]?) = some [.int .i64 n1, .int .i64 n2, d] ∧ ∃ m1 : Nat, s13 = (↑m1 : Int) ∧ Do (m1 < s0.length) ∧ ∃ n3 : Nat, (m1 * (3 : Nat)) = (n3 * (3 : Nat)) ∧ ∃ n4 n5 : Int, ∃ d1 : Da, (s0[n3]?) = some [.int .i64 n4, .int .i64 n5, d1] ∧ ∃ m2 : Nat, s13 = (↑m2 : Int) ∧ Do (m2 < s0.length) ∧ ∃ m3 : Nat, (m2 * (3 : Nat)) = (m3 * (3 : Nat) + (0 : Nat)) ∧ ∃ n6 n7 : Int, ∃ d2 : Da, (s0[m3]?) = some [.int .i64 n6, .int .i64 n7, d2] ∧ ∃ m4 : Nat, (IntKind.wrap .i64 (s13 + (1 : Int))) = (↑m4 : Int) ∧ Do (m4 < List.length (List.set s0 m3 ([] ++ [Da.int IntKind.i64 n1, Da.int IntKind.i64 n2, d] ++ []))) ∧ ∃ m5 : Nat, (m4 * (3 : Nat)) = (m5 * (3 : Nat) + (0 : Nat)) ∧ ∃ n8 n9 : Int, ∃ d3 : Da, ((List.set s0 m3 ([] ++ [Da.int IntKind.i64 n1, Da.int IntKind.i64 n2, d] ++ []))[m5]?) = some [.int .i64 n8, .int .i64 n9, d3] ∧ e1q r O s10 (IntKind.wrap .i64 (s13 + (1 : Int))) (List.set (List.set s0 m3 ([] ++ [Da.int IntKind.i64 n1, Da.int IntKind.i64 n2, d] ++ [])) m5 ([] ++ [Da.int IntKind.i64 n4, Da.int IntKind.i64 n5, d1] ++ [])))
 ((.tup []) = r ∧ [(2000, .lst 30 3 s0)] = O)) : e1q r O s10 s13 s0 := by
 unfold e1q CLk
 refine c2q (E := c6q) (hs := b8q) f9q a3q ?_
 exact a5q (by kernel_rfl) h
theorem m4q {r : AV} {O : List (Nat × Ob)} {s14 s17 : Int} {s0 : LL} (h : ifB (decide (s14 < s17))
 (∃ m : Nat, (IntKind.wrap .i64 (s17 - (1 : Int))) = (↑m : Int) ∧ Do (m < s0.length) ∧ ∃ n : Nat, (m * (3 : Nat)) = (n * (3 : Nat)) ∧ ∃ n1 n2 : Int, ∃ d : Da, (s0[n]?) = some [.int .i64 n1, .int .i64 n2, d] ∧ ∃ m1 : Nat, s17 = (↑m1 : Int) ∧ Do (m1 < s0.length) ∧ ∃ n3 : Nat, (m1 * (3 : Nat)) = (n3 * (3 : Nat)) ∧ ∃ n4 n5 : Int, ∃ d1 : Da, (s0[n3]?) = some [.int .i64 n4, .int .i64 n5, d1] ∧ ∃ m2 : Nat, s17 = (↑m2 : Int) ∧ Do (m2 < s0.length) ∧ ∃ m3 : Nat, (m2 * (3 : Nat)) = (m3 * (3 : Nat) + (0 : Nat)) ∧ ∃ n6 n7 : Int, ∃ d2 : Da, (s0[m3]?) = some [.int .i64 n6, .int .i64 n7, d2] ∧ ∃ m4 : Nat, (IntKind.wrap .i64 (s17 - (1 : Int))) = (↑m4 : Int) ∧ Do (m4 < List.length (List.set s0 m3 ([] ++ [Da.int IntKind.i64 n1, Da.int IntKind.i64 n2, d] ++ []))) ∧ ∃ m5 : Nat, (m4 * (3 : Nat)) = (m5 * (3 : Nat) + (0 : Nat)) ∧ ∃ n8 n9 : Int, ∃ d3 : Da, ((List.set s0 m3 ([] ++ [Da.int IntKind.i64 n1, Da.int IntKind.i64 n2, d] ++ []))[m5]?) = some [.int .i64 n8, .int .i64 n9, d3] ∧ d7q r O s14 (IntKind.wrap .i64 (s17 - (1 : Int))) (List.set (List.set s0 m3 ([] ++ [Da.int IntKind.i64 n1, Da.int IntKind.i64 n2, d] ++ [])) m5 ([] ++ [Da.int IntKind.i64 n4, Da.int IntKind.i64 n5, d1] ++ [])))
 ((.tup []) = r ∧ [(2000, .lst 30 3 s0)] = O)) : d7q r O s14 s17 s0 := by
 unfold d7q CLk
 refine c2q (E := c6q) (hs := b8q) f9q a3q ?_
 exact a5q (by kernel_rfl) h
theorem h8q {p p1 p2 : Int} {o2000 : LL} {r : AV} {O : List (Nat × Ob)} (h : ifB (decide (IntKind.wrap .i64 (p1 - p) = (1 : Int)))
 (c1q r O p p1 p2 o2000)
 (ifB (decide (IntKind.wrap .i64 (p2 - p1) = (1 : Int)))
 (c0q r O p1 p p1 o2000)
 (Do ((0 : Int) ≤ (1 : Int) ∧ (1 : Int) ≤ (↑(IntKind.bits IntKind.u64) : Int)) ∧ ifB (decide (IntKind.wrap .i64 (IntKind.wrap IntKind.u64 (IntKind.wrap .i64 (p + p2)) / (2 : Int) ^ Int.toNat (1 : Int)) < p1))
 (b0q r O p p1 p2 (IntKind.wrap .i64 (IntKind.wrap IntKind.u64 (IntKind.wrap .i64 (p + p2)) / (2 : Int) ^ Int.toNat (1 : Int))) (IntKind.wrap .i64 (IntKind.wrap .i64 (IntKind.wrap IntKind.u64 (IntKind.wrap .i64 (p + p2)) / (2 : Int) ^ Int.toNat (1 : Int)) + p1)) (IntKind.wrap .i64 (IntKind.wrap .i64 (IntKind.wrap .i64 (IntKind.wrap IntKind.u64 (IntKind.wrap .i64 (p + p2)) / (2 : Int) ^ Int.toNat (1 : Int)) + p1) - p2)) (IntKind.wrap .i64 (IntKind.wrap IntKind.u64 (IntKind.wrap .i64 (p + p2)) / (2 : Int) ^ Int.toNat (1 : Int))) (IntKind.wrap .i64 (IntKind.wrap .i64 (IntKind.wrap .i64 (IntKind.wrap IntKind.u64 (IntKind.wrap .i64 (p + p2)) / (2 : Int) ^ Int.toNat (1 : Int)) + p1) - (1 : Int))) o2000)
 (b0q r O p p1 p2 (IntKind.wrap .i64 (IntKind.wrap IntKind.u64 (IntKind.wrap .i64 (p + p2)) / (2 : Int) ^ Int.toNat (1 : Int))) (IntKind.wrap .i64 (IntKind.wrap .i64 (IntKind.wrap IntKind.u64 (IntKind.wrap .i64 (p + p2)) / (2 : Int) ^ Int.toNat (1 : Int)) + p1)) p p1 (IntKind.wrap .i64 (IntKind.wrap .i64 (IntKind.wrap .i64 (IntKind.wrap IntKind.u64 (IntKind.wrap .i64 (p + p2)) / (2 : Int) ^ Int.toNat (1 : Int)) + p1) - (1 : Int))) o2000)))) : XC pg 261 [(.one (.ol 2000)), (Z p), (Z p1), (Z p2), (.one (.d (.fn 143)))] [(2000, (.lst 30 3 o2000))] r O :=
 b1q (E := c6q) (hs := b8q) (c := (a1q Tryz.f261)) (n := 220) (res := []) (rs := .t []) (ks := [(2000, (false))]) (dir := [2000]) f9q a3q rfl Tryz.func261 (by kernel_rfl) (by kernel_rfl) (by kernel_rfl) (by kernel_rfl) (a5q (by kernel_rfl) h)
def e2q : a8q := ⟨[(1, ⟨[0, 1, 2, 3, 8], [], [], [], [], [], []⟩), (4, ⟨[0, 1, 2, 3, 8, 9], [], [], [], [], [], []⟩)], []⟩
def c3q (r : AV) (O : List (Nat × Ob)) (a b i : Int) (data : LL) : Prop := CLk 53 c6q e2q (a1q Tryz.f266) [1, 0, 0] (c7q c6q [] (.t []) [(2000, (false))] [2000] r O) ⟨[(0, (.one (.ol 2000))), (1, (Z a)), (2, (Z b)), (3, (.one (.d (.fn 135)))), (8, (Z i))], [(2000, (.lst 85 7 data))]⟩
def e0q (r : AV) (O : List (Nat × Ob)) (a b : Int) (i j : Int) (data : LL) : Prop := CLk 53 c6q e2q (a1q Tryz.f266) [1, 0, 0, 1, 0, 0, 1, 0, 0] (c7q c6q [] (.t []) [(2000, (false))] [2000] r O) ⟨[(0, (.one (.ol 2000))), (1, (Z a)), (2, (Z b)), (3, (.one (.d (.fn 135)))), (8, (Z i)), (9, (Z j))], [(2000, (.lst 85 7 data))]⟩
theorem h7q {r : AV} {O : List (Nat × Ob)} {a b i : Int} {data : LL} (h : ifB (decide (i < b))
 (e0q r O a b i i data)
 ((.tup []) = r ∧ [(2000, .lst 85 7 data)] = O)) : c3q r O a b i data := by
 unfold c3q CLk
 refine c2q (E := c6q) (hs := e2q) f9q a3q ?_
 exact a5q (by kernel_rfl) h
theorem h6q {r : AV} {O : List (Nat × Ob)} {a b i j : Int} {data : LL} (h : ifB (decide (a < j))
 (∃ m : Nat, j = (↑m : Int) ∧ Do (m < data.length) ∧ ∃ n : Nat, (m * (7 : Nat)) = (n * (7 : Nat)) ∧ ∃ b2 : Bool, ∃ n1 n2 : Int, ∃ d : Da, ∃ n3 n4 : Int, ∃ d1 : Da, (data[n]?) = some [.bool b2, .int .i64 n1, .int .i64 n2, d, .int .i64 n3, .int .i64 n4, d1] ∧ ∃ m1 : Nat, (IntKind.wrap .i64 (j - (1 : Int))) = (↑m1 : Int) ∧ Do (m1 < data.length) ∧ ∃ n5 : Nat, (m1 * (7 : Nat)) = (n5 * (7 : Nat)) ∧ ∃ b3 : Bool, ∃ n6 n7 : Int, ∃ d2 : Da, ∃ n8 n9 : Int, ∃ d3 : Da, (data[n5]?) = some [.bool b3, .int .i64 n6, .int .i64 n7, d2, .int .i64 n8, .int .i64 n9, d3] ∧ ∃ n10 : Int, XC pg 135 [.dat [.bool b2, .int .i64 n1, .int .i64 n2, d, .int .i64 n3, .int .i64 n4, d1], .dat [.bool b3, .int .i64 n6, .int .i64 n7, d2, .int .i64 n8, .int .i64 n9, d3]] [] (Z n10) [] ∧ ifB (decide (n10 < (0 : Int)))
 (∃ m2 : Nat, (IntKind.wrap .i64 (j - (1 : Int))) = (↑m2 : Int) ∧ Do (m2 < data.length) ∧ ∃ n11 : Nat, (m2 * (7 : Nat)) = (n11 * (7 : Nat)) ∧ ∃ b4 : Bool, ∃ n12 n13 : Int, ∃ d4 : Da, ∃ n14 n15 : Int, ∃ d5 : Da, (data[n11]?) = some [.bool b4, .int .i64 n12, .int .i64 n13, d4, .int .i64 n14, .int .i64 n15, d5] ∧ ∃ m3 : Nat, j = (↑m3 : Int) ∧ Do (m3 < data.length) ∧ ∃ n16 : Nat, (m3 * (7 : Nat)) = (n16 * (7 : Nat)) ∧ ∃ b5 : Bool, ∃ n17 n18 : Int, ∃ d6 : Da, ∃ n19 n20 : Int, ∃ d7 : Da, (data[n16]?) = some [.bool b5, .int .i64 n17, .int .i64 n18, d6, .int .i64 n19, .int .i64 n20, d7] ∧ ∃ m4 : Nat, j = (↑m4 : Int) ∧ Do (m4 < data.length) ∧ ∃ m5 : Nat, (m4 * (7 : Nat)) = (m5 * (7 : Nat) + (0 : Nat)) ∧ ∃ b6 : Bool, ∃ n21 n22 : Int, ∃ d8 : Da, ∃ n23 n24 : Int, ∃ d9 : Da, (data[m5]?) = some [.bool b6, .int .i64 n21, .int .i64 n22, d8, .int .i64 n23, .int .i64 n24, d9] ∧ ∃ m6 : Nat, (IntKind.wrap .i64 (j - (1 : Int))) = (↑m6 : Int) ∧ Do (m6 < List.length (List.set data m5 ([] ++ [Da.bool b4, Da.int IntKind.i64 n12, Da.int IntKind.i64 n13, d4, Da.int IntKind.i64 n14, Da.int IntKind.i64 n15, d5] ++ []))) ∧ ∃ m7 : Nat, (m6 * (7 : Nat)) = (m7 * (7 : Nat) + (0 : Nat)) ∧ ∃ b7 : Bool, ∃ n25 n26 : Int, ∃ d10 : Da, ∃ n27 n28 : Int, ∃ d11 : Da, ((List.set data m5 ([] ++ [Da.bool b4, Da.int IntKind.i64 n12, Da.int IntKind.i64 n13, d4, Da.int IntKind.i64 n14, Da.int IntKind.i64 n15, d5] ++ []))[m7]?) = some [.bool b7, .int .i64 n25, .int .i64 n26, d10, .int .i64 n27, .int .i64 n28, d11] ∧ e0q r O a b i (IntKind.wrap .i64 (j - (1 : Int))) (List.set (List.set data m5 ([] ++ [Da.bool b4, Da.int IntKind.i64 n12, Da.int IntKind.i64 n13, d4, Da.int IntKind.i64 n14, Da.int IntKind.i64 n15, d5] ++ [])) m7 ([] ++ [Da.bool b5, Da.int IntKind.i64 n17, Da.int IntKind.i64 n18, d6, Da.int IntKind.i64 n19, Da.int IntKind.i64 n20, d7] ++ [])))
 (c3q r O a b (IntKind.wrap .i64 (i + (1 : Int))) data))
 (c3q r O a b (IntKind.wrap .i64 (i + (1 : Int))) data)) : e0q r O a b i j data := by
 unfold e0q CLk
 refine c2q (E := c6q) (hs := e2q) f9q a3q ?_
 exact a5q (by kernel_rfl) h
theorem k7q {a b : Int} {o2000 : LL} {r : AV} {O : List (Nat × Ob)} (h : c3q r O a b (IntKind.wrap .i64 (a + (1 : Int))) o2000) : XC pg 266 [(.one (.ol 2000)), (Z a), (Z b), (.one (.d (.fn 135)))] [(2000, (.lst 85 7 o2000))] r O :=
 b1q (E := c6q) (hs := e2q) (c := (a1q Tryz.f266)) (n := 53) (res := []) (rs := .t []) (ks := [(2000, (false))]) (dir := [2000]) f9q a3q rfl Tryz.func266 (by kernel_rfl) (by kernel_rfl) (by kernel_rfl) (by kernel_rfl) (a5q (by kernel_rfl) h)
def b4q : a8q := ⟨[(3, ⟨[0, 1, 4, 10, 11], [], [], [], [], [], []⟩), (9, ⟨[0, 10, 13], [], [], [], [], [], []⟩), (15, ⟨[0, 2, 4, 14, 15], [], [], [], [], [], []⟩), (21, ⟨[0, 14, 17], [], [], [], [], [], []⟩), (33, ⟨[0, 1, 2, 3, 4, 18, 19, 20, 21, 22], [], [], [], [], [], []⟩)], []⟩
def b7q (r : AV) (O : List (Nat × Ob)) (s1 s10 s11 : Int) (s0 : LL) : Prop := CLk 220 c6q b4q (a1q Tryz.f267) [0, 1, 0, 1, 1, 0, 0, 0] (c7q c6q [] (.t []) [(2000, (false))] [2000] r O) ⟨[(0, (.one (.ol 2000))), (1, (Z s1)), (4, (.one (.d (.fn 135)))), (10, (Z s10)), (11, (Z s11))], [(2000, (.lst 85 7 s0))]⟩
def b6q (r : AV) (O : List (Nat × Ob)) (s2 s14 s15 : Int) (s0 : LL) : Prop := CLk 220 c6q b4q (a1q Tryz.f267) [1, 0, 1, 0, 1, 1, 0, 0, 0] (c7q c6q [] (.t []) [(2000, (false))] [2000] r O) ⟨[(0, (.one (.ol 2000))), (2, (Z s2)), (4, (.one (.d (.fn 135)))), (14, (Z s14)), (15, (Z s15))], [(2000, (.lst 85 7 s0))]⟩
def a9q (r : AV) (O : List (Nat × Ob)) (s1 s2 : Int) (s3 s18 : Int) (s19 s20 : Int) (s21 s22 : Int) (s0 : LL) : Prop := CLk 220 c6q b4q (a1q Tryz.f267) [1, 1, 1, 1, 1, 1, 1, 0, 0, 0] (c7q c6q [] (.t []) [(2000, (false))] [2000] r O) ⟨[(0, (.one (.ol 2000))), (1, (Z s1)), (2, (Z s2)), (3, (Z s3)), (4, (.one (.d (.fn 135)))), (18, (Z s18)), (19, (Z s19)), (20, (Z s20)), (21, (Z s21)), (22, (Z s22))], [(2000, (.lst 85 7 s0))]⟩
def d4q (r : AV) (O : List (Nat × Ob)) (s10 s13 : Int) (s0 : LL) : Prop := CLk 220 c6q b4q (a1q Tryz.f267) [0, 1, 0, 1, 1, 1, 0, 1, 0, 0] (c7q c6q [] (.t []) [(2000, (false))] [2000] r O) ⟨[(0, (.one (.ol 2000))), (10, (Z s10)), (13, (Z s13))], [(2000, (.lst 85 7 s0))]⟩
def d3q (r : AV) (O : List (Nat × Ob)) (s14 s17 : Int) (s0 : LL) : Prop := CLk 220 c6q b4q (a1q Tryz.f267) [1, 0, 1, 0, 1, 1, 1, 0, 1, 0, 0] (c7q c6q [] (.t []) [(2000, (false))] [2000] r O) ⟨[(0, (.one (.ol 2000))), (14, (Z s14)), (17, (Z s17))], [(2000, (.lst 85 7 s0))]⟩
theorem l6q {r : AV} {O : List (Nat × Ob)} {s1 s10 s11 : Int} {s0 : LL} (h : ifB (decide (s10 < s11))
 (Do ((0 : Int) ≤ (1 : Int) ∧ (1 : Int) ≤ (↑(IntKind.bits IntKind.u64) : Int)) ∧ ∃ m : Nat, (IntKind.wrap .i64 (IntKind.wrap IntKind.u64 (IntKind.wrap .i64 (s10 + s11)) / (2 : Int) ^ Int.toNat (1 : Int))) = (↑m : Int) ∧ Do (m < s0.length) ∧ ∃ n : Nat, (m * (7 : Nat)) = (n * (7 : Nat)) ∧ ∃ b : Bool, ∃ n1 n2 : Int, ∃ d : Da, ∃ n3 n4 : Int, ∃ d1 : Da, (s0[n]?) = some [.bool b, .int .i64 n1, .int .i64 n2, d, .int .i64 n3, .int .i64 n4, d1] ∧ ∃ m1 : Nat, s1 = (↑m1 : Int) ∧ Do (m1 < s0.length) ∧ ∃ n5 : Nat, (m1 * (7 : Nat)) = (n5 * (7 : Nat)) ∧ ∃ b1 : Bool, ∃ n6 n7 : Int, ∃ d2 : Da, ∃ n8 n9 : Int, ∃ d3 : Da, (s0[n5]?) = some [.bool b1, .int .i64 n6, .int .i64 n7, d2, .int .i64 n8, .int .i64 n9, d3] ∧ ∃ n10 : Int, XC pg 135 [.dat [.bool b, .int .i64 n1, .int .i64 n2, d, .int .i64 n3, .int .i64 n4, d1], .dat [.bool b1, .int .i64 n6, .int .i64 n7, d2, .int .i64 n8, .int .i64 n9, d3]] [] (Z n10) [] ∧ ifB (decide (n10 < (0 : Int)))
 (b7q r O s1 (IntKind.wrap .i64 (IntKind.wrap .i64 (IntKind.wrap IntKind.u64 (IntKind.wrap .i64 (s10 + s11)) / (2 : Int) ^ Int.toNat (1 : Int)) + (1 : Int))) s11 s0)
 (b7q r O s1 s10 (IntKind.wrap .i64 (IntKind.wrap IntKind.u64 (IntKind.wrap .i64 (s10 + s11)) / (2 : Int) ^ Int.toNat (1 : Int))) s0))
 (d4q r O s10 s1 s0)) : b7q r O s1 s10 s11 s0 := by
 unfold b7q CLk
 refine c2q (E := c6q) (hs := b4q) f9q a3q ?_
 exact a5q (by kernel_rfl) h
theorem l2q {r : AV} {O : List (Nat × Ob)} {s2 s14 s15 : Int} {s0 : LL} (h : ifB (decide (s14 < s15))
 (Do ((0 : Int) ≤ (1 : Int) ∧ (1 : Int) ≤ (↑(IntKind.bits IntKind.u64) : Int)) ∧ ∃ m : Nat, s2 = (↑m : Int) ∧ Do (m < s0.length) ∧ ∃ n : Nat, (m * (7 : Nat)) = (n * (7 : Nat)) ∧ ∃ b : Bool, ∃ n1 n2 : Int, ∃ d : Da, ∃ n3 n4 : Int, ∃ d1 : Da, (s0[n]?) = some [.bool b, .int .i64 n1, .int .i64 n2, d, .int .i64 n3, .int .i64 n4, d1] ∧ ∃ m1 : Nat, (IntKind.wrap .i64 (IntKind.wrap IntKind.u64 (IntKind.wrap .i64 (s14 + s15)) / (2 : Int) ^ Int.toNat (1 : Int))) = (↑m1 : Int) ∧ Do (m1 < s0.length) ∧ ∃ n5 : Nat, (m1 * (7 : Nat)) = (n5 * (7 : Nat)) ∧ ∃ b1 : Bool, ∃ n6 n7 : Int, ∃ d2 : Da, ∃ n8 n9 : Int, ∃ d3 : Da, (s0[n5]?) = some [.bool b1, .int .i64 n6, .int .i64 n7, d2, .int .i64 n8, .int .i64 n9, d3] ∧ ∃ n10 : Int, XC pg 135 [.dat [.bool b, .int .i64 n1, .int .i64 n2, d, .int .i64 n3, .int .i64 n4, d1], .dat [.bool b1, .int .i64 n6, .int .i64 n7, d2, .int .i64 n8, .int .i64 n9, d3]] [] (Z n10) [] ∧ ifB (!decide (n10 < (0 : Int)))
 (b6q r O s2 (IntKind.wrap .i64 (IntKind.wrap .i64 (IntKind.wrap IntKind.u64 (IntKind.wrap .i64 (s14 + s15)) / (2 : Int) ^ Int.toNat (1 : Int)) + (1 : Int))) s15 s0)
 (b6q r O s2 s14 (IntKind.wrap .i64 (IntKind.wrap IntKind.u64 (IntKind.wrap .i64 (s14 + s15)) / (2 : Int) ^ Int.toNat (1 : Int))) s0))
 (d3q r O s14 s2 s0)) : b6q r O s2 s14 s15 s0 := by
 unfold b6q CLk
 refine c2q (E := c6q) (hs := b4q) f9q a3q ?_
 exact a5q (by kernel_rfl) h
theorem l3q {r : AV} {O : List (Nat × Ob)} {s1 s2 s3 s18 s19 s20 s21 s22 : Int} {s0 : LL} (h : ifB (decide (s20 < s21))
 (Do ((0 : Int) ≤ (1 : Int) ∧ (1 : Int) ≤ (↑(IntKind.bits IntKind.u64) : Int)) ∧ ∃ m : Nat, (IntKind.wrap .i64 (s22 - IntKind.wrap .i64 (IntKind.wrap IntKind.u64 (IntKind.wrap .i64 (s20 + s21)) / (2 : Int) ^ Int.toNat (1 : Int)))) = (↑m : Int) ∧ Do (m < s0.length) ∧ ∃ n : Nat, (m * (7 : Nat)) = (n * (7 : Nat)) ∧ ∃ b : Bool, ∃ n1 n2 : Int, ∃ d : Da, ∃ n3 n4 : Int, ∃ d1 : Da, (s0[n]?) = some [.bool b, .int .i64 n1, .int .i64 n2, d, .int .i64 n3, .int .i64 n4, d1] ∧ ∃ m1 : Nat, (IntKind.wrap .i64 (IntKind.wrap IntKind.u64 (IntKind.wrap .i64 (s20 + s21)) / (2 : Int) ^ Int.toNat (1 : Int))) = (↑m1 : Int) ∧ Do (m1 < s0.length) ∧ ∃ n5 : Nat, (m1 * (7 : Nat)) = (n5 * (7 : Nat)) ∧ ∃ b1 : Bool, ∃ n6 n7 : Int, ∃ d2 : Da, ∃ n8 n9 : Int, ∃ d3 : Da, (s0[n5]?) = some [.bool b1, .int .i64 n6, .int .i64 n7, d2, .int .i64 n8, .int .i64 n9, d3] ∧ ∃ n10 : Int, XC pg 135 [.dat [.bool b, .int .i64 n1, .int .i64 n2, d, .int .i64 n3, .int .i64 n4, d1], .dat [.bool b1, .int .i64 n6, .int .i64 n7, d2, .int .i64 n8, .int .i64 n9, d3]] [] (Z n10) [] ∧ ifB (!decide (n10 < (0 : Int)))
 (a9q r O s1 s2 s3 s18 s19 (IntKind.wrap .i64 (IntKind.wrap .i64 (IntKind.wrap IntKind.u64 (IntKind.wrap .i64 (s20 + s21)) / (2 : Int) ^ Int.toNat (1 : Int)) + (1 : Int))) s21 s22 s0)
 (a9q r O s1 s2 s3 s18 s19 s20 (IntKind.wrap .i64 (IntKind.wrap IntKind.u64 (IntKind.wrap .i64 (s20 + s21)) / (2 : Int) ^ Int.toNat (1 : Int))) s22 s0))
 (ifB (decide (s20 < s2))
 (ifB (decide (s2 < IntKind.wrap .i64 (s19 - s20)))
 (∃ xs : LL, XC pg 271 [.one (.ol 2000), Z s20, Z s2, Z (IntKind.wrap .i64 (s19 - s20)), .one (.d (.fn 135))] [(2000, .lst 85 7 s0)] (.tup []) [(2000, .lst 85 7 xs)] ∧ ifB (decide (s1 < s20))
 (ifB (decide (s20 < s18))
 (∃ xs1 : LL, XC pg 267 [.one (.ol 2000), Z s1, Z s20, Z s18, .one (.d (.fn 135))] [(2000, .lst 85 7 xs)] (.tup []) [(2000, .lst 85 7 xs1)] ∧ ifB (decide (s18 < IntKind.wrap .i64 (s19 - s20)))
 (ifB (decide (IntKind.wrap .i64 (s19 - s20) < s3))
 (∃ xs2 : LL, XC pg 267 [.one (.ol 2000), Z s18, Z (IntKind.wrap .i64 (s19 - s20)), Z s3, .one (.d (.fn 135))] [(2000, .lst 85 7 xs1)] (.tup []) [(2000, .lst 85 7 xs2)] ∧ (.tup []) = r ∧ [(2000, .lst 85 7 xs2)] = O)
 ((.tup []) = r ∧ [(2000, .lst 85 7 xs1)] = O))
 ((.tup []) = r ∧ [(2000, .lst 85 7 xs1)] = O))
 (ifB (decide (s18 < IntKind.wrap .i64 (s19 - s20)))
 (ifB (decide (IntKind.wrap .i64 (s19 - s20) < s3))
 (∃ xs3 : LL, XC pg 267 [.one (.ol 2000), Z s18, Z (IntKind.wrap .i64 (s19 - s20)), Z s3, .one (.d (.fn 135))] [(2000, .lst 85 7 xs)] (.tup []) [(2000, .lst 85 7 xs3)] ∧ (.tup []) = r ∧ [(2000, .lst 85 7 xs3)] = O)
 ((.tup []) = r ∧ [(2000, .lst 85 7 xs)] = O))
 ((.tup []) = r ∧ [(2000, .lst 85 7 xs)] = O)))
 (ifB (decide (s18 < IntKind.wrap .i64 (s19 - s20)))
 (ifB (decide (IntKind.wrap .i64 (s19 - s20) < s3))
 (∃ xs4 : LL, XC pg 267 [.one (.ol 2000), Z s18, Z (IntKind.wrap .i64 (s19 - s20)), Z s3, .one (.d (.fn 135))] [(2000, .lst 85 7 xs)] (.tup []) [(2000, .lst 85 7 xs4)] ∧ (.tup []) = r ∧ [(2000, .lst 85 7 xs4)] = O)
 ((.tup []) = r ∧ [(2000, .lst 85 7 xs)] = O))
 ((.tup []) = r ∧ [(2000, .lst 85 7 xs)] = O)))
 (ifB (decide (s1 < s20))
 (ifB (decide (s20 < s18))
 (∃ xs5 : LL, XC pg 267 [.one (.ol 2000), Z s1, Z s20, Z s18, .one (.d (.fn 135))] [(2000, .lst 85 7 s0)] (.tup []) [(2000, .lst 85 7 xs5)] ∧ ifB (decide (s18 < IntKind.wrap .i64 (s19 - s20)))
 (ifB (decide (IntKind.wrap .i64 (s19 - s20) < s3))
 (∃ xs6 : LL, XC pg 267 [.one (.ol 2000), Z s18, Z (IntKind.wrap .i64 (s19 - s20)), Z s3, .one (.d (.fn 135))] [(2000, .lst 85 7 xs5)] (.tup []) [(2000, .lst 85 7 xs6)] ∧ (.tup []) = r ∧ [(2000, .lst 85 7 xs6)] = O)
 ((.tup []) = r ∧ [(2000, .lst 85 7 xs5)] = O))
 ((.tup []) = r ∧ [(2000, .lst 85 7 xs5)] = O))
 (ifB (decide (s18 < IntKind.wrap .i64 (s19 - s20)))
 (ifB (decide (IntKind.wrap .i64 (s19 - s20) < s3))
 (∃ xs7 : LL, XC pg 267 [.one (.ol 2000), Z s18, Z (IntKind.wrap .i64 (s19 - s20)), Z s3, .one (.d (.fn 135))] [(2000, .lst 85 7 s0)] (.tup []) [(2000, .lst 85 7 xs7)] ∧ (.tup []) = r ∧ [(2000, .lst 85 7 xs7)] = O)
 ((.tup []) = r ∧ [(2000, .lst 85 7 s0)] = O))
 ((.tup []) = r ∧ [(2000, .lst 85 7 s0)] = O)))
 (ifB (decide (s18 < IntKind.wrap .i64 (s19 - s20)))
 (ifB (decide (IntKind.wrap .i64 (s19 - s20) < s3))
 (∃ xs8 : LL, XC pg 267 [.one (.ol 2000), Z s18, Z (IntKind.wrap .i64 (s19 - s20)), Z s3, .one (.d (.fn 135))] [(2000, .lst 85 7 s0)] (.tup []) [(2000, .lst 85 7 xs8)] ∧ (.tup []) = r ∧ [(2000, .lst 85 7 xs8)] = O)
 ((.tup []) = r ∧ [(2000, .lst 85 7 s0)] = O))
 ((.tup []) = r ∧ [(2000, .lst 85 7 s0)] = O))))
 (ifB (decide (s1 < s20))
 (ifB (decide (s20 < s18))
 (∃ xs9 : LL, XC pg 267 [.one (.ol 2000), Z s1, Z s20, Z s18, .one (.d (.fn 135))] [(2000, .lst 85 7 s0)] (.tup []) [(2000, .lst 85 7 xs9)] ∧ ifB (decide (s18 < IntKind.wrap .i64 (s19 - s20)))
 (ifB (decide (IntKind.wrap .i64 (s19 - s20) < s3))
 (∃ xs10 : LL, XC pg 267 [.one (.ol 2000), Z s18, Z (IntKind.wrap .i64 (s19 - s20)), Z s3, .one (.d (.fn 135))] [(2000, .lst 85 7 xs9)] (.tup []) [(2000, .lst 85 7 xs10)] ∧ (.tup []) = r ∧ [(2000, .lst 85 7 xs10)] = O)
 ((.tup []) = r ∧ [(2000, .lst 85 7 xs9)] = O))
 ((.tup []) = r ∧ [(2000, .lst 85 7 xs9)] = O))
 (ifB (decide (s18 < IntKind.wrap .i64 (s19 - s20)))
 (ifB (decide (IntKind.wrap .i64 (s19 - s20) < s3))
 (∃ xs11 : LL, XC pg 267 [.one (.ol 2000), Z s18, Z (IntKind.wrap .i64 (s19 - s20)), Z s3, .one (.d (.fn 135))] [(2000, .lst 85 7 s0)] (.tup []) [(2000, .lst 85 7 xs11)] ∧ (.tup []) = r ∧ [(2000, .lst 85 7 xs11)] = O)
 ((.tup []) = r ∧ [(2000, .lst 85 7 s0)] = O))
 ((.tup []) = r ∧ [(2000, .lst 85 7 s0)] = O)))
 (ifB (decide (s18 < IntKind.wrap .i64 (s19 - s20)))
 (ifB (decide (IntKind.wrap .i64 (s19 - s20) < s3))
 (∃ xs12 : LL, XC pg 267 [.one (.ol 2000), Z s18, Z (IntKind.wrap .i64 (s19 - s20)), Z s3, .one (.d (.fn 135))] [(2000, .lst 85 7 s0)] (.tup []) [(2000, .lst 85 7 xs12)] ∧ (.tup []) = r ∧ [(2000, .lst 85 7 xs12)] = O)
 ((.tup []) = r ∧ [(2000, .lst 85 7 s0)] = O))
 ((.tup []) = r ∧ [(2000, .lst 85 7 s0)] = O))))) : a9q r O s1 s2 s3 s18 s19 s20 s21 s22 s0 := by
 unfold a9q CLk
 refine c2q (E := c6q) (hs := b4q) f9q a3q ?_
 exact a5q (by kernel_rfl) h
theorem l7q {r : AV} {O : List (Nat × Ob)} {s10 s13 : Int} {s0 : LL} (h : ifB (decide (s13 < IntKind.wrap .i64 (s10 - (1 : Int))))
 (∃ m : Nat, (IntKind.wrap .i64 (s13 + (1 : Int))) = (↑m : Int) ∧ Do (m < s0.length) ∧ ∃ n : Nat, (m * (7 : Nat)) = (n * (7 : Nat)) ∧ ∃ b : Bool, ∃ n1 n2 : Int, ∃ d : Da, ∃ n3 n4 : Int, ∃ d1 : Da, (s0[n]?) = some [.bool b, .int .i64 n1, .int .i64 n2, d, .int .i64 n3, .int .i64 n4, d1] ∧ ∃ m1 : Nat, s13 = (↑m1 : Int) ∧ Do (m1 < s0.length) ∧ ∃ n5 : Nat, (m1 * (7 : Nat)) = (n5 * (7 : Nat)) ∧ ∃ b1 : Bool, ∃ n6 n7 : Int, ∃ d2 : Da, ∃ n8 n9 : Int, ∃ d3 : Da, (s0[n5]?) = some [.bool b1, .int .i64 n6, .int .i64 n7, d2, .int .i64 n8, .int .i64 n9, d3] ∧ ∃ m2 : Nat, s13 = (↑m2 : Int) ∧ Do (m2 < s0.length) ∧ ∃ m3 : Nat, (m2 * (7 : Nat)) = (m3 * (7 : Nat) + (0 : Nat)) ∧ ∃ b2 : Bool, ∃ n10 n11 : Int, ∃ d4 : Da, ∃ n12 n13 : Int, ∃ d5 : Da, (s0[m3]?) = some [.bool b2, .int .i64 n10, .int .i64 n11, d4, .int .i64 n12, .int .i64 n13, d5] ∧ ∃ m4 : Nat, (IntKind.wrap .i64 (s13 + (1 : Int))) = (↑m4 : Int) ∧ Do (m4 < List.length (List.set s0 m3 ([] ++ [Da.bool b, Da.int IntKind.i64 n1, Da.int IntKind.i64 n2, d, Da.int IntKind.i64 n3, Da.int IntKind.i64 n4, d1] ++ []))) ∧ ∃ m5 : Nat, (m4 * (7 : Nat)) = (m5 * (7 : Nat) + (0 : Nat)) ∧ ∃ b3 : Bool, ∃ n14 n15 : Int, ∃ d6 : Da, ∃ n16 n17 : Int, ∃ d7 : Da, ((List.set s0 m3 ([] ++ [Da.bool b, Da.int IntKind.i64 n1, Da.int IntKind.i64 n2, d, Da.int IntKind.i64 n3, Da.int IntKind.i64 n4, d1] ++ []))[m5]?) = some [.bool b3, .int .i64 n14, .int .i64 n15, d6, .int .i64 n16, .int .i64 n17, d7] ∧ d4q r O s10 (IntKind.wrap .i64 (s13 + (1 : Int))) (List.set (List.set s0 m3 ([] ++ [Da.bool b, Da.int IntKind.i64 n1, Da.int IntKind.i64 n2, d, Da.int IntKind.i64 n3, Da.int IntKind.i64 n4, d1] ++ [])) m5 ([] ++ [Da.bool b1, Da.int IntKind.i64 n6, Da.int IntKind.i64 n7, d2, Da.int IntKind.i64 n8, Da.int IntKind.i64 n9, d3] ++ [])))
 ((.tup []) = r ∧ [(2000, .lst 85 7 s0)] = O)) : d4q r O s10 s13 s0 := by
 unfold d4q CLk
 refine c2q (E := c6q) (hs := b4q) f9q a3q ?_
 exact a5q (by kernel_rfl) h
theorem l1q {r : AV} {O : List (Nat × Ob)} {s14 s17 : Int} {s0 : LL} (h : ifB (decide (s14 < s17))
 (∃ m : Nat, (IntKind.wrap .i64 (s17 - (1 : Int))) = (↑m : Int) ∧ Do (m < s0.length) ∧ ∃ n : Nat, (m * (7 : Nat)) = (n * (7 : Nat)) ∧ ∃ b : Bool, ∃ n1 n2 : Int, ∃ d : Da, ∃ n3 n4 : Int, ∃ d1 : Da, (s0[n]?) = some [.bool b, .int .i64 n1, .int .i64 n2, d, .int .i64 n3, .int .i64 n4, d1] ∧ ∃ m1 : Nat, s17 = (↑m1 : Int) ∧ Do (m1 < s0.length) ∧ ∃ n5 : Nat, (m1 * (7 : Nat)) = (n5 * (7 : Nat)) ∧ ∃ b1 : Bool, ∃ n6 n7 : Int, ∃ d2 : Da, ∃ n8 n9 : Int, ∃ d3 : Da, (s0[n5]?) = some [.bool b1, .int .i64 n6, .int .i64 n7, d2, .int .i64 n8, .int .i64 n9, d3] ∧ ∃ m2 : Nat, s17 = (↑m2 : Int) ∧ Do (m2 < s0.length) ∧ ∃ m3 : Nat, (m2 * (7 : Nat)) = (m3 * (7 : Nat) + (0 : Nat)) ∧ ∃ b2 : Bool, ∃ n10 n11 : Int, ∃ d4 : Da, ∃ n12 n13 : Int, ∃ d5 : Da, (s0[m3]?) = some [.bool b2, .int .i64 n10, .int .i64 n11, d4, .int .i64 n12, .int .i64 n13, d5] ∧ ∃ m4 : Nat, (IntKind.wrap .i64 (s17 - (1 : Int))) = (↑m4 : Int) ∧ Do (m4 < List.length (List.set s0 m3 ([] ++ [Da.bool b, Da.int IntKind.i64 n1, Da.int IntKind.i64 n2, d, Da.int IntKind.i64 n3, Da.int IntKind.i64 n4, d1] ++ []))) ∧ ∃ m5 : Nat, (m4 * (7 : Nat)) = (m5 * (7 : Nat) + (0 : Nat)) ∧ ∃ b3 : Bool, ∃ n14 n15 : Int, ∃ d6 : Da, ∃ n16 n17 : Int, ∃ d7 : Da, ((List.set s0 m3 ([] ++ [Da.bool b, Da.int IntKind.i64 n1, Da.int IntKind.i64 n2, d, Da.int IntKind.i64 n3, Da.int IntKind.i64 n4, d1] ++ []))[m5]?) = some [.bool b3, .int .i64 n14, .int .i64 n15, d6, .int .i64 n16, .int .i64 n17, d7] ∧ d3q r O s14 (IntKind.wrap .i64 (s17 - (1 : Int))) (List.set (List.set s0 m3 ([] ++ [Da.bool b, Da.int IntKind.i64 n1, Da.int IntKind.i64 n2, d, Da.int IntKind.i64 n3, Da.int IntKind.i64 n4, d1] ++ [])) m5 ([] ++ [Da.bool b1, Da.int IntKind.i64 n6, Da.int IntKind.i64 n7, d2, Da.int IntKind.i64 n8, Da.int IntKind.i64 n9, d3] ++ [])))
 ((.tup []) = r ∧ [(2000, .lst 85 7 s0)] = O)) : d3q r O s14 s17 s0 := by
 unfold d3q CLk
 refine c2q (E := c6q) (hs := b4q) f9q a3q ?_
 exact a5q (by kernel_rfl) h
theorem g6q {p p1 p2 : Int} {o2000 : LL} {r : AV} {O : List (Nat × Ob)} (h : ifB (decide (IntKind.wrap .i64 (p1 - p) = (1 : Int)))
 (b7q r O p p1 p2 o2000)
 (ifB (decide (IntKind.wrap .i64 (p2 - p1) = (1 : Int)))
 (b6q r O p1 p p1 o2000)
 (Do ((0 : Int) ≤ (1 : Int) ∧ (1 : Int) ≤ (↑(IntKind.bits IntKind.u64) : Int)) ∧ ifB (decide (IntKind.wrap .i64 (IntKind.wrap IntKind.u64 (IntKind.wrap .i64 (p + p2)) / (2 : Int) ^ Int.toNat (1 : Int)) < p1))
 (a9q r O p p1 p2 (IntKind.wrap .i64 (IntKind.wrap IntKind.u64 (IntKind.wrap .i64 (p + p2)) / (2 : Int) ^ Int.toNat (1 : Int))) (IntKind.wrap .i64 (IntKind.wrap .i64 (IntKind.wrap IntKind.u64 (IntKind.wrap .i64 (p + p2)) / (2 : Int) ^ Int.toNat (1 : Int)) + p1)) (IntKind.wrap .i64 (IntKind.wrap .i64 (IntKind.wrap .i64 (IntKind.wrap IntKind.u64 (IntKind.wrap .i64 (p + p2)) / (2 : Int) ^ Int.toNat (1 : Int)) + p1) - p2)) (IntKind.wrap .i64 (IntKind.wrap IntKind.u64 (IntKind.wrap .i64 (p + p2)) / (2 : Int) ^ Int.toNat (1 : Int))) (IntKind.wrap .i64 (IntKind.wrap .i64 (IntKind.wrap .i64 (IntKind.wrap IntKind.u64 (IntKind.wrap .i64 (p + p2)) / (2 : Int) ^ Int.toNat (1 : Int)) + p1) - (1 : Int))) o2000)
 (a9q r O p p1 p2 (IntKind.wrap .i64 (IntKind.wrap IntKind.u64 (IntKind.wrap .i64 (p + p2)) / (2 : Int) ^ Int.toNat (1 : Int))) (IntKind.wrap .i64 (IntKind.wrap .i64 (IntKind.wrap IntKind.u64 (IntKind.wrap .i64 (p + p2)) / (2 : Int) ^ Int.toNat (1 : Int)) + p1)) p p1 (IntKind.wrap .i64 (IntKind.wrap .i64 (IntKind.wrap .i64 (IntKind.wrap IntKind.u64 (IntKind.wrap .i64 (p + p2)) / (2 : Int) ^ Int.toNat (1 : Int)) + p1) - (1 : Int))) o2000)))) : XC pg 267 [(.one (.ol 2000)), (Z p), (Z p1), (Z p2), (.one (.d (.fn 135)))] [(2000, (.lst 85 7 o2000))] r O :=
 b1q (E := c6q) (hs := b4q) (c := (a1q Tryz.f267)) (n := 220) (res := []) (rs := .t []) (ks := [(2000, (false))]) (dir := [2000]) f9q a3q rfl Tryz.func267 (by kernel_rfl) (by kernel_rfl) (by kernel_rfl) (by kernel_rfl) (a5q (by kernel_rfl) h)
def a5iq : a8q := ⟨[], []⟩
theorem a4Fq {x x1 : Int} {x2 o2000 : LL} {r : AV} {O : List (Nat × Ob)} (h : ∃ b : Bool, XC pg 100 [.dat (r3 x x1 x2)] [] (B b) [] ∧ ifB b
 (∃ xs : LL, XC pg 178 [L o2000, Z x1] [] (.one (.ol 0)) [(0, .tr 3 1 xs)] ∧ (.tup []) = r ∧ [(2000, .var [.ol 0]), (0, .tr 3 1 xs)] = O)
 ((.tup []) = r ∧ [(2000, .var [.ol 0]), (0, .tr 3 1 o2000)] = O)) : XC pg 177 [(.dat [(.int .i64 x), (.int .i64 x1), (.sl x2)]), (.one (.op 2000 0))] [(2000, (.var [(.ol 2001)])), (2001, (.tr 3 1 o2000))] r O :=
 b1q (E := env) (hs := a5iq) (c := (a1q Tryz.f177)) (n := 9) (res := []) (rs := .t []) (ks := [(2000, (true)), (2001, (false))]) (dir := [2000]) envOk a3q rfl Tryz.func177 (by kernel_rfl) (by kernel_rfl) (by kernel_rfl) (by kernel_rfl) (a5q (by kernel_rfl) h)
def a1eq : a8q := ⟨[], []⟩
theorem a0Oq {s : LL} {v : Int} {r : AV} {O : List (Nat × Ob)} (h : ∃ n : Int, XC pg 198 [L s, Z v] [] (Z n) [] ∧ (B (decide ((0 : Int) ≤ n))) = r ∧ [] = O) : XC pg 183 [(L s), (Z v)] [] r O :=
 b1q (E := env) (hs := a1eq) (c := (a1q Tryz.f183)) (n := 9) (res := [.tmp 4]) (rs := .c .b) (ks := []) (dir := []) envOk a3q rfl Tryz.func183 (by kernel_rfl) (by kernel_rfl) (by kernel_rfl) (by kernel_rfl) (a5q (by kernel_rfl) h)
def a5Aq : a8q := ⟨[], []⟩
theorem a44q {x o2000 : Int} {r : AV} {O : List (Nat × Ob)} (h : (B (decide (o2000 < x))) = r ∧ [(2000, .var [.d (.int .i64 o2000)])] = O) : XC pg 216 [(Z x), (.one (.op 2000 0))] [(2000, (.var [(.d (.int .i64 o2000))]))] r O :=
 b1q (E := env) (hs := a5Aq) (c := (a1q Tryz.f216)) (n := 7) (res := [.tmp 3]) (rs := .c .b) (ks := [(2000, (true))]) (dir := [2000]) envOk a3q rfl Tryz.func216 (by kernel_rfl) (by kernel_rfl) (by kernel_rfl) (by kernel_rfl) (a5q (by kernel_rfl) h)
def C6q : a8q := ⟨[(2, ⟨[0, 1, 7, 8], [], [], [], [], [], []⟩)], []⟩
def p6q (r : AV) (O : List (Nat × Ob)) (s : LL) (v s7 s8 : Int) : Prop := CLk 19 env C6q (a1q Tryz.f198) [1, 0, 1, 0, 0] (c7q env [.tmp 4] (.c (.i .i64)) [] [] r O) ⟨[(0, (L s)), (1, (Z v)), (7, (Z s7)), (8, (Z s8))], []⟩
theorem F5q {r : AV} {O : List (Nat × Ob)} {s : LL} {v s7 s8 : Int} (h : ifB (decide (s8 < s7))
 (∃ m : Nat, s8 = (↑m : Int) ∧ ∃ n : Int, (s[m]?) = some [.int .i64 n] ∧ ifB (decide (v = n))
 ((Z s8) = r ∧ [] = O)
 (p6q r O s v s7 (IntKind.wrap .i64 (s8 + (1 : Int)))))
 ((Z (-1 : Int)) = r ∧ [] = O)) : p6q r O s v s7 s8 := by
 unfold p6q CLk
 refine c2q (E := env) (hs := C6q) envOk a3q ?_
 exact a5q (by kernel_rfl) h
theorem M0q {s : LL} {v : Int} {r : AV} {O : List (Nat × Ob)} (h : p6q r O s v (↑(s.length) : Int) (0 : Int)) : XC pg 198 [(L s), (Z v)] [] r O :=
 b1q (E := env) (hs := C6q) (c := (a1q Tryz.f198)) (n := 19) (res := [.tmp 4]) (rs := .c (.i .i64)) (ks := []) (dir := []) envOk a3q rfl Tryz.func198 (by kernel_rfl) (by kernel_rfl) (by kernel_rfl) (by kernel_rfl) (a5q (by kernel_rfl) h)
def a69q : a8q := ⟨[], []⟩
theorem a5Xq {x : ByteArray} {x1 : Int} {x2 : Bool} {o2000 : ByteArray} {r : AV} {O : List (Nat × Ob)} (h : (B (decide (x = o2000))) = r ∧ [(2000, .var [.d (.str o2000)])] = O) : XC pg 245 [(.dat [(.str x), (.int .i64 x1), (.bool x2)]), (.one (.op 2000 0))] [(2000, (.var [(.d (.str o2000))]))] r O :=
 b1q (E := env) (hs := a69q) (c := (a1q Tryz.f245)) (n := 8) (res := [.tmp 3]) (rs := .c .b) (ks := [(2000, (true))]) (dir := [2000]) envOk a3q rfl Tryz.func245 (by kernel_rfl) (by kernel_rfl) (by kernel_rfl) (by kernel_rfl) (a5q (by kernel_rfl) h)
def k2q : a8q := ⟨[(2, ⟨[0, 2, 4, 10, 11], [], [], [], [], [], []⟩)], []⟩
def e4q (r : AV) (O : List (Nat × Ob)) (m i j : Int) (data : LL) : Prop := CLk 58 c6q k2q (a1q Tryz.f268) [1, 1, 0, 0, 0] (c7q c6q [] (.t []) [(2000, (false))] [2000] r O) ⟨[(0, (.one (.ol 2000))), (2, (Z m)), (4, (.one (.d (.fn 143)))), (10, (Z i)), (11, (Z j))], [(2000, (.lst 30 3 data))]⟩
theorem x5q {r : AV} {O : List (Nat × Ob)} {m i j : Int} {data : LL} (h : ifB (decide (i ≠ j))
 (ifB (decide (j < i))
 (∃ xs : LL, XC pg 272 [.one (.ol 2000), Z (IntKind.wrap .i64 (m - i)), Z m, Z j, .one (.d (.fn 143))] [(2000, .lst 30 3 data)] (.tup []) [(2000, .lst 30 3 xs)] ∧ e4q r O m (IntKind.wrap .i64 (i - j)) j xs)
 (∃ xs1 : LL, XC pg 272 [.one (.ol 2000), Z (IntKind.wrap .i64 (m - i)), Z (IntKind.wrap .i64 (IntKind.wrap .i64 (m + j) - i)), Z i, .one (.d (.fn 143))] [(2000, .lst 30 3 data)] (.tup []) [(2000, .lst 30 3 xs1)] ∧ e4q r O m i (IntKind.wrap .i64 (j - i)) xs1))
 (∃ xs2 : LL, XC pg 272 [.one (.ol 2000), Z (IntKind.wrap .i64 (m - i)), Z m, Z i, .one (.d (.fn 143))] [(2000, .lst 30 3 data)] (.tup []) [(2000, .lst 30 3 xs2)] ∧ (.tup []) = r ∧ [(2000, .lst 30 3 xs2)] = O)) : e4q r O m i j data := by
 unfold e4q CLk
 refine c2q (E := c6q) (hs := k2q) f9q a3q ?_
 exact a5q (by kernel_rfl) h
theorem z6q {a m b : Int} {o2000 : LL} {r : AV} {O : List (Nat × Ob)} (h : e4q r O m (IntKind.wrap .i64 (m - a)) (IntKind.wrap .i64 (b - m)) o2000) : XC pg 268 [(.one (.ol 2000)), (Z a), (Z m), (Z b), (.one (.d (.fn 143)))] [(2000, (.lst 30 3 o2000))] r O :=
 b1q (E := c6q) (hs := k2q) (c := (a1q Tryz.f268)) (n := 58) (res := []) (rs := .t []) (ks := [(2000, (false))]) (dir := [2000]) f9q a3q rfl Tryz.func268 (by kernel_rfl) (by kernel_rfl) (by kernel_rfl) (by kernel_rfl) (a5q (by kernel_rfl) h)
def j7q : a8q := ⟨[(2, ⟨[0, 2, 4, 10, 11], [], [], [], [], [], []⟩)], []⟩
def d8q (r : AV) (O : List (Nat × Ob)) (m i j : Int) (data : LL) : Prop := CLk 58 c6q j7q (a1q Tryz.f271) [1, 1, 0, 0, 0] (c7q c6q [] (.t []) [(2000, (false))] [2000] r O) ⟨[(0, (.one (.ol 2000))), (2, (Z m)), (4, (.one (.d (.fn 135)))), (10, (Z i)), (11, (Z j))], [(2000, (.lst 85 7 data))]⟩
theorem v5q {r : AV} {O : List (Nat × Ob)} {m i j : Int} {data : LL} (h : ifB (decide (i ≠ j))
 (ifB (decide (j < i))
 (∃ xs : LL, XC pg 274 [.one (.ol 2000), Z (IntKind.wrap .i64 (m - i)), Z m, Z j, .one (.d (.fn 135))] [(2000, .lst 85 7 data)] (.tup []) [(2000, .lst 85 7 xs)] ∧ d8q r O m (IntKind.wrap .i64 (i - j)) j xs)
 (∃ xs1 : LL, XC pg 274 [.one (.ol 2000), Z (IntKind.wrap .i64 (m - i)), Z (IntKind.wrap .i64 (IntKind.wrap .i64 (m + j) - i)), Z i, .one (.d (.fn 135))] [(2000, .lst 85 7 data)] (.tup []) [(2000, .lst 85 7 xs1)] ∧ d8q r O m i (IntKind.wrap .i64 (j - i)) xs1))
 (∃ xs2 : LL, XC pg 274 [.one (.ol 2000), Z (IntKind.wrap .i64 (m - i)), Z m, Z i, .one (.d (.fn 135))] [(2000, .lst 85 7 data)] (.tup []) [(2000, .lst 85 7 xs2)] ∧ (.tup []) = r ∧ [(2000, .lst 85 7 xs2)] = O)) : d8q r O m i j data := by
 unfold d8q CLk
 refine c2q (E := c6q) (hs := j7q) f9q a3q ?_
 exact a5q (by kernel_rfl) h
theorem x1q {a m b : Int} {o2000 : LL} {r : AV} {O : List (Nat × Ob)} (h : d8q r O m (IntKind.wrap .i64 (m - a)) (IntKind.wrap .i64 (b - m)) o2000) : XC pg 271 [(.one (.ol 2000)), (Z a), (Z m), (Z b), (.one (.d (.fn 135)))] [(2000, (.lst 85 7 o2000))] r O :=
 b1q (E := c6q) (hs := j7q) (c := (a1q Tryz.f271)) (n := 58) (res := []) (rs := .t []) (ks := [(2000, (false))]) (dir := [2000]) f9q a3q rfl Tryz.func271 (by kernel_rfl) (by kernel_rfl) (by kernel_rfl) (by kernel_rfl) (a5q (by kernel_rfl) h)
def j6q : a8q := ⟨[(1, ⟨[0, 1, 2, 3, 10], [], [], [], [], [], []⟩)], []⟩
def f4q (r : AV) (O : List (Nat × Ob)) (a b : Int) (n i : Int) (data : LL) : Prop := CLk 38 c6q j6q (a1q Tryz.f272) [1, 0, 0] (c7q c6q [] (.t []) [(2000, (false))] [2000] r O) ⟨[(0, (.one (.ol 2000))), (1, (Z a)), (2, (Z b)), (3, (Z n)), (10, (Z i))], [(2000, (.lst 30 3 data))]⟩
theorem m3q {r : AV} {O : List (Nat × Ob)} {a b n i : Int} {data : LL} (h : ifB (decide (i < n))
 (∃ m : Nat, (IntKind.wrap .i64 (b + i)) = (↑m : Int) ∧ Do (m < data.length) ∧ ∃ n2 : Nat, (m * (3 : Nat)) = (n2 * (3 : Nat)) ∧ ∃ n3 n4 : Int, ∃ d : Da, (data[n2]?) = some [.int .i64 n3, .int .i64 n4, d] ∧ ∃ m1 : Nat, (IntKind.wrap .i64 (a + i)) = (↑m1 : Int) ∧ Do (m1 < data.length) ∧ ∃ n5 : Nat, (m1 * (3 : Nat)) = (n5 * (3 : Nat)) ∧ ∃ n6 n7 : Int, ∃ d1 : Da, (data[n5]?) = some [.int .i64 n6, .int .i64 n7, d1] ∧ ∃ m2 : Nat, (IntKind.wrap .i64 (a + i)) = (↑m2 : Int) ∧ Do (m2 < data.length) ∧ ∃ m3 : Nat, (m2 * (3 : Nat)) = (m3 * (3 : Nat) + (0 : Nat)) ∧ ∃ n8 n9 : Int, ∃ d2 : Da, (data[m3]?) = some [.int .i64 n8, .int .i64 n9, d2] ∧ ∃ m4 : Nat, (IntKind.wrap .i64 (b + i)) = (↑m4 : Int) ∧ Do (m4 < List.length (List.set data m3 ([] ++ [Da.int IntKind.i64 n3, Da.int IntKind.i64 n4, d] ++ []))) ∧ ∃ m5 : Nat, (m4 * (3 : Nat)) = (m5 * (3 : Nat) + (0 : Nat)) ∧ ∃ n10 n11 : Int, ∃ d3 : Da, ((List.set data m3 ([] ++ [Da.int IntKind.i64 n3, Da.int IntKind.i64 n4, d] ++ []))[m5]?) = some [.int .i64 n10, .int .i64 n11, d3] ∧ f4q r O a b n (IntKind.wrap .i64 (i + (1 : Int))) (List.set (List.set data m3 ([] ++ [Da.int IntKind.i64 n3, Da.int IntKind.i64 n4, d] ++ [])) m5 ([] ++ [Da.int IntKind.i64 n6, Da.int IntKind.i64 n7, d1] ++ [])))
 ((.tup []) = r ∧ [(2000, .lst 30 3 data)] = O)) : f4q r O a b n i data := by
 unfold f4q CLk
 refine c2q (E := c6q) (hs := j6q) f9q a3q ?_
 exact a5q (by kernel_rfl) h
theorem x4q {a b n : Int} {o2000 : LL} {r : AV} {O : List (Nat × Ob)} (h : f4q r O a b n (0 : Int) o2000) : XC pg 272 [(.one (.ol 2000)), (Z a), (Z b), (Z n), (.one (.d (.fn 143)))] [(2000, (.lst 30 3 o2000))] r O :=
 b1q (E := c6q) (hs := j6q) (c := (a1q Tryz.f272)) (n := 38) (res := []) (rs := .t []) (ks := [(2000, (false))]) (dir := [2000]) f9q a3q rfl Tryz.func272 (by kernel_rfl) (by kernel_rfl) (by kernel_rfl) (by kernel_rfl) (a5q (by kernel_rfl) h)
def j1q : a8q := ⟨[(1, ⟨[0, 1, 2, 3, 10], [], [], [], [], [], []⟩)], []⟩
def e7q (r : AV) (O : List (Nat × Ob)) (a b : Int) (n i : Int) (data : LL) : Prop := CLk 38 c6q j1q (a1q Tryz.f274) [1, 0, 0] (c7q c6q [] (.t []) [(2000, (false))] [2000] r O) ⟨[(0, (.one (.ol 2000))), (1, (Z a)), (2, (Z b)), (3, (Z n)), (10, (Z i))], [(2000, (.lst 85 7 data))]⟩
theorem l0q {r : AV} {O : List (Nat × Ob)} {a b n i : Int} {data : LL} (h : ifB (decide (i < n))
 (∃ m : Nat, (IntKind.wrap .i64 (b + i)) = (↑m : Int) ∧ Do (m < data.length) ∧ ∃ n2 : Nat, (m * (7 : Nat)) = (n2 * (7 : Nat)) ∧ ∃ b2 : Bool, ∃ n3 n4 : Int, ∃ d : Da, ∃ n5 n6 : Int, ∃ d1 : Da, (data[n2]?) = some [.bool b2, .int .i64 n3, .int .i64 n4, d, .int .i64 n5, .int .i64 n6, d1] ∧ ∃ m1 : Nat, (IntKind.wrap .i64 (a + i)) = (↑m1 : Int) ∧ Do (m1 < data.length) ∧ ∃ n7 : Nat, (m1 * (7 : Nat)) = (n7 * (7 : Nat)) ∧ ∃ b3 : Bool, ∃ n8 n9 : Int, ∃ d2 : Da, ∃ n10 n11 : Int, ∃ d3 : Da, (data[n7]?) = some [.bool b3, .int .i64 n8, .int .i64 n9, d2, .int .i64 n10, .int .i64 n11, d3] ∧ ∃ m2 : Nat, (IntKind.wrap .i64 (a + i)) = (↑m2 : Int) ∧ Do (m2 < data.length) ∧ ∃ m3 : Nat, (m2 * (7 : Nat)) = (m3 * (7 : Nat) + (0 : Nat)) ∧ ∃ b4 : Bool, ∃ n12 n13 : Int, ∃ d4 : Da, ∃ n14 n15 : Int, ∃ d5 : Da, (data[m3]?) = some [.bool b4, .int .i64 n12, .int .i64 n13, d4, .int .i64 n14, .int .i64 n15, d5] ∧ ∃ m4 : Nat, (IntKind.wrap .i64 (b + i)) = (↑m4 : Int) ∧ Do (m4 < List.length (List.set data m3 ([] ++ [Da.bool b2, Da.int IntKind.i64 n3, Da.int IntKind.i64 n4, d, Da.int IntKind.i64 n5, Da.int IntKind.i64 n6, d1] ++ []))) ∧ ∃ m5 : Nat, (m4 * (7 : Nat)) = (m5 * (7 : Nat) + (0 : Nat)) ∧ ∃ b5 : Bool, ∃ n16 n17 : Int, ∃ d6 : Da, ∃ n18 n19 : Int, ∃ d7 : Da, ((List.set data m3 ([] ++ [Da.bool b2, Da.int IntKind.i64 n3, Da.int IntKind.i64 n4, d, Da.int IntKind.i64 n5, Da.int IntKind.i64 n6, d1] ++ []))[m5]?) = some [.bool b5, .int .i64 n16, .int .i64 n17, d6, .int .i64 n18, .int .i64 n19, d7] ∧ e7q r O a b n (IntKind.wrap .i64 (i + (1 : Int))) (List.set (List.set data m3 ([] ++ [Da.bool b2, Da.int IntKind.i64 n3, Da.int IntKind.i64 n4, d, Da.int IntKind.i64 n5, Da.int IntKind.i64 n6, d1] ++ [])) m5 ([] ++ [Da.bool b3, Da.int IntKind.i64 n8, Da.int IntKind.i64 n9, d2, Da.int IntKind.i64 n10, Da.int IntKind.i64 n11, d3] ++ [])))
 ((.tup []) = r ∧ [(2000, .lst 85 7 data)] = O)) : e7q r O a b n i data := by
 unfold e7q CLk
 refine c2q (E := c6q) (hs := j1q) f9q a3q ?_
 exact a5q (by kernel_rfl) h
theorem v4q {a b n : Int} {o2000 : LL} {r : AV} {O : List (Nat × Ob)} (h : e7q r O a b n (0 : Int) o2000) : XC pg 274 [(.one (.ol 2000)), (Z a), (Z b), (Z n), (.one (.d (.fn 135)))] [(2000, (.lst 85 7 o2000))] r O :=
 b1q (E := c6q) (hs := j1q) (c := (a1q Tryz.f274)) (n := 38) (res := []) (rs := .t []) (ks := [(2000, (false))]) (dir := [2000]) f9q a3q rfl Tryz.func274 (by kernel_rfl) (by kernel_rfl) (by kernel_rfl) (by kernel_rfl) (a5q (by kernel_rfl) h)
end AM
end Go.Proofs.YtajcoogpmockiaaGreat
namespace Go.Proofs.YtajcoogpmockiaaGreat
namespace AM
open Go
inductive Tm where
 | mk (f v : Int) (ks : List Tm)
mutual
def Tm.da : Tm → List Da
 | .mk f v ks => [.int .i64 f, .int .i64 v, .sl (Tm.das ks)]
def Tm.das : List Tm → List (List Da)
 | [] => []
 | t :: r => t.da :: Tm.das r
end
def Tm.f : Tm → Int | .mk f _ _ => f
def Tm.v : Tm → Int | .mk _ v _ => v
def Tm.ks : Tm → List Tm | .mk _ _ ks => ks
theorem Tm.das_map (l : List Tm) : Tm.das l = l.map Tm.da := by induction l <;> simp_all [Tm.das]
theorem Tm.da_len (t : Tm) : t.da.length = 3 := by cases t; rfl
theorem Tm.ind {p : Tm → Prop} (h : ∀ f v ks, (∀ t ∈ ks, p t) → p (.mk f v ks)) (t : Tm) : p t := by
 refine Tm.rec (motive_1 := p) (motive_2 := fun l => ∀ t ∈ l, p t) (fun f v ks ih => h f v ks ih) (by simp) (fun t l h1 h2 => ?_) t
 intro u hu
 rcases List.mem_cons.1 hu with rfl | hu
 ·exact h1
 ·exact h2 u hu
mutual
def Tm.cn : Tm → Nat
 | .mk _ _ ks => Tm.cns ks
def Tm.cns : List Tm → Nat
 | [] => 0
 | t :: r => 1 + t.cn + Tm.cns r
end
structure Li where
 p : Bool
 l : Tm
 r : Tm
def Li.da (x : Li) : List Da := .bool x.p :: (x.l.da ++ x.r.da)
structure Cl where
 ls : List Li
def Cl.da (x : Cl) : List Da := [.sl (x.ls.map Li.da)]
structure Sy where
 nm : ByteArray
 ar : Int
 ac : Bool
def Sy.da (x : Sy) : List Da := [.str x.nm, .int .i64 x.ar, .bool x.ac]
structure Bd where
 v : Int
 t : Tm
def Bd.da (x : Bd) : List Da := .int .i64 x.v :: x.t.da
structure Ru where
 l : Tm
 r : Tm
def Ru.da (x : Ru) : List Da := x.l.da ++ x.r.da
def In.da (n : Int) : List Da := [.int .i64 n]
structure Sp where
 kind : Int
 a : Int
 b : Int
 i : Int
 k : Int
 left : Bool
 side : Bool
 way : List Int
 ext : Bool
 sub : List Bd
 cl : Cl
def Sp.da (x : Sp) : List Da := [.int .i64 x.kind, .int .i64 x.a, .int .i64 x.b, .int .i64 x.i, .int .i64 x.k, .bool x.left, .bool x.side, .sl (x.way.map In.da), .bool x.ext, .sl (x.sub.map Bd.da), .sl (x.cl.ls.map Li.da)]
structure Wk where
 sig : List Sy
 input : List Cl
 log : List Sp
 active : List Int
 passive : List Int
 lost : Bool
def Wk.da (x : Wk) : List Da := [.sl (x.sig.map Sy.da), .sl (x.input.map Cl.da), .sl (x.log.map Sp.da), .sl (x.active.map In.da), .sl (x.passive.map In.da), .bool x.lost]
theorem Li.da_len (x : Li) : x.da.length = 7 := by obtain ⟨p, ⟨f, v, ks⟩, ⟨g, u, ls⟩⟩ := x; rfl
theorem Cl.da_len (x : Cl) : x.da.length = 1 := rfl
theorem Sy.da_len (x : Sy) : x.da.length = 3 := rfl
theorem Bd.da_len (x : Bd) : x.da.length = 4 := by obtain ⟨v, ⟨f, u, ks⟩⟩ := x; rfl
theorem Sp.da_len (x : Sp) : x.da.length = 11 := rfl
def cnL {α : Type} (cn : α → Nat) (l : List α) : Nat := l.length + (l.map cn).sum
def Li.cn (x : Li) : Nat := x.l.cn + x.r.cn
def Cl.cn (x : Cl) : Nat := cnL Li.cn x.ls
def Sy.cn (x : Sy) : Nat := x.nm.size
def Bd.cn (x : Bd) : Nat := x.t.cn
def Ru.cn (x : Ru) : Nat := x.l.cn + x.r.cn
def In.cn (n : Int) : Nat := 0
def Sp.cn (x : Sp) : Nat := x.way.length + cnL Bd.cn x.sub + x.cl.cn
def Wk.cn (x : Wk) : Nat := cnL Sy.cn x.sig + cnL Cl.cn x.input + cnL Sp.cn x.log + x.active.length + x.passive.length
theorem Tm.cns_cnL (l : List Tm) : Tm.cns l = cnL Tm.cn l := by
 induction l with
 | nil => rfl
 | cons t r ih => simp [Tm.cns, cnL, ih]; omega
theorem i8q {α : Type} {cn : α → Nat} {l : List α} {x : α} (h : x ∈ l) : cn x + l.length ≤ cnL cn l := by
 induction l with
 | nil => simp at h
 | cons y r ih =>
  rcases List.mem_cons.1 h with rfl | h
  ·simp [cnL]; omega
  ·have := ih h; simp [cnL] at this ⊢; omega
theorem g2q {α : Type} (cn : α → Nat) (l : List α) : l.length ≤ cnL cn l := by simp [cnL]
theorem d0q {α : Type} {l : List α} {i : Nat} (h : i < l.length) : ∃ x, l[i]? = some x := ⟨l[i], List.getElem?_eq_getElem h⟩
theorem i4q {α β : Type} {g : α → β} {l : List α} {i : Nat} {x : α} (h : l[i]? = some x) : (l.map g)[i]? = some (g x) := by simp [h]
theorem n4q {l : List Tm} {i : Nat} {x : Tm} (h : l[i]? = some x) : (Tm.das l)[i]? = some x.da := by rw [Tm.das_map]; simp [h]
theorem b3q (l : List Tm) : (Tm.das l).length = l.length := by rw [Tm.das_map]; simp
theorem wrI {x : Int} (h1 : -9223372036854775808 ≤ x) (h2 : x ≤ 9223372036854775807) : IntKind.wrap .i64 x = x := by
 rw [IntKind.wrap_i64]; omega
theorem wr1 {k n : Nat} (h : k < n) (hn : n ≤ 281474976710656) : IntKind.wrap .i64 ((k : Int) + 1) = ((k + 1 : Nat) : Int) := by
 rw [wrI (by omega) (by omega)]; omega
theorem j8q {p : Nat → Prop} (n : Nat) (h1 : p n) (h2 : ∀ i, i < n → p (i + 1) → p i) : ∀ i, i ≤ n → p i := by
  intro i hi
  induction hd : n - i generalizing i with
  | zero => have : i = n := by omega
            subst this; exact h1
  | succ d ih => exact h2 i (by omega) (ih (i + 1) (by omega) (by omega))
theorem f0q {i n : Nat} (h : i < n) : decide ((i : Int) < (n : Int)) = true := by simp; exact h
theorem d9q {i n : Nat} (h : n ≤ i) : decide ((i : Int) < (n : Int)) = false := by simp; exact h
theorem H7q {i : Int} : decide (i ≠ i) = false := by simp
theorem abgq {i : Bool} : decide (i ≠ i) = false := by simp
theorem ag6q {i : ByteArray} : decide (i ≠ i) = false := by simp
section
variable {P : Program} {f : FuncId} {xs : List AV} {I : List (Nat × Ob)} {r : AV} {O : List (Nat × Ob)}
theorem n6q (h : Fits xs → XC P f xs I r O) : XC P f xs I r O := ⟨fun w S β vs hlt hr hin => (h ⟨w, S, β, vs, hr⟩).h w S β vs hlt hr hin⟩
theorem XC.acall (h : XC P f xs [] r []) : ACall P f xs r [] := XCall.plain h.h
end
def lft (n : Nat) (l : Int) : Int := if l < n then -1 else l - n
theorem a2Aq {n : Nat} {l : Int} (h : -1 ≤ l) : -1 ≤ lft n l ∧ lft n l ≤ l := by unfold lft; split <;> omega
theorem a3aq {n : Nat} {l : Int} (h : lft n l < 0) (hl : 0 ≤ l) : lft n l = -1 := by unfold lft at h ⊢; split at h <;> split <;> omega
theorem W9q {m n : Nat} {l : Int} (h : 0 ≤ lft m l) : lft n (lft m l) = lft (m + n) l := by
 unfold lft at h ⊢
 split at h
 ·omega
 ·rename_i h1
  rw [if_neg h1]
  split <;> split <;> omega
theorem aapq {n : Nat} {l : Int} (h : 0 ≤ lft n l) : (n : Int) ≤ l ∧ lft n l = l - n := by unfold lft at h ⊢; split at h <;> split <;> omega
end AM
end Go.Proofs.YtajcoogpmockiaaGreat
namespace Go.Proofs.YtajcoogpmockiaaGreat
namespace AM
open Go Go.ChangeShapes Go.WideShapes Go.RowKit
def H8q (T : TypeId → List Da → Prop) : List TypeId → List Da → Prop
 | [], ds => ds = []
 | t :: ts, ds => ∃ d r, ds = d ++ r ∧ T t d ∧ H8q T ts r
def e9q (P : Program) : Nat → TypeId → List Da → Prop
 | 0, _, _ => False
 | n + 1, t, ds => match P.underlying t with
  | some .bool => ∃ b, ds = [.bool b]
  | some (.int k) => ∃ m, ds = [.int k m] ∧ (Lit.int k m).wf = true
  | some .string => ∃ s, ds = [.str s]
  | some (.slice e) => ∃ xs, ds = [.sl xs] ∧ ∀ x ∈ xs, e9q P n e x
  | some (.struct fs) => H8q (e9q P n) (fs.toList.map (·.type)) ds
  | _ => False
def layB (P : Program) : List Field → Nat → Nat → Bool
 | [], off, n => off == n
 | f :: r, off, n => f.offset == off && layB P r (off + P.cellsOf f.type) n
def a10q (P : Program) (ts : List TypeId) : Bool := ts.all fun t => match P.underlying t with
 | some .bool => true
 | some (.int _) => true
 | some .string => true
 | some (.slice e) => ts.contains e && decide (0 < P.cellsOf e) && decide (0 < P.bytesOf e)
 | some (.struct fs) => layB P fs.toList 0 (P.cellsOf t) && fs.toList.all fun f => ts.contains f.type
 | _ => false
theorem a3Kq {H : Type} {P : Program} {e : TypeId} : ∀ {l : List (DataW H)} {d : DataW H}, d ∈ l → ∀ n ∈ d.weights P e, n ∈ DataW.weightsAll P e l
 | a :: l, d, hd, n, hn => by
  simp only [DataW.weightsAll, List.mem_append]
  rcases List.mem_cons.1 hd with rfl | hd
  ·exact .inl hn
  ·exact .inr (a3Kq hd n hn)
section
variable {H : Type} {enc : TypeId × Value → H} {P : Program} {w : World} {held : Bool} {ts : List TypeId}
theorem aerq (b off i : Nat) : (⟨b, off, none⟩ : Addr).add i = ⟨b, off + i, none⟩ := by unfold Addr.add; split <;> simp_all
theorem a3Vq {n : Nat} (ih : ∀ t cs x, t ∈ ts → DataW.trod enc P w 0 (fun _ => true) held n t cs = some x → (∀ m ∈ x.1.weights P t, m ≤ reachBytes) → ∃ ds, e9q P n t ds ∧ RepDs w (· < w.heap.size) ds cs) :
  ∀ (fs : List Field) (off total : Nat) (cs : List Value) (xs : List (DataW H × List MemPlace)), layB P fs off total = true → (fs.all fun f => ts.contains f.type) = true → cs.length = total → off ≤ total → xs.length = fs.length →
   (∀ (i : Nat) (f : Field), fs[i]? = some f → DataW.trod enc P w 0 (fun _ => true) held n f.type ((cs.drop f.offset).take (P.cellsOf f.type)) = xs[i]?) →
   (∀ m ∈ DataW.weightsEach P (fs.map (·.type)) (xs.map (·.1)), m ≤ reachBytes) →
   ∃ ds, H8q (e9q P n) (fs.map (·.type)) ds ∧ RepDs w (· < w.heap.size) ds (cs.drop off)
 | [], off, total, cs, xs, hl, _, hc, _, _, _, _ => by
  simp only [layB, beq_iff_eq] at hl
  refine ⟨[], rfl, ?_⟩
  rw [List.drop_eq_nil_of_le (by omega)]
  exact .nil
 | f :: r, off, total, cs, [], hl, _, hc, _, hx, _, _ => by simp at hx
 | f :: r, off, total, cs, x :: xs, hl, ht, hc, ho, hx, hr, hw => by
  simp only [layB, Bool.and_eq_true, beq_iff_eq] at hl
  obtain ⟨hl1, hl2⟩ := hl
  simp only [List.all_cons, Bool.and_eq_true] at ht
  have h0 := hr 0 f rfl
  simp only [List.getElem?_cons_zero] at h0
  simp only [List.map_cons, DataW.weightsEach, List.mem_append] at hw
  obtain ⟨d, hd1, hd2⟩ := ih f.type _ x (by simpa using ht.1) h0 fun m hm => hw m (.inl hm)
  have hle : off + P.cellsOf f.type ≤ total := by
   have key : ∀ (l : List Field) (o : Nat), layB P l o total = true → o ≤ total := by
    intro l
    induction l with
    | nil => intro o h; simp only [layB, beq_iff_eq] at h; omega
    | cons g l ih2 => intro o h; simp only [layB, Bool.and_eq_true, beq_iff_eq] at h; have := ih2 _ h.2; omega
   exact key _ _ hl2
  obtain ⟨ds, hs1, hs2⟩ := a3Vq ih r (off + P.cellsOf f.type) total cs xs hl2 ht.2 hc hle (by simpa using hx) (fun i g hg => by simpa using hr (i + 1) g (by simpa using hg)) fun m hm => hw m (.inr hm)
  refine ⟨d ++ ds, ⟨d, ds, rfl, hd1, hs1⟩, ?_⟩
  have e : cs.drop off = (cs.drop off).take (P.cellsOf f.type) ++ cs.drop (off + P.cellsOf f.type) := by
   rw [← List.drop_drop, List.take_append_drop]
  rw [e]
  rw [hl1] at hd2
  exact hd2.app hs2
theorem acDq {n C : Nat} {e : TypeId} {a : Addr} (hC : C = P.cellsOf e) (hpos : 0 < C) (ih : ∀ cs x, DataW.trod enc P w 0 (fun _ => true) held n e cs = some x → (∀ m ∈ x.1.weights P e, m ≤ reachBytes) → ∃ ds, e9q P n e ds ∧ RepDs w (· < w.heap.size) ds cs) (elems : List (DataW H × List MemPlace)) :
  ∀ (k : Nat), k ≤ elems.length → (∀ i, i < k → (w.cells? 0 (a.add (i * C)) C).bind (DataW.trod enc P w 0 (fun _ => true) held n e) = elems[i]?) → (∀ i x, i < k → elems[i]? = some x → ∀ m ∈ x.1.weights P e, m ≤ reachBytes) →
   ∃ (xs : List (List Da)) (us : List Value), xs.length = k ∧ us.length = k * C ∧ RepDs w (· < w.heap.size) xs.flatten us ∧ (∀ x ∈ xs, e9q P n e x ∧ x.length = C) ∧ ∀ i u, us[i]? = some u → w.cell? (a.add i) = some u := by
 intro k
 induction k with
 | zero => intro _ _ _; exact ⟨[], [], rfl, by simp, .nil, by simp, by simp⟩
 | succ k ihk =>
  intro hk hel hw
  obtain ⟨xs, us, h1, h2, h3, h4, h5⟩ := ihk (by omega) (fun i hi => hel i (by omega)) fun i x hi => hw i x (by omega)
  have hx := hel k (by omega)
  rw [List.getElem?_eq_getElem (by omega)] at hx
  simp only [Option.bind_eq_some_iff] at hx
  obtain ⟨cs, hc, hr⟩ := hx
  obtain ⟨d, hd1, hd2⟩ := ih cs _ hr (hw k _ (by omega) (List.getElem?_eq_getElem (by omega)))
  obtain ⟨_, hcl, hcell⟩ := World.cells?_some hc
  have hdl := hd2.len
  refine ⟨xs ++ [d], us ++ cs, by simp [h1], by simp [h2, hcl, Nat.add_mul], by simpa using h3.app hd2, fun x hx => ?_, fun i u hu => ?_⟩
  ·rcases List.mem_append.1 hx with hx | hx
   ·exact h4 x hx
   ·simp only [List.mem_singleton] at hx; subst hx; exact ⟨hd1, by omega⟩
  ·by_cases hi : i < us.length
   ·rw [List.getElem?_append_left hi] at hu; exact h5 i u hu
   ·rw [List.getElem?_append_right (by omega)] at hu
    have hj : i - us.length < C := by rw [← hcl]; exact (List.getElem?_eq_some_iff.1 hu).1
    have := hcell (i - us.length) hj
    rw [Go.Deep.add_add, show k * C + (i - us.length) = i by omega, hu] at this
    exact this
theorem afLq (hcl : a10q P ts = true) : ∀ (fuel : Nat) t cs x, t ∈ ts → DataW.trod enc P w 0 (fun _ => true) held fuel t cs = some x → (∀ m ∈ x.1.weights P t, m ≤ reachBytes) → ∃ ds, e9q P fuel t ds ∧ RepDs w (· < w.heap.size) ds cs := by
 intro fuel
 induction fuel with
 | zero => intro t cs x _ h; simp [DataW.trod] at h
 | succ n ih =>
  intro t cs x ht h hw
  have hc := List.all_eq_true.1 hcl t ht
  simp only [e9q]
  split at hc
  ·rename_i hu
   obtain ⟨b, rfl, rfl⟩ := DataW.trod_bool hu h
   exact ⟨_, ⟨b, rfl⟩, .bool_ b⟩
  ·rename_i hu
   obtain ⟨m, rfl, rfl, hwf⟩ := DataW.trod_int hu h
   exact ⟨_, ⟨m, rfl, hwf⟩, .int_ _ m⟩
  ·rename_i hu
   obtain ⟨s, rfl, rfl, hs⟩ := DataW.trod_string hu h
   have := hw s.data.toList.length (by simp [DataW.weights])
   refine ⟨_, ⟨s, rfl⟩, .str_ s ?_⟩
   have h2 : s.data.toList.length = s.size := by rw [Array.length_toList]; rfl
   have := reachBytes_lt
   omega
  ·rename_i e hu
   simp only [Bool.and_eq_true, decide_eq_true_eq, List.contains_iff_mem] at hc
   obtain ⟨⟨he, hpos⟩, hb⟩ := hc
   rcases DataW.trod_slice hu h with ⟨rfl, rfl⟩ | ⟨a, len, cap, elems, rest, n', hn, rfl, rfl, _, hle, hcap, hlen, hel, hsp, _⟩
   ·exact ⟨[.sl []], ⟨[], rfl, by simp⟩, [], .sl0 rfl rfl (Nat.zero_le _) (Nat.zero_le _) .nil, by simp⟩
   ·obtain rfl : n' = n := by omega
    obtain ⟨hr, _⟩ := hsp rfl
    simp only [DataW.weights, hu, List.mem_cons, List.mem_append] at hw
    obtain ⟨xs, us, h1, h2, h3, h4, h5⟩ := acDq (a := a) rfl hpos (fun cs x => ih e cs x he) elems len (by omega) hel fun i x hi hx m hm => hw m (.inr (.inl (a3Kq (List.mem_map.2 ⟨x, List.mem_of_getElem? hx, rfl⟩) m hm)))
    have hsm : len ≤ 281474976710656 := by
     have := hw _ (.inl rfl)
     have h47 := reachBytes_lt
     simp only [List.length_map] at this
     have : len * 1 ≤ (elems.length + rest.length) * P.bytesOf e := Nat.mul_le_mul (by omega) hb
     omega
    refine ⟨[.sl xs], ⟨xs, rfl, fun x hx => (h4 x hx).1⟩, ?_⟩
    by_cases h0 : len = 0
    ·subst h0
     have : xs = [] := List.length_eq_zero_iff.1 h1
     subst this
     exact ⟨[], .sl0 rfl rfl hle hsm .nil, by simp⟩
    ·have hus : 0 < us.length := by rw [h2]; exact Nat.mul_pos (by omega) hpos
     have hc0 := h5 0 _ (List.getElem?_eq_getElem hus)
     obtain ⟨b, off, spot⟩ := a
     have hb2 : spot = none ∧ b < w.heap.size := by
      simp only [Addr.add, if_true, World.cell?] at hc0
      split at hc0
      ·rename_i hh
       split at hc0
       ·simp at hc0
       ·rename_i hs
        refine ⟨by cases spot <;> simp_all, ?_⟩
        exact (Array.getElem?_eq_some_iff.1 hh).1
      ·simp at hc0
     obtain ⟨rfl, hb3⟩ := hb2
     obtain ⟨fi, hfi, hS⟩ := h3
     refine ⟨b :: (fi ++ []), .sl1 hfi h1.symm hle hsm (fun y hy => (h4 y hy).2) (fun i u hu => ?_) hb3 .nil, fun b' hb' => ?_⟩
     ·have := h5 i u hu; rwa [aerq] at this
     ·simp only [List.append_nil, List.mem_cons] at hb'
      rcases hb' with rfl | hb'
      ·exact hb3
      ·exact hS b' hb'
  ·rename_i fs hu
   simp only [Bool.and_eq_true] at hc
   obtain ⟨xs, n', hn, rfl, hcs, hxl, hf⟩ := DataW.trod_struct hu h
   obtain rfl : n' = n := by omega
   obtain ⟨ds, h1, h2⟩ := a3Vq ih fs.toList 0 (P.cellsOf t) cs xs hc.1 hc.2 hcs (Nat.zero_le _) (by simpa using hxl) (fun i f hi => hf i f (by simpa using hi)) (by simpa [DataW.weights, hu] using hw)
   exact ⟨ds, h1, by simpa using h2⟩
  ·simp at hc
end
def W1q (P : Program) (t : TypeId) (x : AV) : Prop := match P.underlying t with
 | some (.struct _) => ∃ n ds, x = .dat ds ∧ e9q P n t ds
 | _ => ∃ n d, x = .one (.d d) ∧ e9q P n t [d]
def a5gq (P : Program) : List TypeId → List AV → Prop
 | [], [] => True
 | t :: ts, x :: xs => W1q P t x ∧ a5gq P ts xs
 | _, _ => False
theorem acMq {P : Program} {w : World} {base : Nat} {t : TypeId} {v : Value} (hc : a10q P [t] = true ∨ True) (hs : (∀ fs, P.underlying t ≠ some (.struct fs)) ∧ (P.underlying t = some .bool ∨ (∃ k, P.underlying t = some (.int k)) ∨ P.underlying t = some .string ∨ ∃ e, P.underlying t = some (.slice e))) (h : Value.okWide P w .any base t v) : v.cells = #[v] := by
 obtain ⟨_, hu | ⟨k, hu⟩ | hu | ⟨e, hu⟩⟩ := hs <;> simp only [Value.okWide, hu, Cell.okWide, Cell.ok] at h <;> cases v <;> simp_all [Value.cells]
section
variable {H : Type} {enc : TypeId × Value → H} {P : Program} {w : World} {ts : List TypeId} {β : Nat → OLoc}
theorem aezq (hcl : a10q P ts = true) {t : TypeId} {v : Value} {d : DataW H} {p : List MemPlace} (ht : t ∈ ts) {base : Nat} (hv : Value.okWide P w .any base t v) (h : DataW.Trod enc P w 0 (fun _ => true) true t v d p) (hw : ∀ m ∈ d.weights P t, m ≤ reachBytes) :
  ∃ x, W1q P t x ∧ RepV w (· < w.heap.size) β x v := by
 obtain ⟨fuel, hf⟩ := h
 obtain ⟨ds, h1, h2⟩ := afLq hcl fuel t _ _ ht hf hw
 have hc := List.all_eq_true.1 hcl t ht
 split at hc
 all_goals try (simp at hc; done)
 case h_5 fs hu =>
  obtain ⟨cs, rfl, _⟩ := okWide_struct hu hv
  refine ⟨.dat ds, by unfold W1q; rw [hu]; exact ⟨_, _, rfl, h1⟩, ?_⟩
  have : RepV w (· < w.heap.size) β (.dat ds) (.agg cs.toList.toArray) := .dat (by simpa [Value.cells] using h2) .nil
  simpa using this
 all_goals
  rename_i hu
  have hcell := acMq (.inr trivial) ⟨by intro fs; rw [hu]; simp, by rw [hu]; simp⟩ hv
  rw [hcell] at h2
  have hl := h2.len
  match ds, hl with
  | [d0], _ => exact ⟨.one (.d d0), by unfold W1q; rw [hu]; exact ⟨_, _, rfl, h1⟩, .one (.d h2)⟩
theorem a7dq (hcl : a10q P ts = true) {base : Nat} : ∀ (us : List TypeId) (vs : List Value) (ds : List (DataW H)) (p : List MemPlace), (∀ t ∈ us, t ∈ ts) → (∀ (j : Nat) t v, us[j]? = some t → vs[j]? = some v → Value.okWide P w .any base t v) →
  DataW.TrodAll enc P w 0 (fun _ => true) true us vs ds p → (∀ m ∈ DataW.weightsEach P us ds, m ≤ reachBytes) → ∃ xs, a5gq P us xs ∧ RepVs w (· < w.heap.size) β xs vs
 | [], [], [], p, _, _, _, _ => ⟨[], trivial, .nil⟩
 | [], [], _ :: _, _, _, _, h, _ => by simp [DataW.TrodAll] at h
 | [], _ :: _, _, _, _, _, h, _ => by simp [DataW.TrodAll] at h
 | _ :: _, [], _, _, _, _, h, _ => by simp [DataW.TrodAll] at h
 | _ :: _, _ :: _, [], _, _, _, h, _ => by simp [DataW.TrodAll] at h
 | t :: us, v :: vs, d :: ds, p, hts, hv, h, hw => by
  obtain ⟨p1, q1, h1, h2, rfl⟩ := h
  simp only [DataW.weightsEach, List.mem_append] at hw
  obtain ⟨x, hx, hr⟩ := aezq (β := β) hcl (hts t (by simp)) (hv 0 t v rfl rfl) h1 fun m hm => hw m (.inl hm)
  obtain ⟨xs, hxs, hrs⟩ := a7dq hcl us vs ds q1 (fun t ht => hts t (by simp [ht])) (fun j t v h1 h2 => hv (j + 1) t v (by simpa using h1) (by simpa using h2)) h2 fun m hm => hw m (.inr hm)
  exact ⟨x :: xs, ⟨hx, hxs⟩, hr.cons hrs⟩
theorem a26q (hl : laidOutB P = true) {W W' : World} {sp : Nat → Bool} : ∀ (us : List TypeId) (vs : List Value) (ds : List (DataW H)) (p : List MemPlace), (∀ t ∈ us, P.readableRec t = true ∧ t < P.types.size) → (∀ x ∈ p, W.sameAt W' x ∧ sp x.block = true) →
  DataW.TrodAll enc P W 0 (fun _ => true) true us vs ds p → DataW.TrodAll enc P W' 0 sp true us vs ds p
 | [], [], [], p, _, _, h => h
 | [], [], _ :: _, _, _, _, h => by simp [DataW.TrodAll] at h
 | [], _ :: _, _, _, _, _, h => by simp [DataW.TrodAll] at h
 | _ :: _, [], _, _, _, _, h => by simp [DataW.TrodAll] at h
 | _ :: _, _ :: _, [], _, _, _, h => by simp [DataW.TrodAll] at h
 | t :: us, v :: vs, d :: ds, p, hts, hp, h => by
  obtain ⟨p1, q1, h1, h2, rfl⟩ := h
  have ht := hts t (by simp)
  exact ⟨p1, q1, WideElems.Trod_stays hl ht.1 ht.2 h1 (fun x hx => (hp x (by simp [hx])).1) (fun x hx => (hp x (by simp [hx])).2), a26q hl us vs ds q1 (fun t ht => hts t (by simp [ht])) (fun x hx => hp x (by simp [hx])) h2, rfl⟩
end
section
variable {H : Type} {enc : TypeId × Value → H} {P : Program}
theorem a7Yq {f : Func} {s : ChangeSpec} {apart fresh handsOn again : Bool} {W W' : World} {args : Array Value} {v : Value} {ds gs : List (DataW H)} {before pa pv : List MemPlace}
  (hW : DataW.Whole enc P f.params.toList s.vars apart W args.toList ds gs before)
  (hres : ∀ (b : Nat) (sp : Nat → Bool) (hd : Bool), DataW.TrodAll enc P W' b sp hd f.resultTypes.toList (v.resultList f.resultTypes.size) (s.fn H (ds ++ gs)).results [])
  (hargs : ∀ sp : Nat → Bool, (∀ p ∈ before, sp p.block = true) → DataW.TrodAll enc P W' 0 sp true f.params.toList args.toList (s.fn H (ds ++ gs)).args pa)
  (hvars : ∀ sp : Nat → Bool, (∀ p ∈ before, sp p.block = true) → DataW.TrodVars enc P W' sp s.vars (s.fn H (ds ++ gs)).vars pv)
  (hps : before = pa ++ pv) (hb : Below W.heap.size W W')
  (hok : ∀ (j : Nat) (t : TypeId) (r : Value), f.resultTypes[j]? = some t → (v.resultList f.resultTypes.size)[j]? = some r → Value.okWide P W' .any 0 t r) :
  s.post enc P f apart fresh handsOn again W args v W' := by
 have hlt : ∀ p ∈ before, p.block < W.heap.size := fun p hp => hW.lt p hp
 have hold : ∀ p ∈ before, (fun b => decide (b < W.heap.size)) p.block = true := fun p hp => by simpa using hlt p hp
 refine ⟨ds, gs, before, [], pa, pv, hW, hres _ _ _, hargs _ hold, hvars _ hold, World.keptBut_mono (fun p hp => ⟨hp, ?_⟩) (hb.frame (· ∈ before)), fun _ => ?_⟩
 ·rw [hps, List.mem_append] at hp
  exact Or.inr hp
 ·obtain ⟨_, _, _, _, _, hz, hn⟩ := hW
  refine ⟨hok, _, _, ([] ++ pa) ++ pv, ⟨[] ++ pa, pv, trodAll_append (hargs _ (fun _ _ => rfl)) (hres _ _ _), hvars _ (fun _ _ => rfl), rfl, ?_, ?_⟩, ?_⟩
  ·intro b off hp
   have hin : MemPlace.cell b off ∈ before := by rw [hps]; simpa using hp
   rw [hb.frozen (hlt _ hin)]
   exact hz b off hin
  ·intro ha
   have := hn ha
   rw [hps] at this
   simpa using this
  ·intro p hp _
   rw [hps]
   simpa using hp
end
theorem abIq {H : Type} {enc : TypeId × Value → H} {a : Assume} {C : Checked} {os : Os} {f : FuncId} {fn : Func} {s : ChangeSpec} {apart fresh handsOn again : Bool} {tb : TypeId} (ts : List TypeId)
  (own : ownKnob C.prog.godebug = none) (started : os.Started) (noInit : C.prog.inits.idxOf? f = none) (hfn : C.prog.funcs[f]? = some fn)
  (witness : ∃ (w : World) (tape : Tape) (i : Input), w.os = os ∧ (w.forCall tape i).Shaped C.prog ∧ i.vars = [] ∧ Input.okWide C.prog (w.forCall tape i) .any w.heap.size f i ∧
   s.pre6 enc C.prog fn [] apart (w.forCall tape i).memory i.args ∧ a.holds C.prog (lone (Frame.enter C.prog f i.args .normal) [] (w.forCall tape i)))
  (hl : laidOutB C.prog = true) (hcl : a10q C.prog ts = true) (hpar : (fn.params.toList.all fun t => C.prog.readableRec t && decide (t < C.prog.types.size) && ts.contains t) = true)
  (hvars : s.vars = []) (hres : fn.resultTypes = #[tb]) (hb : C.prog.underlying tb = some .bool)
  (hs : ∀ ds : List (DataW H), ds.length = fn.params.toList.length → (s.fn H ds).results = [.lit (.bool true)] ∧ (s.fn H ds).args = ds ∧ (s.fn H ds).vars = [])
  (hcall : ∀ xs, a5gq C.prog fn.params.toList xs → ACall C.prog f xs (B true) []) :
  ReturnsInHanded a C os f .any (s.pre6 enc C.prog fn [] apart) (s.post enc C.prog fn apart fresh handsOn again) := by
 refine returnsInHanded_of_change_sized own started noInit hfn witness ?_
 intro W base args ds gs before hval hW _ hsz _
 have hW' := hW
 obtain ⟨p, q, hA, hV, rfl, hfz, hnd⟩ := hW
 rw [hvars] at hV
 obtain ⟨rfl, rfl⟩ := trodVars_none hV
 have hpar' := fun t ht => List.all_eq_true.1 hpar t ht
 simp only [Bool.and_eq_true, decide_eq_true_eq, List.contains_iff_mem] at hpar'
 have hplain : s.plain.varTypes C.prog = [] := by
  have : s.plain.vars = [] := by unfold ChangeSpec.plain; simpa using hvars
  simp [DataSpec.varTypes, this]
 rw [hplain, List.append_nil, List.append_nil] at hsz
 have hlen : ds.length = fn.params.toList.length := by
  have : ∀ (us : List TypeId) (vs : List Value) (ds : List (DataW H)) (p : List MemPlace), DataW.TrodAll enc C.prog W 0 (fun _ => true) true us vs ds p → ds.length = us.length := by
   intro us
   induction us with
   | nil => intro vs ds p h; cases vs <;> cases ds <;> simp [DataW.TrodAll] at h ⊢
   | cons t us ih => intro vs ds p h; cases vs <;> cases ds <;> simp [DataW.TrodAll] at h ⊢; obtain ⟨_, _, q, h2, _⟩ := h; exact ih _ _ _ h2
  exact this _ _ _ _ hA
 obtain ⟨xs, hxs, hrep⟩ := a7dq (β := fun _ => ⟨0, none, 0, 0, false, [], []⟩) hcl fn.params.toList args.toList ds p (fun t ht => (hpar' t ht).2) (fun j t v h1 h2 => hval j t v (by simpa using h1) (by simpa using h2)) hA (by simpa using hsz)
 have hc := hcall xs hxs W (· < W.heap.size) (fun _ => ⟨0, none, 0, 0, false, [], []⟩) args.toList (fun b hb => hb) hrep
 obtain ⟨s1, s2, s3⟩ := hs (ds ++ []) (by simpa using hlen)
 have hc' : Calls C.prog f args W fun e w' => ∃ v S' β', e = .returned v ∧ Grow W (· < W.heap.size) (fun _ => ⟨0, none, 0, 0, false, [], []⟩) [] w' S' β' ∧ RepV w' S' β' (B true) v := by simpa using hc
 refine hc'.mono fun e W' ⟨v, S', β', he, hg, hv⟩ => ?_
 obtain rfl := hv.bool_inv
 have hbel : Below W.heap.size W W' := ⟨hg.os, hg.tape, hg.output, hg.size, hg.block⟩
 have hlt : ∀ x ∈ p, x.block < W.heap.size := fun x hx => hW'.lt x (by simpa using hx)
 refine ⟨_, he, a7Yq (pa := p) (pv := []) hW' (fun b sp hd => ?_) (fun sp hsp => ?_) (fun sp _ => ?_) rfl hbel ?_⟩
 ·rw [s1, hres]
  exact trodAll_mk1 (shut_bool hb true)
 ·rw [s2, List.append_nil]
  exact a26q hl _ _ _ _ (fun t ht => (hpar' t ht).1) (fun x hx => ⟨hbel.same (hlt x hx), hsp x (by simpa using hx)⟩) hA
 ·rw [s3, hvars]; rfl
 ·exact ok_one hres rfl (okWide_bool_mk hb true)
end AM
end Go.Proofs.YtajcoogpmockiaaGreat
set_option maxRecDepth 100000
namespace Go.Proofs.YtajcoogpmockiaaGreat
namespace AM
open Go Go.ChangeShapes Go.WideShapes Go.RowKit
open Go.Proofs.Tryz renaming prog → pg
theorem own : ownKnob Tryz.prog.godebug = none := by kernel_rfl
theorem afBq : laidOutB pg = true := by kernel_rfl
def i64 (n : Int) : Prop := -9223372036854775808 ≤ n ∧ n ≤ 9223372036854775807
mutual
def Tm.ok : Tm → Prop
 | .mk f v ks => i64 f ∧ i64 v ∧ Tm.oks ks
def Tm.oks : List Tm → Prop
 | [] => True
 | t :: r => t.ok ∧ Tm.oks r
end
theorem Tm.oks_iff : ∀ {l : List Tm}, Tm.oks l ↔ ∀ t ∈ l, t.ok
 | [] => by simp [Tm.oks]
 | t :: r => by simp [Tm.oks, Tm.oks_iff (l := r)]
def Li.ok (x : Li) : Prop := x.l.ok ∧ x.r.ok
def Cl.ok (x : Cl) : Prop := ∀ y ∈ x.ls, y.ok
def Sy.ok (x : Sy) : Prop := i64 x.ar
def Bd.ok (x : Bd) : Prop := i64 x.v ∧ x.t.ok
def Ru.ok (x : Ru) : Prop := x.l.ok ∧ x.r.ok
def Sp.ok (x : Sp) : Prop := (i64 x.kind ∧ i64 x.a ∧ i64 x.b ∧ i64 x.i ∧ i64 x.k) ∧ (∀ n ∈ x.way, i64 n) ∧ (∀ y ∈ x.sub, y.ok) ∧ x.cl.ok
def Wk.ok (x : Wk) : Prop := (∀ y ∈ x.sig, y.ok) ∧ (∀ y ∈ x.input, y.ok) ∧ (∀ y ∈ x.log, y.ok) ∧ (∀ n ∈ x.active, i64 n) ∧ (∀ n ∈ x.passive, i64 n)
theorem I5q (n : Nat) {ds : List Da} (h : e9q pg n 3 ds) : ∃ m, ds = [.int .i64 m] ∧ i64 m := by
 cases n with
 | zero => simp only [e9q] at h
 | succ n =>
  simp only [e9q, Tryz.underlying3] at h
  obtain ⟨m, e, hw⟩ := h
  refine ⟨m, e, ?_⟩
  simp [Lit.wf, IntKind.min, IntKind.max, IntKind.signed, IntKind.bits] at hw
  exact ⟨by omega, by omega⟩
theorem a5sq (n : Nat) {ds : List Da} (h : e9q pg n 4 ds) : ∃ b, ds = [.bool b] := by
 cases n with
 | zero => simp only [e9q] at h
 | succ n => simp only [e9q, Tryz.underlying4] at h; exact h
theorem a56q {α : Type} {da : α → List Da} {ok : α → Prop} {xs : List (List Da)} (h : ∀ x ∈ xs, ∃ t : α, x = da t ∧ ok t) : ∃ ks : List α, xs = ks.map da ∧ ∀ k ∈ ks, ok k := by
 induction xs with
 | nil => exact ⟨[], rfl, by simp⟩
 | cons x xs ih =>
  obtain ⟨t, rfl, ht⟩ := h x (by simp)
  obtain ⟨ks, rfl, hk⟩ := ih fun y hy => h y (by simp [hy])
  exact ⟨t :: ks, rfl, by simpa using ⟨ht, hk⟩⟩
theorem acXq (n : Nat) {ds : List Da} (h : e9q pg n 9 ds) : ∃ s, ds = [.str s] := by
 cases n with
 | zero => simp only [e9q] at h
 | succ n => simp only [e9q, Tryz.underlying9] at h; exact h
theorem a1Gq (n : Nat) {ds : List Da} (h : e9q pg n 107 ds) : ∃ t : Tm, ds = t.da ∧ t.ok := by
 induction n using Nat.strongRecOn generalizing ds with
 | ind n ih =>
 cases n with
 | zero => simp only [e9q] at h
 | succ n =>
  simp only [e9q, Tryz.underlying107, H8q] at h
  obtain ⟨d1, r1, rfl, h1, d2, r2, rfl, h2, d3, r3, rfl, h3, rfl⟩ := h
  obtain ⟨f, rfl, hf⟩ := I5q _ h1
  obtain ⟨v, rfl, hv⟩ := I5q _ h2
  have h4 : ∃ ks, d3 = [.sl (Tm.das ks)] ∧ ∀ k ∈ ks, Tm.ok k := by
   cases n with
   | zero => simp only [e9q] at h3
   | succ n =>
    simp only [e9q, Tryz.underlying105] at h3
    obtain ⟨xs, rfl, hx⟩ := h3
    obtain ⟨ks, rfl, hk⟩ := a56q (da := Tm.da) (ok := Tm.ok) fun x hx' => ih n (by omega) (hx x hx')
    exact ⟨ks, by rw [Tm.das_map], hk⟩
  obtain ⟨ks, rfl, hk⟩ := h4
  exact ⟨.mk f v ks, rfl, hf, hv, Tm.oks_iff.2 hk⟩
theorem adlq (n : Nat) {ds : List Da} (h : e9q pg n 142 ds) : ∃ l : Li, ds = l.da ∧ l.ok := by
 cases n with
 | zero => simp only [e9q] at h
 | succ n =>
  simp only [e9q, Tryz.underlying142, H8q] at h
  obtain ⟨d1, r1, rfl, h1, d2, r2, rfl, h2, d3, r3, rfl, h3, rfl⟩ := h
  obtain ⟨p, rfl⟩ := a5sq _ h1
  obtain ⟨a, rfl, ha⟩ := a1Gq _ h2
  obtain ⟨b, rfl, hb⟩ := a1Gq _ h3
  exact ⟨⟨p, a, b⟩, by simp [Li.da], ha, hb⟩
theorem abSq (n : Nat) {ds : List Da} (h : e9q pg n 23 ds) : ∃ ls : List Li, ds = [.sl (ls.map Li.da)] ∧ ∀ k ∈ ls, k.ok := by
 cases n with
 | zero => simp only [e9q] at h
 | succ n =>
  simp only [e9q, Tryz.underlying23] at h
  obtain ⟨xs, rfl, hx⟩ := h
  obtain ⟨ks, rfl, hk⟩ := a56q (da := Li.da) (ok := Li.ok) fun x hx' => adlq _ (hx x hx')
  exact ⟨ks, rfl, hk⟩
theorem a95q (n : Nat) {ds : List Da} (h : e9q pg n 25 ds) : ∃ c : Cl, ds = c.da ∧ c.ok := by
 cases n with
 | zero => simp only [e9q] at h
 | succ n =>
  simp only [e9q, Tryz.underlying25, H8q] at h
  obtain ⟨d1, r1, rfl, h1, rfl⟩ := h
  obtain ⟨ls, rfl, hl⟩ := abSq _ h1
  exact ⟨⟨ls⟩, rfl, hl⟩
theorem adWq (n : Nat) {ds : List Da} (h : e9q pg n 81 ds) : ∃ c : Sy, ds = c.da ∧ c.ok := by
 cases n with
 | zero => simp only [e9q] at h
 | succ n =>
  simp only [e9q, Tryz.underlying81, H8q] at h
  obtain ⟨d1, r1, rfl, h1, d2, r2, rfl, h2, d3, r3, rfl, h3, rfl⟩ := h
  obtain ⟨s, rfl⟩ := acXq _ h1
  obtain ⟨m, rfl, hm⟩ := I5q _ h2
  obtain ⟨b, rfl⟩ := a5sq _ h3
  exact ⟨⟨s, m, b⟩, rfl, hm⟩
theorem aaVq (n : Nat) {ds : List Da} (h : e9q pg n 22 ds) : ∃ ls : List Sy, ds = [.sl (ls.map Sy.da)] ∧ ∀ k ∈ ls, k.ok := by
 cases n with
 | zero => simp only [e9q] at h
 | succ n =>
  simp only [e9q, Tryz.underlying22] at h
  obtain ⟨xs, rfl, hx⟩ := h
  obtain ⟨ks, rfl, hk⟩ := a56q (da := Sy.da) (ok := Sy.ok) fun x hx' => adWq _ (hx x hx')
  exact ⟨ks, rfl, hk⟩
theorem abHq (n : Nat) {ds : List Da} (h : e9q pg n 109 ds) : ∃ c : Bd, ds = c.da ∧ c.ok := by
 cases n with
 | zero => simp only [e9q] at h
 | succ n =>
  simp only [e9q, Tryz.underlying109, H8q] at h
  obtain ⟨d1, r1, rfl, h1, d2, r2, rfl, h2, rfl⟩ := h
  obtain ⟨v, rfl, hv⟩ := I5q _ h1
  obtain ⟨t, rfl, ht⟩ := a1Gq _ h2
  exact ⟨⟨v, t⟩, by simp [Bd.da], hv, ht⟩
theorem aaCq (n : Nat) {ds : List Da} (h : e9q pg n 50 ds) : ∃ ls : List Bd, ds = [.sl (ls.map Bd.da)] ∧ ∀ k ∈ ls, k.ok := by
 cases n with
 | zero => simp only [e9q] at h
 | succ n =>
  simp only [e9q, Tryz.underlying50] at h
  obtain ⟨xs, rfl, hx⟩ := h
  obtain ⟨ks, rfl, hk⟩ := a56q (da := Bd.da) (ok := Bd.ok) fun x hx' => abHq _ (hx x hx')
  exact ⟨ks, rfl, hk⟩
end AM
end Go.Proofs.YtajcoogpmockiaaGreat
namespace Go.Proofs.YtajcoogpmockiaaGreat
namespace AM
open Go
mutual
def Da.ut : Da → Da
 | .tg _ ys => .sl (Da.utR ys)
 | .sl ys => .sl (Da.utR ys)
 | x => x
def Da.utL : List Da → List Da
 | [] => []
 | x :: r => x.ut :: Da.utL r
def Da.utR : List (List Da) → List (List Da)
 | [] => []
 | x :: r => Da.utL x :: Da.utR r
end
theorem a0Tq (l : List Da) : Da.utL l = l.map Da.ut := by induction l <;> simp_all [Da.utL]
theorem a37q (l : List (List Da)) : Da.utR l = l.map (List.map Da.ut) := by induction l <;> simp_all [Da.utR, a0Tq]
theorem a8Wq (l : List (List Da)) : (Da.utR l).flatten = Da.utL l.flatten := by
 rw [a37q, a0Tq, List.map_flatten]
theorem RepF.ut {w : World} {xs : List Da} {vs : List Value} {fp : List Nat} (h : RepF w xs vs fp) : RepF w (Da.utL xs) vs fp := by
 induction h with
 | nil => exact .nil
 | int _ ih => exact .int ih
 | bool _ ih => exact .bool ih
 | str hs _ ih => exact .str hs ih
 | fn _ ih => exact .fn ih
 | sl0 h1 h2 h3 h4 _ ih => exact .sl0 (by rw [a8Wq, h1]; rfl) (by rw [a37q]; simpa using h2) h3 h4 ih
 | @sl1 _ _ _ _ _ _ _ _ _ _ es _ h1 h2 h3 h4 h5 h6 _ ih1 ih2 =>
  refine .sl1 (es := es) (by rw [a8Wq]; exact ih1) (by rw [a37q]; simpa using h1) h2 h3 (fun y hy => ?_) h5 h6 ih2
  rw [a37q] at hy
  obtain ⟨x, hx, rfl⟩ := List.mem_map.1 hy
  rw [List.length_map]; exact h4 x hx
 | @tg v ys xs vs fi fp _ _ ih1 ih2 =>
  exact RepF.app ih1 ih2
theorem RepDs.ut {w : World} {S : Nat → Prop} {xs : List Da} {vs : List Value} (h : RepDs w S xs vs) : RepDs w S (Da.utL xs) vs := by
 obtain ⟨fp, h, hf⟩ := h
 exact ⟨fp, h.ut, hf⟩
def AV.ut : AV → AV
 | .one (.d x) => .one (.d x.ut)
 | .dat xs => .dat (Da.utL xs)
 | x => x
theorem RepV.ut {w : World} {S : Nat → Prop} {β : Nat → OLoc} {x : AV} {v : Value} (h : RepV w S β x v) : RepV w S β x.ut v := by
 unfold AV.ut
 split
 ·have := h.one_inv
  cases this with
  | d h => exact RepV.one (.d h.ut)
 ·obtain ⟨cs, rfl, h2⟩ := h.dat_inv
  exact RepVs.dat h2.ut .nil
 ·exact h
theorem RepVs.ut {w : World} {S : Nat → Prop} {β : Nat → OLoc} {xs : List AV} {vs : List Value} (h : RepVs w S β xs vs) : RepVs w S β (xs.map AV.ut) vs := by
 induction h with
 | nil => exact .nil
 | one h _ ih => exact RepVs.cons (RepV.ut (RepVs.one h .nil)) ih
 | dat h _ ih => exact RepVs.cons (RepV.ut (RepVs.dat h .nil)) ih
 | agg h _ ih => exact RepVs.cons (RepV.ut (RepVs.agg h .nil)) ih
 | tup h _ _ ih => exact RepVs.cons (RepV.ut (RepVs.tup h .nil)) ih
theorem XC.ut {P : Program} {f : FuncId} {xs : List AV} {I : List (Nat × Ob)} {r : AV} {O : List (Nat × Ob)} (h : XC P f (xs.map AV.ut) I r O) : XC P f xs I r O := ⟨fun w S β vs hlt hr hin => h.h w S β vs hlt hr.ut hin⟩
def tagR : List Da → List Value → List Da
 | .sl ys :: xs, v :: vs => .tg v ys :: tagR xs vs
 | x :: xs, _ :: vs => x :: tagR xs vs
 | _, _ => []
def Da.u1 : Da → Da
 | .tg _ ys => .sl ys
 | x => x
theorem RepT.tagR {w : World} {xs : List Da} {vs : List Value} {fp : List Nat} (h : RepT w xs vs fp) : RepF w (tagR xs vs) vs fp ∧ (tagR xs vs).map Da.u1 = xs ∧ ∀ w' us fq, RepF w' (AM.tagR xs vs) us fq → us = vs := by
 induction h with
 | nil => exact ⟨.nil, rfl, fun w' us fq h => by cases h; rfl⟩
 | int _ ih =>
  refine ⟨.int ih.1, by simp [AM.tagR, Da.u1, ih.2.1], fun w' us fq h => ?_⟩
  cases h with | int h => rw [ih.2.2 _ _ _ h]
 | bool _ ih =>
  refine ⟨.bool ih.1, by simp [AM.tagR, Da.u1, ih.2.1], fun w' us fq h => ?_⟩
  cases h with | bool h => rw [ih.2.2 _ _ _ h]
 | str hs _ ih =>
  refine ⟨.str hs ih.1, by simp [AM.tagR, Da.u1, ih.2.1], fun w' us fq h => ?_⟩
  cases h with | str _ h => rw [ih.2.2 _ _ _ h]
 | sl0 _ ih =>
  refine ⟨?_, by simp [AM.tagR, Da.u1, ih.2.1], fun w' us fq h => ?_⟩
  ·exact RepF.tg (fi := []) (.sl0 rfl rfl (Nat.zero_le _) (Nat.zero_le _) .nil) ih.1
  ·cases h with | tg _ h => rw [ih.2.2 _ _ _ h]
 | @sl1 ys xs us vs fi fp b n cap es c E h0 h1 h2 h3 h4 h5 h6 h7 hx ih1 ih2 =>
  refine ⟨?_, by simp [AM.tagR, Da.u1, ih2.2.1], fun w' us fq h => ?_⟩
  ·have h8 := (RepT.sl1 h0 h1 h2 h3 h4 h5 h6 h7 .nil).repF
   have := RepF.tg h8 ih2.1
   rw [List.append_nil, List.cons_append] at this
   exact this
  ·cases h with | tg _ h => rw [ih2.2.2 _ _ _ h]
abbrev RW := List Da × List Value × List Nat
theorem acTq {w : World} {es : Nat} : ∀ {xs : List (List Da)} {vs : List Value} {fp : List Nat}, RepT w xs.flatten vs fp → ∃ rs : List RW, rs.map (·.1) = xs ∧ (rs.map (·.2.1)).flatten = vs ∧ (rs.map (·.2.2)).flatten = fp ∧ ∀ r ∈ rs, RepT w r.1 r.2.1 r.2.2
 | [], vs, fp, h => by
  cases h
  exact ⟨[], rfl, rfl, rfl, by simp⟩
 | x :: xs, vs, fp, h => by
  rw [List.flatten_cons] at h
  obtain ⟨v1, v2, f1, f2, rfl, rfl, h1, h2⟩ := h.split
  obtain ⟨rs, e1, e2, e3, e4⟩ := acTq (es := es) h2
  refine ⟨(x, v1, f1) :: rs, by simp [e1], by simp [e2], by simp [e3], fun r hr => ?_⟩
  rcases List.mem_cons.1 hr with rfl | hr
  ·exact h1
  ·exact e4 r hr
theorem acVq {α β : Type} (g : α → β) {xs : List α} {ys : List β} (h : ys.Perm (xs.map g)) : ∃ zs : List α, zs.Perm xs ∧ zs.map g = ys := by
 generalize hm : xs.map g = m at h
 induction h generalizing xs with
 | nil => exact ⟨xs, .refl _, hm⟩
 | @cons x l1 l2 hp ih =>
  cases xs with
  | nil => simp at hm
  | cons a r =>
   simp only [List.map_cons, List.cons.injEq] at hm
   obtain ⟨zs, h1, h2⟩ := ih hm.2
   exact ⟨a :: zs, h1.cons a, by simp [hm.1, h2]⟩
 | swap x y l =>
  match xs, hm with
  | a :: b :: r, hm =>
   simp only [List.map_cons, List.cons.injEq] at hm
   exact ⟨b :: a :: r, .swap .., by simp [hm.1, hm.2.1, hm.2.2]⟩
  | [], hm => simp at hm
  | [a], hm => simp at hm
 | trans h1 h2 ih1 ih2 =>
  obtain ⟨zs, p1, e1⟩ := ih2 hm
  obtain ⟨ws, p2, e2⟩ := ih1 e1
  exact ⟨ws, p2.trans p1, e2⟩
theorem afsq {w : World} {rs : List RW} {us : List Value} {fq : List Nat} (hT : ∀ r ∈ rs, ∃ w0 : World, RepT w0 r.1 r.2.1 r.2.2) (h : RepF w (rs.map fun r => tagR r.1 r.2.1).flatten us fq) : us = (rs.map (·.2.1)).flatten := by
 induction rs generalizing us fq with
 | nil => cases h; rfl
 | cons r rs ih =>
  rw [List.map_cons, List.flatten_cons] at h
  obtain ⟨v1, v2, f1, f2, rfl, rfl, h1, h2⟩ := h.split
  obtain ⟨w0, h0⟩ := hT r (by simp)
  rw [h0.tagR.2.2 _ _ _ h1, ih (fun r hr => hT r (by simp [hr])) h2]
  simp
theorem aceq {w : World} {rs : List RW} (h : ∀ r ∈ rs, RepT w r.1 r.2.1 r.2.2) : RepT w (rs.map (·.1)).flatten (rs.map (·.2.1)).flatten (rs.map (·.2.2)).flatten := by
 induction rs with
 | nil => exact .nil
 | cons r rs ih =>
  simp only [List.map_cons, List.flatten_cons]
  exact (h r (by simp)).app (ih fun r hr => h r (by simp [hr]))
theorem acyq {w : World} {rs : List RW} (h : ∀ r ∈ rs, RepT w r.1 r.2.1 r.2.2) : RepF w (rs.map fun r => tagR r.1 r.2.1).flatten (rs.map (·.2.1)).flatten (rs.map (·.2.2)).flatten := by
 induction rs with
 | nil => exact .nil
 | cons r rs ih =>
  simp only [List.map_cons, List.flatten_cons]
  exact (h r (by simp)).tagR.1.app (ih fun r hr => h r (by simp [hr]))
theorem adLq {w w' : World} {S S' : Nat → Prop} {β : Nat → OLoc} {l' : OLoc} {cl : List Nat} {E es : Nat} {rs : List RW} {ys' ys l0 : List (List Da)} (hT : ∀ r ∈ rs, RepT w r.1 r.2.1 r.2.2) (hfp : ∀ b ∈ (rs.map (·.2.2)).flatten, S b ∧ b ∈ cl) (hnd : (rs.map (·.2.2)).flatten.Nodup) (hp : (ys' ++ l0).Perm (rs.map fun r => tagR r.1 r.2.1)) (hys : ys'.map (List.map Da.u1) = ys)
  (hX : ObRep w' S' β l' (.lst E es ys')) (hk : ∀ b, S b → w'.heap[b]? = w.heap[b]?) (hs : ∀ b, S b → S' b) (hcl : l'.clm = cl) : ObRep w' S' β l' (.tr E es ys) := by
 obtain ⟨zs, p1, e1⟩ := acVq (fun r : RW => tagR r.1 r.2.1) hp
 obtain ⟨r1, r2, rfl, g1, g2⟩ : ∃ r1 r2, zs = r1 ++ r2 ∧ r1.map (fun r : RW => tagR r.1 r.2.1) = ys' ∧ r2.map (fun r : RW => tagR r.1 r.2.1) = l0 := List.map_eq_append_iff.1 e1
 have hT1 : ∀ r ∈ r1, RepT w r.1 r.2.1 r.2.2 := fun r hr => hT r (p1.subset (List.mem_append_left _ hr))
 have hsub : ∀ r ∈ r1, r ∈ rs := fun r hr => p1.subset (List.mem_append_left _ hr)
 have hyl : ys = r1.map (·.1) := by
  rw [← hys, ← g1, List.map_map]
  exact List.map_congr_left fun r hr => (hT1 r hr).tagR.2.1
 have hnd1 : (r1.map (·.2.2)).flatten.Nodup := by
  have q1 : ((r1 ++ r2).map (·.2.2)).flatten.Perm (rs.map (·.2.2)).flatten := (p1.map _).flatten
  have q2 := q1.nodup_iff.2 hnd
  rw [List.map_append, List.flatten_append] at q2
  exact (List.nodup_append.1 q2).1
 have hfp1 : ∀ b ∈ (r1.map (·.2.2)).flatten, S b ∧ b ∈ cl := fun b hb => by
  obtain ⟨f, hf, hb⟩ := List.mem_flatten.1 hb
  obtain ⟨r, hr, rfl⟩ := List.mem_map.1 hf
  exact hfp b (List.mem_flatten.2 ⟨_, List.mem_map.2 ⟨r, hsub r hr, rfl⟩, hb⟩)
 have hlen : ys'.length = ys.length := by rw [← hys]; simp
 rcases hX with ⟨h1, h2, h3, vs, h4, fq, h5, h6⟩ | ⟨z1, z2, z3⟩
 ·rw [← g1] at h5
  have hv := afsq (fun r hr => ⟨w, hT1 r hr⟩) h5
  refine .inl ⟨h1, by rw [← hlen]; exact h2, fun y hy => ?_, vs, (r1.map (·.2.2)).flatten, by rw [← hlen]; exact h4, ?_, fun b hb => ⟨hs b (hfp1 b hb).1, by rw [hcl]; exact (hfp1 b hb).2⟩, hnd1⟩
  ·rw [← hys] at hy
   obtain ⟨x, hx, rfl⟩ := List.mem_map.1 hy
   rw [List.length_map]; exact h3 x hx
  ·rw [hyl, hv]
   exact (aceq hT1).keep fun b hb => hk b (hfp1 b hb).1
 ·exact .inr ⟨z1, by rw [← hys, z2]; rfl, z3⟩
theorem a5Kq {w : World} {rs : List RW} (hT : ∀ r ∈ rs, RepT w r.1 r.2.1 r.2.2) : (rs.map fun r => tagR r.1 r.2.1).map (List.map Da.u1) = rs.map (·.1) := by
 rw [List.map_map]
 exact List.map_congr_left fun r hr => (hT r hr).tagR.2.1
theorem a9dq {w : World} {S : Nat → Prop} {β : Nat → OLoc} {l : OLoc} {E es : Nat} {xs : List (List Da)} (h : ObRep w S β l (.tr E es xs)) : ∃ rs : List RW, rs.map (·.1) = xs ∧ (∀ r ∈ rs, RepT w r.1 r.2.1 r.2.2) ∧ (∀ b ∈ (rs.map (·.2.2)).flatten, S b ∧ b ∈ l.clm) ∧ (rs.map (·.2.2)).flatten.Nodup ∧ ObRep w S β l (.lst E es (rs.map fun r => tagR r.1 r.2.1)) := by
 rcases h with ⟨h1, h2, h3, vs, fp, h4, h5, h6, h7⟩ | ⟨z1, rfl, z3⟩
 ·obtain ⟨rs, e1, e2, e3, e4⟩ := acTq (es := es) h5
  subst e1; subst e3; subst e2
  have hl : ∀ r ∈ rs, (tagR r.1 r.2.1).length = r.1.length := fun r hr => by
   have := congrArg List.length (e4 r hr).tagR.2.1
   simpa using this
  refine ⟨rs, rfl, e4, h6, h7, .inl ⟨h1, by simpa using h2, fun y hy => ?_, _, by simpa using h4, _, acyq e4, fun b hb => (h6 b hb).1⟩⟩
  obtain ⟨r, hr, rfl⟩ := List.mem_map.1 hy
  rw [hl r hr]; exact h3 _ (List.mem_map.2 ⟨r, hr, rfl⟩)
 ·exact ⟨[], rfl, by simp, by simp, by simp, .inr ⟨z1, rfl, z3⟩⟩
section
variable {P : Program} {f : FuncId} {zs : List AV} {E es : Nat} {xs ys : List (List Da)}
theorem abrq {r : AV} (h : ∀ xs' : List (List Da), xs'.map (List.map Da.u1) = xs → ∃ ys', (∃ l, (ys' ++ l).Perm xs') ∧ ys'.map (List.map Da.u1) = ys ∧ XC P f zs [(2000, .lst E es xs')] r [(2000, .lst E es ys')]) : XC P f zs [(2000, .tr E es xs)] r [(2000, .tr E es ys)] := ⟨by
 intro w S β vs hlt hr hin
 have hm : ((2000 : Nat), Ob.tr E es xs) ∈ [((2000 : Nat), Ob.tr E es xs)] := List.mem_singleton.2 rfl
 obtain ⟨rs, e1, hT, hfp, hnd, hL⟩ := a9dq (hin.ob _ hm)
 subst e1
 obtain ⟨ys', ⟨l0, hperm⟩, hu, hx⟩ := h _ (a5Kq hT)
 have hin' : R9q w S β [(2000, .lst E es (rs.map fun r => tagR r.1 r.2.1))] := by
  refine ⟨fun p hp => ?_, fun p hp => ?_, fun p hp q hq => ?_, fun p hp => ?_, fun p hp q hq => ?_⟩
  ·rw [List.mem_singleton.1 hp]; exact hL
  ·rw [List.mem_singleton.1 hp]; exact hin.own (2000, .tr E es (rs.map (·.1))) hm
  ·rw [List.mem_singleton.1 hp, List.mem_singleton.1 hq]; intros; rfl
  ·rw [List.mem_singleton.1 hp]; exact hin.clm (2000, .tr E es (rs.map (·.1))) hm
  ·rw [List.mem_singleton.1 hp, List.mem_singleton.1 hq]; intros; rfl
 have hpass : ∀ b, i5q [((2000 : Nat), Ob.lst E es (rs.map fun r => tagR r.1 r.2.1))] β b ↔ i5q [((2000 : Nat), Ob.tr E es (rs.map (·.1)))] β b := by
  intro b; simp [i5q]
 have hpc : ∀ b, B3q [((2000 : Nat), Ob.lst E es (rs.map fun r => tagR r.1 r.2.1))] β b ↔ B3q [((2000 : Nat), Ob.tr E es (rs.map (·.1)))] β b := by
  intro b; simp [B3q]
 refine (hx.h w S β vs hlt hr hin').mono ?_
 rintro e w' ⟨v, S', β', rfl, hG, hrep⟩
 have h2000 : β' 2000 = β 2000 := hG.loc 2000 (by simp [A1q])
 have hSn : ∀ b, S b → w'.heap[b]? = w.heap[b]? := fun b hb => hG.block b (hlt b hb) fun hpb => by
  obtain ⟨p, hp, h1⟩ := hpb
  rw [List.mem_singleton.1 hp] at h1
  exact (hin.own _ hm b h1).2 hb
 refine ⟨v, S', β', rfl, ⟨hG.os, hG.tape, hG.output, hG.size, fun b hb hp => hG.block b hb fun h => hp ((hpass b).1 h), hG.sub, fun b hb => ⟨(hG.sup b hb).1, (hG.sup b hb).2.imp id (Or.imp id (hpass b).1)⟩, fun o ho => hG.loc o (by simp [A1q]), fun p hp => ?_, fun p hp b hb => ?_, fun p hp q hq => ?_, fun p hp b hb => ?_, fun p hp q hq => ?_⟩, hrep⟩
 ·rw [List.mem_singleton.1 hp]
  exact adLq hT hfp hnd hperm hu (hG.ob _ (List.mem_singleton.2 rfl)) hSn hG.sub (by rw [h2000])
 ·rw [List.mem_singleton.1 hp] at hb
  obtain ⟨h1, h2, h3⟩ := hG.own _ (List.mem_singleton.2 rfl) b hb
  exact ⟨h1, h2, h3.imp id (hpass b).1⟩
 ·rw [List.mem_singleton.1 hp, List.mem_singleton.1 hq]; intros; rfl
 ·rw [List.mem_singleton.1 hp] at hb
  obtain ⟨h1, h3⟩ := hG.clm _ (List.mem_singleton.2 rfl) b hb
  exact ⟨h1, h3.imp id (Or.imp (hpass b).1 (hpc b).1)⟩
 ·rw [List.mem_singleton.1 hp, List.mem_singleton.1 hq]; intros; rfl⟩
theorem aeoq (h : ∀ xs' : List (List Da), xs'.map (List.map Da.u1) = xs → ∃ ys', (∃ l, (ys' ++ l).Perm xs') ∧ ys'.map (List.map Da.u1) = ys ∧ XC P f zs [(2000, .lst E es xs')] (.one (.ol 0)) [(0, .lst E es ys')]) : XC P f zs [(2000, .tr E es xs)] (.one (.ol 0)) [(0, .tr E es ys)] := ⟨by
 intro w S β vs hlt hr hin
 have hm : ((2000 : Nat), Ob.tr E es xs) ∈ [((2000 : Nat), Ob.tr E es xs)] := List.mem_singleton.2 rfl
 obtain ⟨rs, e1, hT, hfp, hnd, hL⟩ := a9dq (hin.ob _ hm)
 subst e1
 obtain ⟨ys', ⟨l0, hperm⟩, hu, hx⟩ := h _ (a5Kq hT)
 have hin' : R9q w S β [(2000, .lst E es (rs.map fun r => tagR r.1 r.2.1))] := by
  refine ⟨fun p hp => ?_, fun p hp => ?_, fun p hp q hq => ?_, fun p hp => ?_, fun p hp q hq => ?_⟩
  ·rw [List.mem_singleton.1 hp]; exact hL
  ·rw [List.mem_singleton.1 hp]; exact hin.own (2000, .tr E es (rs.map (·.1))) hm
  ·rw [List.mem_singleton.1 hp, List.mem_singleton.1 hq]; intros; rfl
  ·rw [List.mem_singleton.1 hp]; exact hin.clm (2000, .tr E es (rs.map (·.1))) hm
  ·rw [List.mem_singleton.1 hp, List.mem_singleton.1 hq]; intros; rfl
 have hpass : ∀ b, i5q [((2000 : Nat), Ob.lst E es (rs.map fun r => tagR r.1 r.2.1))] β b ↔ i5q [((2000 : Nat), Ob.tr E es (rs.map (·.1)))] β b := by
  intro b; simp [i5q]
 refine (hx.h w S β vs hlt hr hin').mono ?_
 rintro e w' ⟨v, S', β', rfl, hG, hrep⟩
 have hSn : ∀ b, S b → w'.heap[b]? = w.heap[b]? := fun b hb => hG.block b (hlt b hb) fun hpb => by
  obtain ⟨p, hp, h1⟩ := hpb
  rw [List.mem_singleton.1 hp] at h1
  exact (hin.own _ hm b h1).2 hb
 let β2 : Nat → OLoc := fun q => if q = 0 then { β' 0 with clm := (β 2000).clm } else β' q
 have hb0 : β2 0 = { β' 0 with clm := (β 2000).clm } := if_pos rfl
 have hown0 : ∀ b, (β2 0).Own b ↔ (β' 0).Own b := by intro b; rw [hb0]; rfl
 refine ⟨v, S', β2, rfl, ⟨hG.os, hG.tape, hG.output, hG.size, fun b hb hp => hG.block b hb fun h => hp ((hpass b).1 h), hG.sub, fun b hb => ⟨(hG.sup b hb).1, (hG.sup b hb).2.imp id (Or.imp id (hpass b).1)⟩, fun o ho => ?_, fun p hp => ?_, fun p hp b hb => ?_, fun p hp q hq => ?_, fun p hp b hb => ?_, fun p hp q hq => ?_⟩, ?_⟩
 ·have h0 : o ≠ 0 := fun e => ho (by simp [A1q, e])
  show (if o = 0 then _ else β' o) = β o
  rw [if_neg h0]
  exact hG.loc o (by simpa [A1q] using h0)
 ·rw [List.mem_singleton.1 hp]
  have hX : ObRep w' S' β2 (β2 0) (.lst E es ys') := by
   have := hG.ob _ (List.mem_singleton.2 rfl)
   rw [hb0]
   exact this
  exact adLq hT hfp hnd hperm hu hX hSn hG.sub (by rw [hb0])
 ·rw [List.mem_singleton.1 hp] at hb
  obtain ⟨h1, h2, h3⟩ := hG.own _ (List.mem_singleton.2 rfl) b ((hown0 b).1 hb)
  exact ⟨h1, h2, h3.imp id (hpass b).1⟩
 ·rw [List.mem_singleton.1 hp, List.mem_singleton.1 hq]; intros; rfl
 ·rw [List.mem_singleton.1 hp] at hb
  have hb : b ∈ (β 2000).clm := by rw [hb0] at hb; exact hb
  have h1 := hin.clm _ hm b hb
  exact ⟨hG.sub b h1, .inr (.inr ⟨_, hm, hb⟩)⟩
 ·rw [List.mem_singleton.1 hp, List.mem_singleton.1 hq]; intros; rfl
 ·have h1 := hrep.one_inv
  refine RepV.one ?_
  generalize hvv : v = u at h1
  cases h1
  have : (β' 0).sv = (β2 0).sv := by rw [hb0]; rfl
  rw [this]; exact .ol⟩
end
def ObImp (X Y : Ob) : Prop := ∀ (w : World) (S : Nat → Prop) (β : Nat → OLoc) (l : OLoc), ObRep w S β l X → ObRep w S β l Y
inductive ObsImp : List (Nat × Ob) → List (Nat × Ob) → Prop
 | nil : ObsImp [] []
 | cons {k X Y r s} : ObImp X Y → ObsImp r s → ObsImp ((k, X) :: r) ((k, Y) :: s)
theorem ObImp.refl (X : Ob) : ObImp X X := fun _ _ _ _ h => h
theorem aeBq (E es : Nat) (xs : List (List Da)) : ObImp (.tr E es xs) (.lst E es xs) := fun _ _ _ _ h => h.lst_of_tr
theorem a5kq {E es : Nat} {xs : List (List Da)} (hf : k0q xs) : ObImp (.lst E es xs) (.tr E es xs) := fun w S β l h => by
 rcases h with ⟨h1, h2, h3, vs, h4, fp, h5, h6⟩ | h
 ·exact .inl ⟨h1, h2, h3, vs, [], h4, h5.flatT (a03q hf), by simp, by simp⟩
 ·exact .inr h
theorem ObsImp.keys {I J : List (Nat × Ob)} (h : ObsImp I J) : I.map (·.1) = J.map (·.1) := by induction h <;> simp_all
theorem ObsImp.mem {I J : List (Nat × Ob)} (h : ObsImp I J) {p : Nat × Ob} (hp : p ∈ J) : ∃ X, (p.1, X) ∈ I ∧ ObImp X p.2 := by
 induction h with
 | nil => cases hp
 | @cons k X Y r s h1 _ ih =>
  rcases List.mem_cons.1 hp with rfl | hp
  ·exact ⟨X, by simp, h1⟩
  ·obtain ⟨X', h2, h3⟩ := ih hp
   exact ⟨X', by simp [h2], h3⟩
theorem ObsImp.mem' {I J : List (Nat × Ob)} (h : ObsImp I J) {p : Nat × Ob} (hp : p ∈ I) : ∃ Y, (p.1, Y) ∈ J := by
 induction h with
 | nil => cases hp
 | @cons k X Y r s _ _ ih =>
  rcases List.mem_cons.1 hp with rfl | hp
  ·exact ⟨Y, by simp⟩
  ·obtain ⟨Y', h2⟩ := ih hp
   exact ⟨Y', by simp [h2]⟩
theorem XC.imp {P : Program} {f : FuncId} {zs : List AV} {r : AV} {I I' O O' : List (Nat × Ob)} (h : XC P f zs I' r O') (hI : ObsImp I I') (hO : ObsImp O' O) : XC P f zs I r O := ⟨by
 intro w S β vs hlt hr hin
 have hpass : ∀ b, i5q I' β b ↔ i5q I β b := by
  intro b
  constructor
  ·rintro ⟨p, hp, h1⟩
   obtain ⟨X, h2, _⟩ := hI.mem hp
   exact ⟨_, h2, h1⟩
  ·rintro ⟨p, hp, h1⟩
   obtain ⟨Y, h2⟩ := hI.mem' hp
   exact ⟨_, h2, h1⟩
 have hpc : ∀ b, B3q I' β b ↔ B3q I β b := by
  intro b
  constructor
  ·rintro ⟨p, hp, h1⟩
   obtain ⟨X, h2, _⟩ := hI.mem hp
   exact ⟨_, h2, h1⟩
  ·rintro ⟨p, hp, h1⟩
   obtain ⟨Y, h2⟩ := hI.mem' hp
   exact ⟨_, h2, h1⟩
 have hin' : R9q w S β I' := by
  refine ⟨fun p hp => ?_, fun p hp b hb => ?_, fun p hp q hq b hb hb' => ?_, fun p hp b hb => ?_, fun p hp q hq b hb hb' => ?_⟩
  ·obtain ⟨X, h2, h3⟩ := hI.mem hp
   exact h3 _ _ _ _ (hin.ob _ h2)
  ·obtain ⟨X, h2, _⟩ := hI.mem hp
   exact hin.own _ h2 b hb
  ·obtain ⟨X, h2, _⟩ := hI.mem hp
   obtain ⟨X', h3, _⟩ := hI.mem hq
   exact hin.sep _ h2 (q.1, X') h3 b hb hb'
  ·obtain ⟨X, h2, _⟩ := hI.mem hp
   exact hin.clm _ h2 b hb
  ·obtain ⟨X, h2, _⟩ := hI.mem hp
   obtain ⟨X', h3, _⟩ := hI.mem hq
   exact hin.sepc _ h2 (q.1, X') h3 b hb hb'
 have hmv : A1q O' = A1q O := by unfold A1q; rw [hO.keys]
 refine (h.h w S β vs hlt hr hin').mono ?_
 rintro e w' ⟨v, S', β', rfl, hG, hrep⟩
 refine ⟨v, S', β', rfl, ⟨hG.os, hG.tape, hG.output, hG.size, fun b hb hp => hG.block b hb fun h => hp ((hpass b).1 h), hG.sub, fun b hb => ⟨(hG.sup b hb).1, (hG.sup b hb).2.imp id (Or.imp id (hpass b).1)⟩, fun o ho => hG.loc o (by rw [hmv]; exact ho), fun p hp => ?_, fun p hp b hb => ?_, fun p hp q hq b hb hb' => ?_, fun p hp b hb => ?_, fun p hp q hq b hb hb' => ?_⟩, hrep⟩
 ·obtain ⟨X, h2, h3⟩ := hO.mem hp
  exact h3 _ _ _ _ (hG.ob _ h2)
 ·obtain ⟨X, h2, _⟩ := hO.mem hp
  obtain ⟨g1, g2, g3⟩ := hG.own _ h2 b hb
  exact ⟨g1, g2, g3.imp id (hpass b).1⟩
 ·obtain ⟨X, h2, _⟩ := hO.mem hp
  obtain ⟨X', h3, _⟩ := hO.mem hq
  exact hG.sep _ h2 (q.1, X') h3 b hb hb'
 ·obtain ⟨X, h2, _⟩ := hO.mem hp
  obtain ⟨g1, g3⟩ := hG.clm _ h2 b hb
  exact ⟨g1, g3.imp id (Or.imp (hpass b).1 (hpc b).1)⟩
 ·obtain ⟨X, h2, _⟩ := hO.mem hp
  obtain ⟨X', h3, _⟩ := hO.mem hq
  exact hG.sepc _ h2 (q.1, X') h3 b hb hb'⟩
end AM
end Go.Proofs.YtajcoogpmockiaaGreat
set_option maxRecDepth 100000
namespace Go.Proofs.YtajcoogpmockiaaGreat
namespace AM
open Go Go.ChangeShapes Go.WideShapes Go.RowKit
open Go.Proofs.Tryz renaming prog → pg
theorem agpq {c d : Nat} {m : Int} (h : lft c m < 0) (hm : 0 ≤ m) : (-1 : Int) = lft (c + d) m := by unfold lft at h ⊢; split at h <;> split <;> omega
theorem a3qq {c : Nat} {m : Int} (h : lft c m < 0) (hm : 0 ≤ m) : (-1 : Int) = lft c m := by unfold lft at h ⊢; split at h <;> omega
theorem ahhq {c : Nat} {m : Int} (h0 : 0 ≤ m) (h1 : m ≤ 1048576) (hc : c ≤ 281474976710656) (h : IntKind.wrap .i64 (m - (c : Int)) < 0) : (-1 : Int) = lft c m := by
 rw [wrI (by omega) (by omega)] at h
 unfold lft; rw [if_pos (by omega)]
theorem agLq {c : Nat} {m : Int} (h0 : 0 ≤ m) (h1 : m ≤ 1048576) (hc : c ≤ 281474976710656) (h : ¬ IntKind.wrap .i64 (m - (c : Int)) < 0) : IntKind.wrap .i64 (m - (c : Int)) = lft c m := by
 rw [wrI (by omega) (by omega)] at h ⊢
 unfold lft; rw [if_neg (by omega)]
theorem zw {a b : Int} (h : a = b) : Z a = Z b ∧ ([] : List (Nat × Ob)) = [] := ⟨by rw [h], rfl⟩
theorem aa0q (l : List Tm) (ih0 : ∀ t ∈ l, ∀ m : Int, 0 ≤ m → m ≤ 1048576 → XC pg 130 [.dat t.da, Z m] [] (Z (lft t.cn m)) []) (left : Int) (h0 : 0 ≤ left) (h1 : left ≤ 1048576) : XC pg 192 [L (Tm.das l), Z left] [] (Z (lft (Tm.cns l) left)) [] := by
 refine n6q fun hfit => ?_
 have hlen : l.length ≤ 281474976710656 := by have := hfit.one.len; rwa [b3q] at this
 apply a5Iq
 rw [b3q, wrI (by omega) (by omega)]
 refine d2q (fun h => ⟨?_, rfl⟩) fun h => ?_
 ·rw [lft, if_pos (by have := Tm.cns_cnL l ▸ g2q Tm.cn l; omega)]
 ·have key := j8q (p := fun i => ∀ m : Int, 0 ≤ m → m ≤ 1048576 → v8q (Z (lft ((l.drop i).map Tm.cn).sum m)) [] (Tm.das l) m (i : Int)) l.length ?_ ?_ 0 (Nat.zero_le _)
  ·have := key (left - l.length) (by omega) (by omega)
   have e : lft ((l.drop 0).map Tm.cn).sum (left - l.length) = lft (Tm.cns l) left := by
    rw [List.drop_zero, Tm.cns_cnL, cnL]; unfold lft; split <;> split <;> omega
   rw [e] at this
   exact this
  ·intro m hm0 hm1
   apply Q3q
   refine a2q (d9q (by rw [b3q]; exact Nat.le_refl _)) ⟨?_, rfl⟩
   simp [lft]; omega
  ·intro i hi ih m hm0 hm1
   obtain ⟨x, hx⟩ := d0q hi
   have hx1 := n4q hx
   have hxc := ih0 x (List.mem_of_getElem? hx) m hm0 hm1
   have hdr : ((l.drop i).map Tm.cn).sum = Tm.cn x + ((l.drop (i + 1)).map Tm.cn).sum := by
    obtain ⟨hl, e⟩ := List.getElem?_eq_some_iff.1 hx
    rw [List.drop_eq_getElem_cons hl, e]; simp
   have hle := a2Aq (n := Tm.cn x) (l := m) (by omega)
   rw [hdr]
   generalize Tm.cn x = cx at *
   obtain ⟨f, v, ks⟩ := x
   apply Q3q
   refine a6q (f0q (by rwa [b3q])) ⟨i, rfl, _, _, _, hx1, _, hxc, ?_⟩
   refine d2q (fun h => ⟨?_, rfl⟩) fun h => ?_
   ·have := a3aq h hm0
    rw [show lft (cx + ((l.drop (i + 1)).map Tm.cn).sum) m = -1 by unfold lft at h ⊢; split at h <;> split <;> omega]
   ·rw [wr1 hi hlen, ← W9q (by omega)]
    exact ih _ (by omega) (by omega)
theorem a0yq (t : Tm) (m : Int) (h0 : 0 ≤ m) (h1 : m ≤ 1048576) : XC pg 130 [.dat t.da, Z m] [] (Z (lft t.cn m)) [] := by
 induction t using Tm.ind generalizing m with
 | h f v ks ih =>
  apply a6Fq
  exact ⟨_, aa0q ks (fun t ht m h0 h1 => ih t ht m h0 h1) m h0 h1, d2q (fun h => zw (a3qq h h0)) fun _ => ⟨rfl, rfl⟩⟩
theorem a9Dq (l : List Tm) (ih0 : ∀ t ∈ l, XC pg 54 [.dat t.da, .dat t.da] [] (B true) []) : XC pg 125 [L (Tm.das l), L (Tm.das l)] [] (B true) [] := by
 refine n6q fun hfit => ?_
 have hlen : l.length ≤ 281474976710656 := by have := hfit.one.len; rwa [b3q] at this
 apply a5Eq
 refine a2q H7q ?_
 refine j8q (p := fun i => w9q (B true) [] (Tm.das l) (Tm.das l) (i : Int)) l.length ?_ (fun i hi ih => ?_) 0 (Nat.zero_le _)
 ·apply Q4q
  exact a2q (d9q (by rw [b3q]; exact Nat.le_refl _)) ⟨rfl, rfl⟩
 ·obtain ⟨x, hx⟩ := d0q hi
  have hx1 := n4q hx
  have hxc := ih0 x (List.mem_of_getElem? hx)
  obtain ⟨f, v, ks⟩ := x
  apply Q4q
  refine a6q (f0q (by rwa [b3q])) ⟨i, rfl, _, _, _, hx1, i, rfl, _, _, _, hx1, _, hxc, a2q rfl ?_⟩
  rw [wr1 hi hlen]
  exact ih
theorem a0wq (t : Tm) : XC pg 54 [.dat t.da, .dat t.da] [] (B true) [] := by
 induction t using Tm.ind with
 | h f v ks ih =>
  apply a6oq
  exact a2q H7q (a2q H7q ⟨_, a9Dq ks ih, a2q rfl ⟨rfl, rfl⟩⟩)
mutual
def Tm.mkT : Nat → Tm → Tm
 | k, .mk _ _ ks => .mk k ((k + 1 : Nat) : Int) (Tm.mkL (k + 2) ks)
def Tm.mkL : Nat → List Tm → List Tm
 | _, [] => []
 | k, t :: r => Tm.mkT k t :: Tm.mkL (k + 2 + 2 * t.cn) r
end
theorem wrN {k : Nat} (hk : k ≤ 281474976710656) (d : Nat) (hd : d ≤ 1000) : IntKind.wrap .i64 ((k : Int) + (d : Int)) = ((k + d : Nat) : Int) := by
 rw [wrI (by omega) (by omega)]; omega
theorem f7q {α : Type} {P : List α} {x : α} {R : List α} : (P ++ x :: R)[P.length]? = some x := by simp
theorem b5q {α : Type} {P : List α} {x y : α} {R : List α} : (P ++ x :: R).set P.length y = P ++ y :: R := by simp
theorem Tm.len_cns (l : List Tm) : l.length ≤ Tm.cns l := by
 rw [Tm.cns_cnL]; exact g2q _ _
theorem a18q : ∀ (l : List Tm), (∀ t ∈ l, ∀ k : Nat, k + 2 * t.cn ≤ 10000000000000 → XC pg 76 [.one (.ol 2000), Z (k : Int)] [(2000, .mt 30 3 (Tm.das t.ks))] (Z ((k + 2 * t.cn : Nat) : Int)) [(2000, .mt 30 3 (Tm.das (Tm.mkL k t.ks)))]) →
  ∀ (P : List (List Da)) (k : Nat), P.length + l.length ≤ 10000000000000 → k + 2 * Tm.cns l ≤ 10000000000000 → s4q (Z ((k + 2 * Tm.cns l : Nat) : Int)) [(2000, .mt 30 3 (P ++ Tm.das (Tm.mkL k l)))] (k : Int) (P.length : Int) (P ++ Tm.das l)
 | [], _, P, k, _, _ => by
  apply L2q
  refine a2q (decide_eq_false (by simp [Tm.das])) ⟨by simp [Tm.cns], by simp [Tm.mkL]⟩
 | .mk f v ks :: r, ih0, P, k, hl, hk => by
  have hcn : Tm.cns (.mk f v ks :: r) = 1 + Tm.cns ks + Tm.cns r := rfl
  rw [hcn] at hk
  simp only [List.length_cons] at hl
  have e1 : Tm.das (.mk f v ks :: r) = [.int .i64 f, .int .i64 v, .sl (Tm.das ks)] :: Tm.das r := rfl
  apply L2q
  rw [e1]
  have w1 : IntKind.wrap .i64 ((k : Int) + 1) = ((k + 1 : Nat) : Int) := wrN (by omega) 1 (by omega)
  have w2 : IntKind.wrap .i64 (((k + 1 : Nat) : Int) + 1) = ((k + 2 : Nat) : Int) := wrN (by omega) 1 (by omega)
  have w3 : IntKind.wrap .i64 ((P.length : Int) + 1) = ((P.length + 1 : Nat) : Int) := wrN (by omega) 1 (by omega)
  rw [w1, w2, w3]
  have hlen : ∀ y : List Da, P.length < (P ++ y :: Tm.das r).length := fun y => by simp
  have hm := ih0 (.mk f v ks) (by simp) (k + 2) (by simp only [Tm.cn]; omega)
  refine a6q (decide_eq_true (by simp; omega)) ⟨P.length, rfl, ⟨hlen _⟩, P.length, rfl, _, _, _, f7q, P.length, rfl, ⟨by rw [b5q]; exact hlen _⟩, P.length, rfl, _, _, _, by rw [b5q]; exact f7q, P.length, rfl, ⟨by rw [b5q, b5q]; exact hlen _⟩, P.length, rfl, _, _, _, by rw [b5q, b5q]; exact f7q, fun _ _ _ => ⟨⟨rfl, rfl, rfl⟩, _, _, _, by rw [b5q, b5q]; exact f7q, ⟨fun y hy => ?_⟩, _, _, hm, ?_⟩⟩
  ·rw [Tm.das_map] at hy
   obtain ⟨t, _, rfl⟩ := List.mem_map.1 hy
   exact Tm.da_len t
  ·rw [b5q, b5q, b5q]
   have ih := a18q r (fun t ht => ih0 t (List.mem_cons_of_mem _ ht)) (P ++ [[.int .i64 (k : Int), .int .i64 ((k + 1 : Nat) : Int), .sl (Tm.das (Tm.mkL (k + 2) ks))]]) (k + 2 + 2 * Tm.cns ks) (by simp; omega) (by omega)
   have e2 : Tm.das (Tm.mkL k (.mk f v ks :: r)) = [.int .i64 (k : Int), .int .i64 ((k + 1 : Nat) : Int), .sl (Tm.das (Tm.mkL (k + 2) ks))] :: Tm.das (Tm.mkL (k + 2 + 2 * Tm.cns ks) r) := rfl
   have e3 : k + 2 * Tm.cns (.mk f v ks :: r) = k + 2 + 2 * Tm.cns ks + 2 * Tm.cns r := by rw [hcn]; omega
   rw [e2, e3]
   simpa [List.append_assoc, Tm.cn, Tm.ks] using ih
theorem O3q (t : Tm) : ∀ k : Nat, k + 2 * t.cn ≤ 10000000000000 → XC pg 76 [.one (.ol 2000), Z (k : Int)] [(2000, .mt 30 3 (Tm.das t.ks))] (Z ((k + 2 * t.cn : Nat) : Int)) [(2000, .mt 30 3 (Tm.das (Tm.mkL k t.ks)))] := by
 induction t using Tm.ind with
 | h f v ks ih =>
 intro k hk
 apply a3Cq
 have h1 := Tm.len_cns ks
 have h2 : (Tm.mk f v ks).cn = Tm.cns ks := rfl
 rw [h2] at hk ⊢
 have := a18q ks (fun t ht => ih t ht) [] k (by simp; omega) hk
 simpa [Tm.ks] using this
theorem a1hq : ∀ (l : List Tm), (∀ t ∈ l, ∀ k : Nat, k + 2 * t.cn ≤ 10000000000000 → XC pg 127 [L (Tm.das (Tm.mkL k t.ks)), Z (k : Int)] [] (Z ((k + 2 * t.cn : Nat) : Int)) []) →
  ∀ (P : List (List Da)) (k : Nat), P.length + l.length ≤ 10000000000000 → k + 2 * Tm.cns l ≤ 10000000000000 → s5q (Z ((k + 2 * Tm.cns l : Nat) : Int)) [] (P ++ Tm.das (Tm.mkL k l)) (k : Int) (P.length : Int)
 | [], _, P, k, _, _ => by
  apply K8q
  refine a2q (decide_eq_false (by simp [Tm.das, Tm.mkL])) ⟨by simp [Tm.cns], rfl⟩
 | .mk f v ks :: r, ih0, P, k, hl, hk => by
  have hcn : Tm.cns (.mk f v ks :: r) = 1 + Tm.cns ks + Tm.cns r := rfl
  rw [hcn] at hk
  simp only [List.length_cons] at hl
  have e2 : Tm.das (Tm.mkL k (.mk f v ks :: r)) = [.int .i64 (k : Int), .int .i64 ((k + 1 : Nat) : Int), .sl (Tm.das (Tm.mkL (k + 2) ks))] :: Tm.das (Tm.mkL (k + 2 + 2 * Tm.cns ks) r) := rfl
  apply K8q
  rw [e2]
  have w1 : IntKind.wrap .i64 ((k : Int) + 1) = ((k + 1 : Nat) : Int) := wrN (by omega) 1 (by omega)
  have w2 : IntKind.wrap .i64 (((k + 1 : Nat) : Int) + 1) = ((k + 2 : Nat) : Int) := wrN (by omega) 1 (by omega)
  have w3 : IntKind.wrap .i64 ((P.length : Int) + 1) = ((P.length + 1 : Nat) : Int) := wrN (by omega) 1 (by omega)
  rw [w1, w2, w3]
  have hm := ih0 (.mk f v ks) (by simp) (k + 2) (by simp only [Tm.cn]; omega)
  refine a6q (decide_eq_true (by simp; omega)) ⟨P.length, rfl, _, _, _, f7q, a2q (by simp) ⟨P.length, rfl, _, _, _, f7q, a2q (by simp) ⟨P.length, rfl, _, _, _, f7q, _, hm, a2q (decide_eq_false (by omega)) ?_⟩⟩⟩
  have ih := a1hq r (fun t ht => ih0 t (List.mem_cons_of_mem _ ht)) (P ++ [[.int .i64 (k : Int), .int .i64 ((k + 1 : Nat) : Int), .sl (Tm.das (Tm.mkL (k + 2) ks))]]) (k + 2 + 2 * Tm.cns ks) (by simp; omega) (by omega)
  have e3 : k + 2 * Tm.cns (.mk f v ks :: r) = k + 2 + 2 * Tm.cns ks + 2 * Tm.cns r := by rw [hcn]; omega
  rw [e3]
  simpa [List.append_assoc, Tm.cn, Tm.ks] using ih
theorem a1lq (t : Tm) : ∀ k : Nat, k + 2 * t.cn ≤ 10000000000000 → XC pg 127 [L (Tm.das (Tm.mkL k t.ks)), Z (k : Int)] [] (Z ((k + 2 * t.cn : Nat) : Int)) [] := by
 induction t using Tm.ind with
 | h f v ks ih =>
 intro k hk
 apply a3Fq
 have h1 := Tm.len_cns ks
 have h2 : (Tm.mk f v ks).cn = Tm.cns ks := rfl
 rw [h2] at hk ⊢
 have := a1hq ks (fun t ht => ih t ht) [] k (by simp; omega) hk
 simpa [Tm.ks] using this
theorem a7Xq (l : List Tm) (hc : Tm.cns l ≤ 1048576) (ih0 : ∀ t ∈ l, t.cn ≤ 1048576 → XC pg 133 [.dat t.da] [] (.agg [.d (.int .i64 t.f), .d (.int .i64 t.v), .ol 0]) [(0, .tr 30 3 (Tm.das t.ks))]) : XC pg 195 [L (Tm.das l)] [] (.one (.ol 0)) [(0, .tr 30 3 (Tm.das l))] := by
 have hl := Tm.cns_cnL l ▸ g2q Tm.cn l
 apply a5wq
 refine ⟨l.length, l.length, by rw [b3q], by rw [b3q], ⟨by omega, by omega, by omega⟩, ?_⟩
 have key := j8q (p := fun i => w5q (.one (.ol 0)) [(0, .tr 30 3 (Tm.das l))] (Tm.das l) (i : Int) ((Tm.das l).take i ++ List.replicate ((Tm.das l).length - i) [.int .i64 0, .int .i64 0, .sl []])) l.length ?_ ?_ 0 (Nat.zero_le _)
 ·rw [List.take_zero, List.nil_append, Nat.sub_zero, b3q] at key
  exact key
 ·apply P7q
  refine a2q (d9q (by rw [b3q]; exact Nat.le_refl _)) ⟨rfl, ?_⟩
  rw [a1rq rfl (by rw [b3q]; exact Nat.le_refl _)]
 ·intro i hi ih
  obtain ⟨x, hx⟩ := d0q hi
  have hx1 := n4q hx
  have hm := Tm.cns_cnL l ▸ i8q (cn := Tm.cn) (List.mem_of_getElem? hx)
  have hxc := ih0 x (List.mem_of_getElem? hx) (by omega)
  have hd := Tm.da_len x
  obtain ⟨f, v, ks⟩ := x
  apply P7q
  refine a6q (f0q (by rwa [b3q])) ⟨i, rfl, _, _, _, hx1, _, _, _, hxc, i, rfl, ⟨by rw [List.length_append, List.length_take, List.length_replicate, b3q]; omega⟩, i, by omega, _, _, _, a1qq rfl (by rwa [b3q]), ?_⟩
  rw [wr1 hi (by omega)]
  have he := a0dq (z := [.int .i64 0, .int .i64 0, .sl []]) (n := (Tm.das l).length) rfl hx1 hd rfl
  exact he ▸ ih
theorem Y0q (t : Tm) (hc : t.cn ≤ 1048576) : XC pg 133 [.dat t.da] [] (.agg [.d (.int .i64 t.f), .d (.int .i64 t.v), .ol 0]) [(0, .tr 30 3 (Tm.das t.ks))] := by
 induction t using Tm.ind with
 | h f v ks ih =>
  apply a6Nq
  exact ⟨_, a7Xq ks hc ih, rfl, rfl⟩
theorem a3Xq (f v : Int) (ks : List Tm) (hc : ks.length ≤ 1200000000000) : ∀ (q p : List Tm), ks = p ++ q → (∀ t ∈ q, XC pg 109 [.dat t.da] [] (.dat t.da) []) → y2q (.dat (Tm.mk f v ks).da) [] (p.length : Int) f v (Tm.das ks) 0 0 f v (Tm.das p)
 | [], p, e, _ => by
  subst e
  apply V0q
  rw [List.append_nil]
  exact a2q (decide_eq_false (by rw [b3q]; omega)) ⟨rfl, rfl⟩
 | t :: q, p, e, ih0 => by
  have hpl : p.length < ks.length := by rw [e]; simp
  have hx : (Tm.das ks)[p.length]? = some t.da := n4q (by rw [e]; exact f7q)
  have hcall := ih0 t (by simp)
  obtain ⟨g, u, ls⟩ := t
  apply V0q
  refine a6q (decide_eq_true (by rw [b3q]; omega)) ⟨p.length, rfl, _, _, _, hx, _, _, _, hcall, ⟨by rw [b3q]; simp; omega⟩, ?_⟩
  rw [wr1 hpl (by omega)]
  have ih := a3Xq f v ks hc q (p ++ [.mk g u ls]) (by rw [e]; simp) fun t ht => ih0 t (List.mem_cons_of_mem _ ht)
  have e2 : Tm.das (p ++ [.mk g u ls]) = Tm.das p ++ [[.int .i64 g, .int .i64 u, .sl (Tm.das ls)]] := by rw [Tm.das_map, Tm.das_map]; simp [Tm.da]
  rw [e2] at ih
  simpa [Tm.f, Tm.v, Tm.ks] using ih
theorem aaXq (t : Tm) (hc : t.cn ≤ 1200000000000) : XC pg 109 [.dat t.da] [] (.dat t.da) [] := by
 induction t using Tm.ind with
 | h f v ks ih =>
  have h1 := Tm.len_cns ks
  have h2 : (Tm.mk f v ks).cn = Tm.cns ks := rfl
  apply a6bq
  refine a3Xq f v ks (by omega) ks [] rfl fun t ht => ih t ht ?_
  have := i8q (cn := Tm.cn) ht
  rw [← Tm.cns_cnL] at this
  omega
theorem a0Qq (ks : List Tm) (hc : ks.length ≤ 1200000000000) : ∀ (q p : List Tm), ks = p ++ q → (∀ t ∈ q, XC pg 117 [.dat t.da] [] (.agg [.d (.int .i64 t.f), .d (.int .i64 t.v), .ol 0]) [(0, .tr 30 3 (Tm.das t.ks))]) → s1q (.one (.ol 0)) [(0, .tr 30 3 (Tm.das ks))] (Tm.das ks) (ks.length : Int) (p.length : Int) (Tm.das p)
 | [], p, e, _ => by
  subst e
  apply K7q
  rw [List.append_nil]
  exact a2q (decide_eq_false (by omega)) ⟨rfl, rfl⟩
 | t :: q, p, e, ih0 => by
  have hpl : p.length < ks.length := by rw [e]; simp
  have hx : (Tm.das ks)[p.length]? = some t.da := n4q (by rw [e]; exact f7q)
  have hcall := ih0 t (by simp)
  obtain ⟨g, u, ls⟩ := t
  apply K7q
  refine a6q (decide_eq_true (by omega)) ⟨p.length, rfl, _, _, _, hx, _, _, _, hcall, ⟨by rw [b3q]; simp; omega⟩, ?_⟩
  rw [wr1 hpl (by omega)]
  have ih := a0Qq ks hc q (p ++ [.mk g u ls]) (by rw [e]; simp) fun t ht => ih0 t (List.mem_cons_of_mem _ ht)
  have e2 : Tm.das (p ++ [.mk g u ls]) = Tm.das p ++ [[.int .i64 g, .int .i64 u, .sl (Tm.das ls)]] := by rw [Tm.das_map, Tm.das_map]; simp [Tm.da]
  rw [e2] at ih
  simpa [Tm.f, Tm.v, Tm.ks] using ih
theorem a8hq (t : Tm) (hc : t.cn ≤ 1200000000000) : XC pg 117 [.dat t.da] [] (.agg [.d (.int .i64 t.f), .d (.int .i64 t.v), .ol 0]) [(0, .tr 30 3 (Tm.das t.ks))] := by
 induction t using Tm.ind with
 | h f v ks ih =>
  have h1 := Tm.len_cns ks
  have h2 : (Tm.mk f v ks).cn = Tm.cns ks := rfl
  apply a42q
  refine ⟨_, a3tq ?_, rfl, rfl⟩
  rw [b3q]
  refine a0Qq ks (by omega) ks [] rfl fun t ht => ih t ht ?_
  have := i8q (cn := Tm.cn) ht
  rw [← Tm.cns_cnL] at this
  omega
theorem acKq (x : Li) (m : Int) (h0 : 0 ≤ m) (h1 : m ≤ 1048576) : XC pg 105 [.dat x.da, Z m] [] (Z (lft x.cn m)) [] := by
 obtain ⟨p, ⟨f, u, ks⟩, ⟨g, v, ms⟩⟩ := x
 apply a89q
 have hle := a2Aq (n := Tm.cn (.mk f u ks)) (l := m) (by omega)
 refine ⟨_, a0yq (.mk f u ks) m h0 h1, d2q (fun h => zw (agpq h h0)) fun h => ⟨_, a0yq (.mk g v ms) _ (by omega) (by omega), d2q (fun h2 => zw ?_) fun h2 => zw ?_⟩⟩
 ·have := a3qq h2 (by omega); rw [W9q (by omega)] at this; exact this
 ·rw [W9q (by omega)]; rfl
theorem abEq (x : Li) : XC pg 126 [.dat x.da, .dat x.da] [] (B true) [] := by
 obtain ⟨p, ⟨f, u, ks⟩, ⟨g, v, ms⟩⟩ := x
 apply a7Lq
 exact a2q abgq ⟨_, a0wq (.mk f u ks), a2q rfl ⟨_, a0wq (.mk g v ms), a2q rfl ⟨rfl, rfl⟩⟩⟩
theorem aarq (l : List Li) (left : Int) (h0 : 0 ≤ left) (h1 : left ≤ 1048576) : XC pg 45 [L (l.map Li.da), Z left] [] (Z (lft (cnL Li.cn l) left)) [] := by
 refine n6q fun hfit => ?_
 have hlen : l.length ≤ 281474976710656 := by have := hfit.one.len; simpa using this
 apply a6vq
 rw [List.length_map, wrI (by omega) (by omega)]
 refine d2q (fun h => ⟨?_, rfl⟩) fun h => ?_
 ·rw [lft, if_pos (by have := g2q Li.cn l; omega)]
 ·have key := j8q (p := fun i => ∀ m : Int, 0 ≤ m → m ≤ 1048576 → z1q (Z (lft ((l.drop i).map Li.cn).sum m)) [] (l.map Li.da) m (i : Int)) l.length ?_ ?_ 0 (Nat.zero_le _)
  ·have := key (left - l.length) (by omega) (by omega)
   have e : lft ((l.drop 0).map Li.cn).sum (left - l.length) = lft (cnL Li.cn l) left := by
    rw [List.drop_zero, cnL]; unfold lft; split <;> split <;> omega
   rw [e] at this
   exact this
  ·intro m hm0 hm1
   apply U4q
   refine a2q (d9q (by simp)) ⟨?_, rfl⟩
   simp [lft]; omega
  ·intro i hi ih m hm0 hm1
   obtain ⟨x, hx⟩ := d0q hi
   have hx1 := i4q (g := Li.da) hx
   have hxc := acKq x m hm0 hm1
   have hdr : ((l.drop i).map Li.cn).sum = Li.cn x + ((l.drop (i + 1)).map Li.cn).sum := by
    obtain ⟨hl, e⟩ := List.getElem?_eq_some_iff.1 hx
    rw [List.drop_eq_getElem_cons hl, e]; simp
   have hle := a2Aq (n := Li.cn x) (l := m) (by omega)
   rw [hdr]
   generalize Li.cn x = cx at *
   obtain ⟨p, ⟨f, v, ks⟩, ⟨g, u, ms⟩⟩ := x
   apply U4q
   refine a6q (f0q (by simpa using hi)) ⟨i, rfl, _, _, _, _, _, _, _, hx1, _, hxc, ?_⟩
   refine d2q (fun h => ⟨?_, rfl⟩) fun h => ?_
   ·have := a3aq h hm0
    rw [show lft (cx + ((l.drop (i + 1)).map Li.cn).sum) m = -1 by unfold lft at h ⊢; split at h <;> split <;> omega]
   ·rw [wr1 hi hlen, ← W9q (by omega)]
    exact ih _ (by omega) (by omega)
theorem abbq (l : List Li) : XC pg 56 [L (l.map Li.da), L (l.map Li.da)] [] (B true) [] := by
 refine n6q fun hfit => ?_
 have hlen : l.length ≤ 281474976710656 := by have := hfit.one.len; simpa using this
 apply a72q
 refine a2q H7q ?_
 refine j8q (p := fun i => z5q (B true) [] (l.map Li.da) (l.map Li.da) (i : Int)) l.length ?_ (fun i hi ih => ?_) 0 (Nat.zero_le _)
 ·apply V5q
  exact a2q (d9q (by simp)) ⟨rfl, rfl⟩
 ·obtain ⟨x, hx⟩ := d0q hi
  have hx1 := i4q (g := Li.da) hx
  have hxc := abEq x
  obtain ⟨p, ⟨f, v, ks⟩, ⟨g, u, ms⟩⟩ := x
  apply V5q
  refine a6q (f0q (by simpa using hi)) ⟨i, rfl, _, _, _, _, _, _, _, hx1, i, rfl, _, _, _, _, _, _, _, hx1, _, hxc, a2q rfl ?_⟩
  rw [wr1 hi hlen]
  exact ih
theorem a7Sq (x : Cl) (m : Int) (h0 : 0 ≤ m) (h1 : m ≤ 1048576) : XC pg 10 [.dat x.da, Z m] [] (Z (lft x.cn m)) [] := by
 apply a4Gq
 exact ⟨_, aarq x.ls m h0 h1, d2q (fun h => zw (a3qq h h0)) fun _ => ⟨rfl, rfl⟩⟩
theorem a1Xq (x : Cl) : XC pg 17 [.dat x.da, .dat x.da] [] (B true) [] := by
 apply a4tq
 exact ⟨_, abbq x.ls, a2q rfl ⟨rfl, rfl⟩⟩
def mkLi (k : Nat) (x : Li) : Li := ⟨decide (Int.tmod (k : Int) 3 = 0), .mk ((k + 1 : Nat) : Int) ((k + 2 : Nat) : Int) (Tm.mkL (k + 3) x.l.ks), .mk ((k + 3 + 2 * x.l.cn : Nat) : Int) ((k + 4 + 2 * x.l.cn : Nat) : Int) (Tm.mkL (k + 5 + 2 * x.l.cn) x.r.ks)⟩
def L3q : Nat → List Li → List Li
 | _, [] => []
 | k, x :: r => mkLi k x :: L3q (k + 5 + 2 * x.cn) r
def mkN : List Li → Nat
 | [] => 0
 | x :: r => 5 + 2 * x.cn + mkN r
theorem ad7q (l : List Li) : mkN l ≤ 5 * cnL Li.cn l := by
 induction l with
 | nil => simp [mkN]
 | cons x r ih => simp only [mkN, cnL, List.length_cons, List.map_cons, List.sum_cons] at ih ⊢; omega
theorem X9q (l : List Tm) : ∀ y ∈ Tm.das l, y.length = 3 := by
 intro y hy
 rw [Tm.das_map] at hy
 obtain ⟨t, _, rfl⟩ := List.mem_map.1 hy
 exact Tm.da_len t
theorem a2aq : ∀ (l : List Li) (P : List (List Da)) (k : Nat), P.length + l.length ≤ 10000000000000 → k + mkN l ≤ 10000000000000 → u5q (Z ((k + mkN l : Nat) : Int)) [(2000, .mt 85 7 (P ++ (L3q k l).map Li.da))] (k : Int) (P.length : Int) (P ++ l.map Li.da)
 | [], P, k, _, _ => by
  apply M3q
  exact a2q (decide_eq_false (by simp)) ⟨by simp [mkN], by simp [L3q]⟩
 | ⟨b, .mk f v ks, .mk g u ms⟩ :: r, P, k, hl, hk => by
  have hN : mkN (⟨b, .mk f v ks, .mk g u ms⟩ :: r) = 5 + 2 * (Tm.cns ks + Tm.cns ms) + mkN r := rfl
  rw [hN] at hk
  simp only [List.length_cons] at hl
  have e1 : (⟨b, .mk f v ks, .mk g u ms⟩ :: r : List Li).map Li.da = [.bool b, .int .i64 f, .int .i64 v, .sl (Tm.das ks), .int .i64 g, .int .i64 u, .sl (Tm.das ms)] :: r.map Li.da := rfl
  apply M3q
  rw [e1]
  have w1 : IntKind.wrap .i64 ((k : Int) + 1) = ((k + 1 : Nat) : Int) := wrN (by omega) 1 (by omega)
  have w2 : IntKind.wrap .i64 (((k + 1 : Nat) : Int) + 1) = ((k + 2 : Nat) : Int) := wrN (by omega) 1 (by omega)
  have w3 : IntKind.wrap .i64 (((k + 2 : Nat) : Int) + 1) = ((k + 3 : Nat) : Int) := wrN (by omega) 1 (by omega)
  have w4 : IntKind.wrap .i64 (((k + 3 + 2 * Tm.cns ks : Nat) : Int) + 1) = ((k + 4 + 2 * Tm.cns ks : Nat) : Int) := by rw [wrI (by omega) (by omega)]; omega
  have w5 : IntKind.wrap .i64 (((k + 4 + 2 * Tm.cns ks : Nat) : Int) + 1) = ((k + 5 + 2 * Tm.cns ks : Nat) : Int) := by rw [wrI (by omega) (by omega)]; omega
  have wp : IntKind.wrap .i64 ((P.length : Int) + 1) = ((P.length + 1 : Nat) : Int) := wrN (by omega) 1 (by omega)
  rw [w1, w2, w3, wp]
  have hlen : ∀ y : List Da, P.length < (P ++ y :: r.map Li.da).length := fun y => by simp
  have hm1 : XC pg 76 [.one (.ol 2000), Z ((k + 3 : Nat) : Int)] [(2000, .mt 30 3 (Tm.das ks))] (Z ((k + 3 + 2 * Tm.cns ks : Nat) : Int)) [(2000, .mt 30 3 (Tm.das (Tm.mkL (k + 3) ks)))] := O3q (.mk f v ks) (k + 3) (by simp only [Tm.cn]; omega)
  have hm2 : XC pg 76 [.one (.ol 2000), Z (IntKind.wrap .i64 (IntKind.wrap .i64 (((k + 3 + 2 * Tm.cns ks : Nat) : Int) + 1) + 1))] [(2000, .mt 30 3 (Tm.das ms))] (Z ((k + 5 + 2 * Tm.cns ks + 2 * Tm.cns ms : Nat) : Int)) [(2000, .mt 30 3 (Tm.das (Tm.mkL (k + 5 + 2 * Tm.cns ks) ms)))] := by
   rw [w4, w5]
   exact O3q (.mk g u ms) (k + 5 + 2 * Tm.cns ks) (by simp only [Tm.cn]; omega)
  refine a6q (decide_eq_true (by simp; omega)) ⟨⟨by decide⟩, P.length, rfl, ⟨hlen _⟩, P.length, rfl, _, _, _, _, _, _, _, f7q,
   P.length, rfl, ⟨by rw [b5q]; exact hlen _⟩, P.length, rfl, _, _, _, _, _, _, _, by rw [b5q]; exact f7q,
   P.length, rfl, ⟨by rw [b5q, b5q]; exact hlen _⟩, P.length, rfl, _, _, _, _, _, _, _, by rw [b5q, b5q]; exact f7q,
   P.length, rfl, ⟨by rw [b5q, b5q, b5q]; exact hlen _⟩, P.length, rfl, _, _, _, _, _, _, _, by rw [b5q, b5q, b5q]; exact f7q, fun _ _ _ => ⟨⟨rfl, rfl, rfl⟩, _, _, _, _, _, _, _, by rw [b5q, b5q, b5q]; exact f7q, ⟨X9q _⟩, _, _, hm1,
   P.length, rfl, ⟨by rw [b5q, b5q, b5q, b5q]; exact hlen _⟩, P.length, rfl, _, _, _, _, _, _, _, by rw [b5q, b5q, b5q, b5q]; exact f7q,
   P.length, rfl, ⟨by rw [b5q, b5q, b5q, b5q, b5q]; exact hlen _⟩, P.length, rfl, _, _, _, _, _, _, _, by rw [b5q, b5q, b5q, b5q, b5q]; exact f7q,
   P.length, rfl, ⟨by rw [b5q, b5q, b5q, b5q, b5q, b5q]; exact hlen _⟩, P.length, rfl, _, _, _, _, _, _, _, by rw [b5q, b5q, b5q, b5q, b5q, b5q]; exact f7q, fun _ _ _ => ⟨⟨rfl, rfl, rfl⟩, _, _, _, _, _, _, _, by rw [b5q, b5q, b5q, b5q, b5q, b5q]; exact f7q, ⟨X9q _⟩, _, _, hm2, ?_⟩⟩⟩
  rw [b5q, b5q, b5q, b5q, b5q, b5q, b5q, w4]
  have ih := a2aq r (P ++ [[.bool (decide (Int.tmod (k : Int) 3 = 0)), .int .i64 ((k + 1 : Nat) : Int), .int .i64 ((k + 2 : Nat) : Int), .sl (Tm.das (Tm.mkL (k + 3) ks)), .int .i64 ((k + 3 + 2 * Tm.cns ks : Nat) : Int), .int .i64 ((k + 4 + 2 * Tm.cns ks : Nat) : Int), .sl (Tm.das (Tm.mkL (k + 5 + 2 * Tm.cns ks) ms))]]) (k + 5 + 2 * (Tm.cns ks + Tm.cns ms)) (by simp; omega) (by omega)
  have e2 : (L3q k (⟨b, .mk f v ks, .mk g u ms⟩ :: r)).map Li.da = [.bool (decide (Int.tmod (k : Int) 3 = 0)), .int .i64 ((k + 1 : Nat) : Int), .int .i64 ((k + 2 : Nat) : Int), .sl (Tm.das (Tm.mkL (k + 3) ks)), .int .i64 ((k + 3 + 2 * Tm.cns ks : Nat) : Int), .int .i64 ((k + 4 + 2 * Tm.cns ks : Nat) : Int), .sl (Tm.das (Tm.mkL (k + 5 + 2 * Tm.cns ks) ms))] :: (L3q (k + 5 + 2 * (Tm.cns ks + Tm.cns ms)) r).map Li.da := rfl
  rw [e2, hN, show k + (5 + 2 * (Tm.cns ks + Tm.cns ms) + mkN r) = k + 5 + 2 * (Tm.cns ks + Tm.cns ms) + mkN r by omega, show k + 5 + 2 * Tm.cns ks + 2 * Tm.cns ms = k + 5 + 2 * (Tm.cns ks + Tm.cns ms) by omega]
  have e4 : (P ++ [[Da.bool (decide (Int.tmod (k : Int) 3 = 0)), .int .i64 ((k + 1 : Nat) : Int), .int .i64 ((k + 2 : Nat) : Int), .sl (Tm.das (Tm.mkL (k + 3) ks)), .int .i64 ((k + 3 + 2 * Tm.cns ks : Nat) : Int), .int .i64 ((k + 4 + 2 * Tm.cns ks : Nat) : Int), .sl (Tm.das (Tm.mkL (k + 5 + 2 * Tm.cns ks) ms))]]).length = P.length + 1 := by simp
  rw [e4, List.append_assoc, List.append_assoc] at ih
  exact ih
theorem a08q (x : Cl) (k : Nat) (h1 : x.ls.length ≤ 1000000000000) (hk : k + mkN x.ls ≤ 10000000000000) : XC pg 19 [.agg [.ol 2000], Z (k : Int)] [(2000, .mt 85 7 (x.ls.map Li.da))] (Z ((k + mkN x.ls : Nat) : Int)) [(2000, .mt 85 7 ((L3q k x.ls).map Li.da))] := by
 apply a2Bq
 refine ⟨_, _, a3Zq ?_, rfl, rfl⟩
 have := a2aq x.ls [] k (by simp; omega) hk
 simpa using this
theorem a28q : ∀ (l : List Li) (P : List (List Da)) (k : Nat), P.length + l.length ≤ 10000000000000 → k + mkN l ≤ 10000000000000 → u8q (Z ((k + mkN l : Nat) : Int)) [] (P ++ (L3q k l).map Li.da) (k : Int) (P.length : Int)
 | [], P, k, _, _ => by
  apply N0q
  exact a2q (decide_eq_false (by simp [L3q])) ⟨by simp [mkN], rfl⟩
 | ⟨b, .mk f v ks, .mk g u ms⟩ :: r, P, k, hl, hk => by
  have hN : mkN (⟨b, .mk f v ks, .mk g u ms⟩ :: r) = 5 + 2 * (Tm.cns ks + Tm.cns ms) + mkN r := rfl
  rw [hN] at hk
  simp only [List.length_cons] at hl
  have e2 : (L3q k (⟨b, .mk f v ks, .mk g u ms⟩ :: r)).map Li.da = [.bool (decide (Int.tmod (k : Int) 3 = 0)), .int .i64 ((k + 1 : Nat) : Int), .int .i64 ((k + 2 : Nat) : Int), .sl (Tm.das (Tm.mkL (k + 3) ks)), .int .i64 ((k + 3 + 2 * Tm.cns ks : Nat) : Int), .int .i64 ((k + 4 + 2 * Tm.cns ks : Nat) : Int), .sl (Tm.das (Tm.mkL (k + 5 + 2 * Tm.cns ks) ms))] :: (L3q (k + 5 + 2 * (Tm.cns ks + Tm.cns ms)) r).map Li.da := rfl
  apply N0q
  rw [e2]
  have w1 : IntKind.wrap .i64 ((k : Int) + 1) = ((k + 1 : Nat) : Int) := wrN (by omega) 1 (by omega)
  have w2 : IntKind.wrap .i64 (((k + 1 : Nat) : Int) + 1) = ((k + 2 : Nat) : Int) := wrN (by omega) 1 (by omega)
  have w3 : IntKind.wrap .i64 (((k + 2 : Nat) : Int) + 1) = ((k + 3 : Nat) : Int) := wrN (by omega) 1 (by omega)
  have w4 : IntKind.wrap .i64 (((k + 3 + 2 * Tm.cns ks : Nat) : Int) + 1) = ((k + 4 + 2 * Tm.cns ks : Nat) : Int) := by rw [wrI (by omega) (by omega)]; omega
  have w5 : IntKind.wrap .i64 (((k + 4 + 2 * Tm.cns ks : Nat) : Int) + 1) = ((k + 5 + 2 * Tm.cns ks : Nat) : Int) := by rw [wrI (by omega) (by omega)]; omega
  have wp : IntKind.wrap .i64 ((P.length : Int) + 1) = ((P.length + 1 : Nat) : Int) := wrN (by omega) 1 (by omega)
  rw [w1, w2, w3, wp]
  have hm1 : XC pg 127 [L (Tm.das (Tm.mkL (k + 3) ks)), Z ((k + 3 : Nat) : Int)] [] (Z ((k + 3 + 2 * Tm.cns ks : Nat) : Int)) [] := a1lq (.mk f v ks) (k + 3) (by simp only [Tm.cn]; omega)
  have hm2 : XC pg 127 [L (Tm.das (Tm.mkL (k + 5 + 2 * Tm.cns ks) ms)), Z (IntKind.wrap .i64 (IntKind.wrap .i64 (((k + 3 + 2 * Tm.cns ks : Nat) : Int) + 1) + 1))] [] (Z ((k + 5 + 2 * Tm.cns ks + 2 * Tm.cns ms : Nat) : Int)) [] := by
   rw [w4, w5]
   exact a1lq (.mk g u ms) (k + 5 + 2 * Tm.cns ks) (by simp only [Tm.cn]; omega)
  refine a6q (decide_eq_true (by simp; omega)) ⟨P.length, rfl, _, _, _, _, _, _, _, f7q, ⟨by decide⟩, a2q (by simp) ⟨P.length, rfl, _, _, _, _, _, _, _, f7q, a2q (by simp) ⟨P.length, rfl, _, _, _, _, _, _, _, f7q, a2q (by simp)
   ⟨P.length, rfl, _, _, _, _, _, _, _, f7q, _, hm1, a2q (decide_eq_false (by omega)) ⟨P.length, rfl, _, _, _, _, _, _, _, f7q, a2q (by simp) ⟨P.length, rfl, _, _, _, _, _, _, _, f7q, a2q (by rw [w4]; simp) ⟨P.length, rfl, _, _, _, _, _, _, _, f7q, _, hm2, a2q (decide_eq_false (by omega)) ?_⟩⟩⟩⟩⟩⟩⟩
  have ih := a28q r (P ++ [[.bool (decide (Int.tmod (k : Int) 3 = 0)), .int .i64 ((k + 1 : Nat) : Int), .int .i64 ((k + 2 : Nat) : Int), .sl (Tm.das (Tm.mkL (k + 3) ks)), .int .i64 ((k + 3 + 2 * Tm.cns ks : Nat) : Int), .int .i64 ((k + 4 + 2 * Tm.cns ks : Nat) : Int), .sl (Tm.das (Tm.mkL (k + 5 + 2 * Tm.cns ks) ms))]]) (k + 5 + 2 * (Tm.cns ks + Tm.cns ms)) (by simp; omega) (by omega)
  rw [hN, show k + (5 + 2 * (Tm.cns ks + Tm.cns ms) + mkN r) = k + 5 + 2 * (Tm.cns ks + Tm.cns ms) + mkN r by omega, show k + 5 + 2 * Tm.cns ks + 2 * Tm.cns ms = k + 5 + 2 * (Tm.cns ks + Tm.cns ms) by omega]
  have e4 : (P ++ [[Da.bool (decide (Int.tmod (k : Int) 3 = 0)), .int .i64 ((k + 1 : Nat) : Int), .int .i64 ((k + 2 : Nat) : Int), .sl (Tm.das (Tm.mkL (k + 3) ks)), .int .i64 ((k + 3 + 2 * Tm.cns ks : Nat) : Int), .int .i64 ((k + 4 + 2 * Tm.cns ks : Nat) : Int), .sl (Tm.das (Tm.mkL (k + 5 + 2 * Tm.cns ks) ms))]]).length = P.length + 1 := by simp
  rw [e4, List.append_assoc] at ih
  exact ih
theorem a5lq (x : Cl) (k : Nat) (h1 : x.ls.length ≤ 1000000000000) (hk : k + mkN x.ls ≤ 10000000000000) : XC pg 30 [.dat [.sl ((L3q k x.ls).map Li.da)], Z (k : Int)] [] (Z ((k + mkN x.ls : Nat) : Int)) [] := by
 apply a32q
 refine ⟨_, a4kq ?_, a2q (decide_eq_false (by omega)) ⟨rfl, rfl⟩⟩
 have := a28q x.ls [] k (by simp; omega) hk
 simpa using this
theorem ab5q (x : Li) (hc : x.cn ≤ 1048576) : XC pg 114 [.dat x.da] [] (.agg [.d (.bool x.p), .d (.int .i64 x.l.f), .d (.int .i64 x.l.v), .ol 0, .d (.int .i64 x.r.f), .d (.int .i64 x.r.v), .ol 1]) [(0, .tr 30 3 (Tm.das x.l.ks)), (1, .tr 30 3 (Tm.das x.r.ks))] := by
 have h0 : x.cn = x.l.cn + x.r.cn := rfl
 have h1 := Y0q x.l (by omega)
 have h2 := Y0q x.r (by omega)
 obtain ⟨p, ⟨f, v, ks⟩, ⟨g, u, ms⟩⟩ := x
 apply a7Cq
 exact ⟨_, _, _, h1, _, _, _, h2, rfl, rfl⟩
theorem a9Eq (l : List Li) (hc : cnL Li.cn l ≤ 1048576) : XC pg 50 [L (l.map Li.da)] [] (.one (.ol 0)) [(0, .tr 85 7 (l.map Li.da))] := by
 have hl := g2q Li.cn l
 apply a6fq
 refine ⟨l.length, l.length, by simp, by simp, ⟨by omega, by omega, by omega⟩, ?_⟩
 have key := j8q (p := fun i => y4q (.one (.ol 0)) [(0, .tr 85 7 (l.map Li.da))] (l.map Li.da) (i : Int) ((l.map Li.da).take i ++ List.replicate ((l.map Li.da).length - i) [.bool false, .int .i64 0, .int .i64 0, .sl [], .int .i64 0, .int .i64 0, .sl []])) l.length ?_ ?_ 0 (Nat.zero_le _)
 ·rw [List.take_zero, List.nil_append, Nat.sub_zero, List.length_map] at key
  exact key
 ·apply U9q
  refine a2q (d9q (by simp)) ⟨rfl, ?_⟩
  rw [a1rq rfl (by simp)]
 ·intro i hi ih
  obtain ⟨x, hx⟩ := d0q hi
  have hx1 := i4q (g := Li.da) hx
  have hm := i8q (cn := Li.cn) (List.mem_of_getElem? hx)
  have hxc := ab5q x (by omega)
  have hd := Li.da_len x
  obtain ⟨p, ⟨f, v, ks⟩, ⟨g, u, ms⟩⟩ := x
  apply U9q
  refine a6q (f0q (by simpa using hi)) ⟨i, rfl, _, _, _, _, _, _, _, hx1, _, _, _, _, _, _, _, hxc, i, rfl, ⟨by simp; omega⟩, i, by omega, _, _, _, _, _, _, _, a1qq rfl (by simpa using hi), ?_⟩
  rw [wr1 hi (by omega)]
  have he := a0dq (z := [.bool false, .int .i64 0, .int .i64 0, .sl [], .int .i64 0, .int .i64 0, .sl []]) (n := (l.map Li.da).length) rfl hx1 hd rfl
  exact he ▸ ih
theorem a6mq (x : Cl) (hc : x.cn ≤ 1048576) : XC pg 13 [.dat x.da] [] (.agg [.ol 0]) [(0, .tr 85 7 (x.ls.map Li.da))] := by
 obtain ⟨ls⟩ := x
 apply a4Dq
 exact ⟨_, a9Eq ls hc, rfl, rfl⟩
theorem acFq (x : Sy) (m : Int) (h0 : 0 ≤ m) (h1 : m ≤ 1048576) : XC pg 44 [.dat x.da, Z m] [] (Z (lft x.cn m)) [] := by
 refine n6q fun hfit => ?_
 have hlen : x.nm.size ≤ 281474976710656 := hfit.dat.str
 apply a8iq
 exact d2q (fun h => zw (ahhq h0 h1 hlen h)) fun h => zw (agLq h0 h1 hlen h)
theorem ac3q (x : Sy) : XC pg 55 [.dat x.da, .dat x.da] [] (B true) [] := by
 apply a7Vq
 exact a2q ag6q (a2q H7q (a2q abgq ⟨rfl, rfl⟩))
theorem aaMq (l : List Sy) (left : Int) (h0 : 0 ≤ left) (h1 : left ≤ 1048576) : XC pg 9 [L (l.map Sy.da), Z left] [] (Z (lft (cnL Sy.cn l) left)) [] := by
 refine n6q fun hfit => ?_
 have hlen : l.length ≤ 281474976710656 := by have := hfit.one.len; simpa using this
 apply a65q
 rw [List.length_map, wrI (by omega) (by omega)]
 refine d2q (fun h => ⟨?_, rfl⟩) fun h => ?_
 ·rw [lft, if_pos (by have := g2q Sy.cn l; omega)]
 ·have key := j8q (p := fun i => ∀ m : Int, 0 ≤ m → m ≤ 1048576 → y7q (Z (lft ((l.drop i).map Sy.cn).sum m)) [] (l.map Sy.da) m (i : Int)) l.length ?_ ?_ 0 (Nat.zero_le _)
  ·have := key (left - l.length) (by omega) (by omega)
   have e : lft ((l.drop 0).map Sy.cn).sum (left - l.length) = lft (cnL Sy.cn l) left := by
    rw [List.drop_zero, cnL]; unfold lft; split <;> split <;> omega
   rw [e] at this
   exact this
  ·intro m hm0 hm1
   apply U7q
   refine a2q (d9q (by simp)) ⟨?_, rfl⟩
   simp [lft]; omega
  ·intro i hi ih m hm0 hm1
   obtain ⟨x, hx⟩ := d0q hi
   have hx1 := i4q (g := Sy.da) hx
   have hxc := acFq x m hm0 hm1
   have hdr : ((l.drop i).map Sy.cn).sum = Sy.cn x + ((l.drop (i + 1)).map Sy.cn).sum := by
    obtain ⟨hl, e⟩ := List.getElem?_eq_some_iff.1 hx
    rw [List.drop_eq_getElem_cons hl, e]; simp
   have hle := a2Aq (n := Sy.cn x) (l := m) (by omega)
   rw [hdr]
   generalize Sy.cn x = cx at *
   obtain ⟨nm, ar, ac⟩ := x
   apply U7q
   refine a6q (f0q (by simpa using hi)) ⟨i, rfl, _, _, _, hx1, _, hxc, ?_⟩
   refine d2q (fun h => ⟨?_, rfl⟩) fun h => ?_
   ·have := a3aq h hm0
    rw [show lft (cx + ((l.drop (i + 1)).map Sy.cn).sum) m = -1 by unfold lft at h ⊢; split at h <;> split <;> omega]
   ·rw [wr1 hi hlen, ← W9q (by omega)]
    exact ih _ (by omega) (by omega)
theorem aaJq (l : List Sy) : XC pg 16 [L (l.map Sy.da), L (l.map Sy.da)] [] (B true) [] := by
 refine n6q fun hfit => ?_
 have hlen : l.length ≤ 281474976710656 := by have := hfit.one.len; simpa using this
 apply a6iq
 refine a2q H7q ?_
 refine j8q (p := fun i => y9q (B true) [] (l.map Sy.da) (l.map Sy.da) (i : Int)) l.length ?_ (fun i hi ih => ?_) 0 (Nat.zero_le _)
 ·apply V2q
  exact a2q (d9q (by simp)) ⟨rfl, rfl⟩
 ·obtain ⟨x, hx⟩ := d0q hi
  have hx1 := i4q (g := Sy.da) hx
  have hxc := ac3q x
  obtain ⟨nm, ar, ac⟩ := x
  apply V2q
  refine a6q (f0q (by simpa using hi)) ⟨i, rfl, _, _, _, hx1, i, rfl, _, _, _, hx1, _, hxc, a2q rfl ?_⟩
  rw [wr1 hi hlen]
  exact ih
theorem aaFq (x : Bd) (m : Int) (h0 : 0 ≤ m) (h1 : m ≤ 1048576) : XC pg 63 [.dat x.da, Z m] [] (Z (lft x.cn m)) [] := by
 obtain ⟨v, ⟨f, u, ks⟩⟩ := x
 apply a6aq
 exact ⟨_, a0yq (.mk f u ks) m h0 h1, d2q (fun h => zw (a3qq h h0)) fun _ => ⟨rfl, rfl⟩⟩
theorem aaxq (x : Bd) : XC pg 75 [.dat x.da, .dat x.da] [] (B true) [] := by
 obtain ⟨v, ⟨f, u, ks⟩⟩ := x
 apply a6Yq
 exact a2q H7q ⟨_, a0wq (.mk f u ks), a2q rfl ⟨rfl, rfl⟩⟩
theorem aabq (l : List Bd) (left : Int) (h0 : 0 ≤ left) (h1 : left ≤ 1048576) : XC pg 24 [L (l.map Bd.da), Z left] [] (Z (lft (cnL Bd.cn l) left)) [] := by
 refine n6q fun hfit => ?_
 have hlen : l.length ≤ 281474976710656 := by have := hfit.one.len; simpa using this
 apply a5Uq
 rw [List.length_map, wrI (by omega) (by omega)]
 refine d2q (fun h => ⟨?_, rfl⟩) fun h => ?_
 ·rw [lft, if_pos (by have := g2q Bd.cn l; omega)]
 ·have key := j8q (p := fun i => ∀ m : Int, 0 ≤ m → m ≤ 1048576 → x0q (Z (lft ((l.drop i).map Bd.cn).sum m)) [] (l.map Bd.da) m (i : Int)) l.length ?_ ?_ 0 (Nat.zero_le _)
  ·have := key (left - l.length) (by omega) (by omega)
   have e : lft ((l.drop 0).map Bd.cn).sum (left - l.length) = lft (cnL Bd.cn l) left := by
    rw [List.drop_zero, cnL]; unfold lft; split <;> split <;> omega
   rw [e] at this
   exact this
  ·intro m hm0 hm1
   apply Q2q
   refine a2q (d9q (by simp)) ⟨?_, rfl⟩
   simp [lft]; omega
  ·intro i hi ih m hm0 hm1
   obtain ⟨x, hx⟩ := d0q hi
   have hx1 := i4q (g := Bd.da) hx
   have hxc := aaFq x m hm0 hm1
   have hdr : ((l.drop i).map Bd.cn).sum = Bd.cn x + ((l.drop (i + 1)).map Bd.cn).sum := by
    obtain ⟨hl, e⟩ := List.getElem?_eq_some_iff.1 hx
    rw [List.drop_eq_getElem_cons hl, e]; simp
   have hle := a2Aq (n := Bd.cn x) (l := m) (by omega)
   rw [hdr]
   generalize Bd.cn x = cx at *
   obtain ⟨v, ⟨f, u, ks⟩⟩ := x
   apply Q2q
   refine a6q (f0q (by simpa using hi)) ⟨i, rfl, _, _, _, _, hx1, _, hxc, ?_⟩
   refine d2q (fun h => ⟨?_, rfl⟩) fun h => ?_
   ·have := a3aq h hm0
    rw [show lft (cx + ((l.drop (i + 1)).map Bd.cn).sum) m = -1 by unfold lft at h ⊢; split at h <;> split <;> omega]
   ·rw [wr1 hi hlen, ← W9q (by omega)]
    exact ih _ (by omega) (by omega)
theorem a98q (l : List Bd) : XC pg 28 [L (l.map Bd.da), L (l.map Bd.da)] [] (B true) [] := by
 refine n6q fun hfit => ?_
 have hlen : l.length ≤ 281474976710656 := by have := hfit.one.len; simpa using this
 apply a52q
 refine a2q H7q ?_
 refine j8q (p := fun i => w7q (B true) [] (l.map Bd.da) (l.map Bd.da) (i : Int)) l.length ?_ (fun i hi ih => ?_) 0 (Nat.zero_le _)
 ·apply Q1q
  exact a2q (d9q (by simp)) ⟨rfl, rfl⟩
 ·obtain ⟨x, hx⟩ := d0q hi
  have hx1 := i4q (g := Bd.da) hx
  have hxc := aaxq x
  obtain ⟨v, ⟨f, u, ks⟩⟩ := x
  apply Q1q
  refine a6q (f0q (by simpa using hi)) ⟨i, rfl, _, _, _, _, hx1, i, rfl, _, _, _, _, hx1, _, hxc, a2q rfl ?_⟩
  rw [wr1 hi hlen]
  exact ih
theorem t4q {α : Type} {l : List α} {i : Nat} {x : α} (h : l[i]? = some x) : l.drop i = x :: l.drop (i + 1) := by
 obtain ⟨hl, e⟩ := List.getElem?_eq_some_iff.1 h
 rw [List.drop_eq_getElem_cons hl, e]
theorem O9q {α : Type} {l : List α} : l.drop l.length = [] := by simp
theorem bF {b : Bool} (h : ¬ b = true) : B false = B b ∧ ([] : List (Nat × Ob)) = [] := ⟨by rw [Bool.eq_false_iff.2 h], rfl⟩
theorem bE {a b : Bool} (h : a = b) : B a = B b ∧ ([] : List (Nat × Ob)) = [] := ⟨by rw [h], rfl⟩
theorem bT {b : Bool} (h : b = true) : B true = B b ∧ ([] : List (Nat × Ob)) = [] := ⟨by rw [h], rfl⟩
theorem S3q {a b : Int} (h : ¬ a ≠ b) : a = b := by omega
theorem ne_n {a b : Nat} (h : ¬ (a : Int) ≠ (b : Int)) : a = b := by omega
theorem wrM {k : Nat} (h : 0 < k) (hk : k ≤ 281474976710656) : IntKind.wrap .i64 ((k : Int) - 1) = ((k - 1 : Nat) : Int) := by
 rw [wrI (by omega) (by omega)]; omega
def u7q (x y : Int) (r : Int) : Int := if x < y then -1 else if x > y then 1 else r
theorem a2oq {x y r : Int} : u7q x y r = 0 ↔ x = y ∧ r = 0 := by
 unfold u7q
 split
 ·omega
 ·split <;> omega
theorem a6cq {x y r : Int} (h : x ≠ y) : decide (x < y) = decide (u7q x y r < 0) := by
 unfold u7q
 split
 ·simp [*]
 ·split
  ·simp; omega
  ·omega
theorem W4q {x y r : Int} (h : x = y) : u7q x y r = r := by unfold u7q; simp [h]
mutual
def Tm.cmp : Tm → Tm → Int
 | .mk f v ks, .mk g u ls => u7q f g (u7q v u (u7q ks.length ls.length (Tm.cmps ks ls)))
def Tm.cmps : List Tm → List Tm → Int
 | t :: r, u :: s => if Tm.cmp t u = 0 then Tm.cmps r s else Tm.cmp t u
 | _, _ => 0
end
theorem Tm.cmp_mk {f v g u : Int} {ks ls : List Tm} : Tm.cmp (.mk f v ks) (.mk g u ls) = u7q f g (u7q v u (u7q ks.length ls.length (Tm.cmps ks ls))) := rfl
theorem Tm.cmp0 {f v g u : Int} {ks ls : List Tm} : Tm.cmp (.mk f v ks) (.mk g u ls) = 0 ↔ f = g ∧ v = u ∧ ks.length = ls.length ∧ Tm.cmps ks ls = 0 := by
 rw [Tm.cmp_mk, a2oq, a2oq, a2oq]; omega
theorem Tm.cmps_nil : Tm.cmps [] [] = 0 := by simp [Tm.cmps]
theorem Tm.cmps_cons {t u : Tm} {r s : List Tm} : Tm.cmps (t :: r) (u :: s) = if Tm.cmp t u = 0 then Tm.cmps r s else Tm.cmp t u := by simp [Tm.cmps]
theorem Tm.cmps_end {ks ls : List Tm} (h : ks.length = ls.length) : Tm.cmps (ks.drop ks.length) (ls.drop ks.length) = 0 := by
 rw [O9q, h, O9q, Tm.cmps_nil]
def Li.cmp (a b : Li) : Int := if a.p = b.p then (if Tm.cmp a.l b.l = 0 then Tm.cmp a.r b.r else Tm.cmp a.l b.l) else if b.p then -1 else 1
def inR (x lo hi : Int) : Bool := decide (lo ≤ x) && decide (x ≤ hi)
theorem A0q (x lo hi : Int) : XC pg 64 [Z x, Z lo, Z hi] [] (B (inR x lo hi)) [] := by
 apply a8Sq
 exact d2q (fun h => bE (by simp [inR, h])) fun h => bE (by simp [inR, h])
theorem C9q (x lo hi : Int) : XC pg 134 [Z x, Z lo, Z hi] [] (B (inR x lo hi)) [] := by
 apply a8Yq
 exact d2q (fun h => bE (by simp [inR, h])) fun h => bE (by simp [inR, h])
theorem abGq (t : Tm) : XC pg 100 [.dat t.da] [] (B (decide (t.f = -1))) [] := by
 obtain ⟨f, v, ks⟩ := t
 apply a1Yq
 exact ⟨rfl, rfl⟩
theorem F7q (a b : Tm) : XC pg 78 [.dat a.da, .dat b.da] [] (B (decide (Tm.cmp a b = 0))) [] := by
 induction a using Tm.ind generalizing b with
 | h f v ks ih =>
 obtain ⟨g, u, ls⟩ := b
 refine n6q fun hfit => ?_
 have hlen : ks.length ≤ 281474976710656 := by have := hfit.dat.tail.tail.len; rwa [b3q] at this
 apply a4wq
 rw [b3q, b3q]
 refine d2q (fun h => bF (by simp [Tm.cmp0]; omega)) fun h1 => d2q (fun h => bF (by simp [Tm.cmp0]; omega)) fun h2 => d2q (fun h => bF (by simp [Tm.cmp0]; omega)) fun h3 => ?_
 have h1 := S3q h1; have h2 := S3q h2; have h3 := ne_n h3
 have key := j8q (p := fun i => v0q (B (decide (Tm.cmps (ks.drop i) (ls.drop i) = 0))) [] (i : Int) f v (Tm.das ks) g u (Tm.das ls)) ks.length ?_ (fun i hi ihl => ?_) 0 (Nat.zero_le _)
 ·have e : decide (Tm.cmp (.mk f v ks) (.mk g u ls) = 0) = decide (Tm.cmps (ks.drop 0) (ls.drop 0) = 0) := by
   simp [Tm.cmp0, h1, h2, h3]
  rw [e]; exact key
 ·apply M5q
  exact a2q (d9q (by rw [b3q]; exact Nat.le_refl _)) (bT (by rw [Tm.cmps_end h3]; rfl))
 ·obtain ⟨x, hx⟩ := d0q hi
  obtain ⟨y, hy⟩ := d0q (l := ls) (i := i) (by omega)
  have hx1 := n4q hx
  have hy1 := n4q hy
  have hxy := ih x (List.mem_of_getElem? hx) y
  rw [t4q hx, t4q hy, Tm.cmps_cons]
  obtain ⟨f', v', ks'⟩ := x
  obtain ⟨g', u', ls'⟩ := y
  apply M5q
  refine a6q (f0q (by rwa [b3q])) ⟨i, rfl, _, _, _, hx1, i, rfl, _, _, _, hy1, _, hxy, g8q (fun h => bF ?_) fun h => ?_⟩
  ·simp at h; simp [h]
  ·simp at h
   rw [wr1 hi hlen, if_pos h]
   exact ihl
theorem B2q (a b : Tm) : XC pg 154 [.dat a.da, .dat b.da] [] (B (decide (Tm.cmp a b < 0))) [] := by
 induction a using Tm.ind generalizing b with
 | h f v ks ih =>
 obtain ⟨g, u, ls⟩ := b
 refine n6q fun hfit => ?_
 have hlen : ks.length ≤ 281474976710656 := by have := hfit.dat.tail.tail.len; rwa [b3q] at this
 apply a62q
 rw [b3q, b3q, Tm.cmp_mk]
 refine d2q (fun h => bE (a6cq h)) fun h1 => ?_
 rw [W4q (S3q h1)]
 refine d2q (fun h => bE (a6cq h)) fun h2 => ?_
 rw [W4q (S3q h2)]
 refine d2q (fun h => bE (a6cq h)) fun h3 => ?_
 rw [W4q (S3q h3)]
 have h3 := ne_n h3
 have key := j8q (p := fun i => z2q (B (decide (Tm.cmps (ks.drop i) (ls.drop i) < 0))) [] (i : Int) f v (Tm.das ks) g u (Tm.das ls)) ks.length ?_ (fun i hi ihl => ?_) 0 (Nat.zero_le _)
 ·exact key
 ·apply V1q
  exact a2q (d9q (by rw [b3q]; exact Nat.le_refl _)) (bF (by rw [Tm.cmps_end h3]; simp))
 ·obtain ⟨x, hx⟩ := d0q hi
  obtain ⟨y, hy⟩ := d0q (l := ls) (i := i) (by omega)
  have hx1 := n4q hx
  have hy1 := n4q hy
  have hxy := ih x (List.mem_of_getElem? hx) y
  have hs := F7q x y
  rw [t4q hx, t4q hy, Tm.cmps_cons]
  obtain ⟨f', v', ks'⟩ := x
  obtain ⟨g', u', ls'⟩ := y
  apply V1q
  refine a6q (f0q (by rwa [b3q])) ⟨i, rfl, _, _, _, hx1, i, rfl, _, _, _, hy1, _, hs, g8q (fun h => ⟨i, rfl, _, _, _, hx1, i, rfl, _, _, _, hy1, _, hxy, bE ?_⟩) fun h => ?_⟩
  ·simp at h; simp [h]
  ·simp at h
   rw [wr1 hi hlen, if_pos h]
   exact ihl
theorem J1q (a b : Tm) : XC pg 143 [.dat a.da, .dat b.da] [] (Z (Tm.cmp a b)) [] := by
 induction a using Tm.ind generalizing b with
 | h f v ks ih =>
 obtain ⟨g, u, ls⟩ := b
 refine n6q fun hfit => ?_
 have hlen : ks.length ≤ 281474976710656 := by have := hfit.dat.tail.tail.len; rwa [b3q] at this
 apply a5Lq
 rw [b3q, b3q, Tm.cmp_mk]
 apply v9q
 refine a6q rfl ⟨0, rfl, ⟨by simp⟩, 0, rfl, _, _, rfl, ?_⟩
 refine d2q (fun h => ⟨by simp [u7q, h], rfl⟩) fun h1 => d2q (fun h => ⟨by unfold u7q; rw [if_neg (by omega), if_pos (by omega)], rfl⟩) fun h2 => ?_
 rw [W4q (by omega)]
 apply v9q
 refine a6q rfl ⟨1, rfl, ⟨by simp⟩, 1, rfl, _, _, rfl, ?_⟩
 refine d2q (fun h => ⟨by simp [u7q, h], rfl⟩) fun h3 => d2q (fun h => ⟨by unfold u7q; rw [if_neg (by omega), if_pos (by omega)], rfl⟩) fun h4 => ?_
 rw [W4q (by omega)]
 apply v9q
 refine a6q rfl ⟨2, rfl, ⟨by simp⟩, 2, rfl, _, _, rfl, ?_⟩
 refine d2q (fun h => ⟨by simp only [u7q, if_pos h], rfl⟩) fun h5 => d2q (fun h => ⟨by unfold u7q; rw [if_neg (by omega), if_pos (by omega)], rfl⟩) fun h6 => ?_
 rw [W4q (by omega)]
 apply v9q
 refine a2q rfl ?_
 have hl : ks.length = ls.length := by omega
 rw [b3q]
 have key := j8q (p := fun i => t9q (Z (Tm.cmps (ks.drop i) (ls.drop i))) [] (ks.length : Int) (i : Int) f v (Tm.das ks) g u (Tm.das ls)) ks.length ?_ (fun i hi ihl => ?_) 0 (Nat.zero_le _)
 ·exact key
 ·apply L9q
  exact a2q (d9q (Nat.le_refl _)) ⟨by rw [Tm.cmps_end hl], rfl⟩
 ·obtain ⟨x, hx⟩ := d0q hi
  obtain ⟨y, hy⟩ := d0q (l := ls) (i := i) (by omega)
  have hx1 := n4q hx
  have hy1 := n4q hy
  have hxy := ih x (List.mem_of_getElem? hx) y
  rw [t4q hx, t4q hy, Tm.cmps_cons]
  obtain ⟨f', v', ks'⟩ := x
  obtain ⟨g', u', ls'⟩ := y
  apply L9q
  refine a6q (f0q hi) ⟨i, rfl, _, _, _, hx1, i, rfl, _, _, _, hy1, _, hxy, d2q (fun h => ⟨by rw [if_neg h], rfl⟩) fun h => ?_⟩
  rw [wr1 hi hlen, if_pos (by omega)]
  exact ihl
theorem K3q (a b : Tm) : XC pg 171 [.dat a.da, .dat b.da] [] (B (decide (Tm.cmp a b < 0))) [] := by
 have h := J1q a b
 obtain ⟨f, v, ks⟩ := a; obtain ⟨g, u, ls⟩ := b
 apply a79q
 exact ⟨_, h, rfl, rfl⟩
theorem G6q (a b : Li) : XC pg 135 [.dat a.da, .dat b.da] [] (Z (Li.cmp a b)) [] := by
 have h1 := J1q a.l b.l
 have h2 := J1q a.r b.r
 obtain ⟨p, ⟨f, v, ks⟩, ⟨g, u, ls⟩⟩ := a
 obtain ⟨p', ⟨f', v', ks'⟩, ⟨g', u', ls'⟩⟩ := b
 have hc : p = p' → ∃ n, XC pg 143 [.dat (Tm.mk f v ks).da, .dat (Tm.mk f' v' ks').da] [] (Z n) [] ∧ ifB (decide (n ≠ 0)) (Z n = Z (Li.cmp ⟨p, .mk f v ks, .mk g u ls⟩ ⟨p', .mk f' v' ks', .mk g' u' ls'⟩) ∧ ([] : List (Nat × Ob)) = []) (∃ n1, XC pg 143 [.dat (Tm.mk g u ls).da, .dat (Tm.mk g' u' ls').da] [] (Z n1) [] ∧ Z n1 = Z (Li.cmp ⟨p, .mk f v ks, .mk g u ls⟩ ⟨p', .mk f' v' ks', .mk g' u' ls'⟩) ∧ ([] : List (Nat × Ob)) = []) := by
  rintro rfl
  refine ⟨_, h1, d2q (fun h => ⟨by simp only [Li.cmp, if_true, if_neg h], rfl⟩) fun h => ⟨_, h2, by simp only [Li.cmp, if_true, if_pos (S3q h)], rfl⟩⟩
 apply a2cq
 cases p <;> cases p'
 ·exact a6q rfl (a2q rfl (a2q rfl (hc rfl)))
 ·exact a6q rfl (a6q rfl ⟨rfl, rfl⟩)
 ·exact a2q rfl (a6q rfl (a6q rfl ⟨rfl, rfl⟩))
 ·exact a2q rfl (a6q rfl (a2q rfl (hc rfl)))
theorem a2Gq (a b : Li) : XC pg 116 [.dat a.da, .dat b.da] [] (B (decide (Li.cmp a b < 0))) [] := by
 have h := G6q a b
 obtain ⟨p, ⟨f, v, ks⟩, ⟨g, u, ls⟩⟩ := a
 obtain ⟨p', ⟨f', v', ks'⟩, ⟨g', u', ls'⟩⟩ := b
 apply a3zq
 exact ⟨_, h, rfl, rfl⟩
theorem Z7q (a b : Li) : XC pg 71 [.dat a.da, .dat b.da] [] (B (decide (Li.cmp a b = 0))) [] := by
 have h := G6q a b
 obtain ⟨p, ⟨f, v, ks⟩, ⟨g, u, ls⟩⟩ := a
 obtain ⟨p', ⟨f', v', ks'⟩, ⟨g', u', ls'⟩⟩ := b
 apply a5oq
 exact ⟨_, h, rfl, rfl⟩
theorem a1dq (a b : Li) : XC pg 107 [.dat a.da, .dat b.da] [] (B (decide (Li.cmp a b < 0))) [] := by
 have h1 := F7q a.l b.l
 have h2 := B2q a.l b.l
 have h3 := B2q a.r b.r
 obtain ⟨p, ⟨f, v, ks⟩, ⟨g, u, ls⟩⟩ := a
 obtain ⟨p', ⟨f', v', ks'⟩, ⟨g', u', ls'⟩⟩ := b
 apply a3xq
 refine d2q (fun h => bE ?_) fun h => ?_
 ·cases p <;> cases p' <;> simp_all [Li.cmp]
 ·have h : p = p' := by simpa using h
  subst h
  refine ⟨_, h1, g8q (fun h => ⟨_, h2, bE ?_⟩) fun h => ⟨_, h3, bE ?_⟩⟩
  ·have h : ¬ Tm.cmp (.mk f v ks) (.mk f' v' ks') = 0 := by simpa using h
   simp only [Li.cmp, if_true, if_neg h]
  ·have h : Tm.cmp (.mk f v ks) (.mk f' v' ks') = 0 := by simpa using h
   simp only [Li.cmp, if_true, if_pos h]
open Classical in
noncomputable def dB (p : Prop) : Bool := decide p
theorem dB_t {p : Prop} (h : p) : B true = B (dB p) ∧ ([] : List (Nat × Ob)) = [] := ⟨by simp [dB, h], rfl⟩
theorem o6q {p : Prop} (h : ¬ p) : B false = B (dB p) ∧ ([] : List (Nat × Ob)) = [] := ⟨by simp [dB, h], rfl⟩
theorem R7q {p : Prop} {b : Bool} (h : b = true ↔ p) : B b = B (dB p) ∧ ([] : List (Nat × Ob)) = [] := ⟨by congr 1; rw [Bool.eq_iff_iff]; simp [dB, h], rfl⟩
theorem l5q {p : Prop} : dB p = true ↔ p := by simp [dB]
theorem r6q {p : Prop} : dB p = false ↔ ¬ p := by simp [dB]
theorem n9q {x lo hi : Int} : inR x lo hi = true ↔ lo ≤ x ∧ x ≤ hi := by simp [inR]
theorem l4q {b : Bool} (h : (!b) = false) : b = true := by simpa using h
theorem q3q {b : Bool} (h : (!b) = true) : b = false := by simpa using h
def E5q (l : List Tm) : Nat := (l.map fun t => t.cn + 1).sum
theorem a1Eq (l : List Tm) : E5q l = Tm.cns l := by
 induction l with
 | nil => rfl
 | cons t r ih => simp [E5q, Tm.cns] at ih ⊢; omega
theorem Tm.cn_mk {f v : Int} {ks : List Tm} : Tm.cn (.mk f v ks) = Tm.cns ks := by simp [Tm.cn]
theorem adCq {ks : List Tm} {i : Nat} {x : Tm} (h : ks[i]? = some x) : x.cn + ks.length ≤ Tm.cns ks := Tm.cns_cnL ks ▸ i8q (cn := Tm.cn) (List.mem_of_getElem? h)
theorem abBq (ks : List Tm) : ks.length ≤ Tm.cns ks := Tm.cns_cnL ks ▸ g2q Tm.cn ks
theorem a61q (t : Tm) (hc : t.cn ≤ 1200000000000) : XC pg 167 [.dat t.da] [] (Z ((t.cn + 1 : Nat) : Int)) [] := by
 induction t using Tm.ind with
 | h f v ks ih =>
 rw [Tm.cn_mk] at hc ⊢
 have hl := abBq ks
 apply a7Wq
 have key := j8q (p := fun i => ∀ n : Nat, n + E5q (ks.drop i) ≤ 1200000000001 → A8q (Z ((n + E5q (ks.drop i) : Nat) : Int)) [] (n : Int) (i : Int) f v (Tm.das ks)) ks.length ?_ (fun i hi ihl => ?_) 0 (Nat.zero_le _)
 ·have := key 1 (by rw [List.drop_zero, a1Eq]; omega)
  rw [List.drop_zero, a1Eq, Nat.add_comm] at this
  exact this
 ·intro n hn
  apply Z1q
  exact a2q (d9q (by rw [b3q]; exact Nat.le_refl _)) ⟨by rw [O9q]; simp [E5q], rfl⟩
 ·intro n hn
  obtain ⟨x, hx⟩ := d0q hi
  have hx1 := n4q hx
  have hk := adCq hx
  have hxc := ih x (List.mem_of_getElem? hx) (by omega)
  have e : E5q (ks.drop i) = x.cn + 1 + E5q (ks.drop (i + 1)) := by rw [t4q hx]; simp [E5q]
  rw [e] at hn ⊢
  generalize x.cn = c at *
  obtain ⟨f', v', ks'⟩ := x
  apply Z1q
  refine a6q (f0q (by rwa [b3q])) ⟨i, rfl, _, _, _, hx1, _, hxc, ?_⟩
  rw [wr1 hi (by omega), wrI (by omega) (by omega)]
  have := ihl (n + (c + 1)) (by omega)
  rw [Nat.add_assoc] at this
  exact this
theorem a6pq (t : Tm) (hc : t.cn ≤ 1200000000000) (n : Nat) (hn : n + t.cn + 1 ≤ 2400000000002) : XC pg 176 [.dat t.da, .one (.clo 220 [(2000, 0)])] [(2000, .var [.d (.int .i64 (n : Int))])] (.tup []) [(2000, .var [.d (.int .i64 ((n + t.cn + 1 : Nat) : Int))])] := by
 induction t using Tm.ind generalizing n with
 | h f v ks ih =>
 rw [Tm.cn_mk] at hc hn ⊢
 have hl := abBq ks
 apply V8q
 refine ⟨((n + 1 : Nat) : Int), a5Wq ⟨rfl, by rw [wrI (by omega) (by omega)]; rfl⟩, ?_⟩
 have key := j8q (p := fun i => ∀ m : Nat, m + E5q (ks.drop i) ≤ 2400000000002 → k9q (.tup []) [(2000, .var [.d (.int .i64 ((m + E5q (ks.drop i) : Nat) : Int))])] (Tm.das ks) (ks.length : Int) (i : Int) (m : Int)) ks.length ?_ (fun i hi ihl => ?_) 0 (Nat.zero_le _)
 ·have := key (n + 1) (by rw [List.drop_zero, a1Eq]; omega)
  rw [List.drop_zero, a1Eq, show n + 1 + Tm.cns ks = n + Tm.cns ks + 1 by omega] at this
  rw [b3q]
  exact this
 ·intro m hm
  apply y0q
  exact a2q (d9q (Nat.le_refl _)) ⟨rfl, by rw [O9q]; simp [E5q]⟩
 ·intro m hm
  obtain ⟨x, hx⟩ := d0q hi
  have hx1 := n4q hx
  have hk := adCq hx
  have e : E5q (ks.drop i) = x.cn + 1 + E5q (ks.drop (i + 1)) := by rw [t4q hx]; simp [E5q]
  rw [e] at hm ⊢
  have hxc := ih x (List.mem_of_getElem? hx) (by omega) m (by omega)
  generalize x.cn = c at *
  obtain ⟨f', v', ks'⟩ := x
  apply y0q
  refine a6q (f0q hi) ⟨i, rfl, _, _, _, hx1, _, hxc, ?_⟩
  rw [wr1 hi (by omega)]
  have := ihl (m + c + 1) (by omega)
  rw [show m + c + 1 + E5q (ks.drop (i + 1)) = m + (c + 1 + E5q (ks.drop (i + 1))) by omega] at this
  exact this
theorem a6lq (t : Tm) (hc : t.cn ≤ 1200000000000) : XC pg 180 [.dat t.da] [] (Z ((t.cn + 1 : Nat) : Int)) [] := by
 have h := a6pq t hc 0 (by omega)
 rw [Nat.zero_add] at h
 obtain ⟨f, v, ks⟩ := t
 apply a8sq
 exact ⟨_, h, rfl, rfl⟩
def smB (c : UInt8) : Prop := 97 ≤ c.toNat ∧ c.toNat ≤ 122
def dgB (c : UInt8) : Prop := 48 ≤ c.toNat ∧ c.toNat ≤ 57
def acJq (s : ByteArray) (i : Nat) : Prop := ∀ c, s[i]? = some c → smB c ∨ (0 < i ∧ dgB c)
def nOk (s : ByteArray) : Prop := (∀ i, i < s.size → acJq s i) ∧ 1 ≤ s.size ∧ s.size ≤ 8
theorem a6Gq {t : ByteArray} {i : Nat} (h : i < t.size) : ∃ b, t[i]? = some b := ⟨t[i], by simp [h]⟩
theorem a5uq (s : ByteArray) : XC pg 211 [T s] [] (B (dB (nOk s))) [] := by
 refine n6q fun hfit => ?_
 have hlen : s.size ≤ 281474976710656 := hfit.one.str
 apply a6Mq
 have key := j8q (p := fun i => (∀ j, j < i → acJq s j) → m6q (B (dB (nOk s))) [] s (i : Int)) s.size ?_ (fun i hi ihl => ?_) 0 (Nat.zero_le _)
 ·exact key (by omega)
 ·intro hall
  apply U6q
  refine a2q (d9q (Nat.le_refl _)) ⟨_, A0q _ _ _, R7q ?_⟩
  rw [n9q]
  exact ⟨fun h => ⟨hall, by omega, by omega⟩, fun h => by have := h.2; omega⟩
 ·intro hall
  obtain ⟨b, hb⟩ := a6Gq hi
  have good : acJq s i → m6q (B (dB (nOk s))) [] s (IntKind.wrap .i64 ((i : Int) + 1)) := fun h => by
   rw [wr1 hi hlen]
   exact ihl fun j hj => by
    rcases Nat.lt_succ_iff_lt_or_eq.1 hj with hj | rfl
    ·exact hall j hj
    ·exact h
  have bad : ¬ (smB b ∨ (0 < i ∧ dgB b)) → B false = B (dB (nOk s)) ∧ ([] : List (Nat × Ob)) = [] := fun h => o6q fun hn => h (hn.1 i hi b hb)
  have rest : ¬ smB b → ifB (decide ((0 : Int) < (i : Int))) (∃ (n : Nat) (b1 : UInt8), (i : Int) = (n : Int) ∧ s[n]? = some b1 ∧ ifB (decide ((48 : Int) ≤ (b1.toNat : Int))) (∃ (n : Nat) (b2 : UInt8), (i : Int) = (n : Int) ∧ s[n]? = some b2 ∧ ifB (!decide ((b2.toNat : Int) ≤ 57)) (B false = B (dB (nOk s)) ∧ ([] : List (Nat × Ob)) = []) (m6q (B (dB (nOk s))) [] s (IntKind.wrap .i64 ((i : Int) + 1)))) (B false = B (dB (nOk s)) ∧ ([] : List (Nat × Ob)) = [])) (B false = B (dB (nOk s)) ∧ ([] : List (Nat × Ob)) = []) := by
   intro hns
   refine d2q (fun h0 => ⟨i, b, rfl, hb, d2q (fun h1 => ⟨i, b, rfl, hb, g8q (fun h2 => bad ?_) fun h2 => good ?_⟩) fun h1 => bad ?_⟩) fun h0 => bad ?_
   ·have h2 := q3q h2; simp at h2; exact fun h => h.elim hns fun h => by have := h.2; unfold dgB at this; omega
   ·have h2 := l4q h2; simp at h2; intro c hc; rw [hb] at hc; cases hc; right; unfold dgB; omega
   ·exact fun h => h.elim hns fun h => by have := h.2; unfold dgB at this; omega
   ·exact fun h => h.elim hns fun h => by omega
  apply U6q
  refine a6q (f0q hi) ⟨i, b, rfl, hb, d2q (fun h0 => ⟨i, b, rfl, hb, d2q (fun h1 => good ?_) fun h1 => ?_⟩) fun h0 => ?_⟩
  ·intro c hc; rw [hb] at hc; cases hc; unfold smB; omega
  ·exact rest (by unfold smB; omega)
  ·exact rest (by unfold smB; omega)
theorem a2Xq (c : Int) : XC pg 242 [I .u8 c] [] (B (inR c 97 122)) [] := by
 apply a4Lq
 exact d2q (fun h => bE (by simp [inR, h])) fun h => bE (by simp [inR, h])
theorem a9pq (c : Int) : XC pg 243 [I .u8 c] [] (B (inR c 48 57)) [] := by
 apply a5Gq
 exact d2q (fun h => bE (by simp [inR, h])) fun h => bE (by simp [inR, h])
theorem a58q (s : ByteArray) : XC pg 218 [T s] [] (B (dB (nOk s))) [] := by
 refine n6q fun hfit => ?_
 have hlen : s.size ≤ 281474976710656 := hfit.one.str
 apply a6Hq
 have key := j8q (p := fun i => (∀ j, j < i → ∀ c, s[j]? = some c → smB c ∨ dgB c) → p9q (B (dB (nOk s))) [] s (s.size : Int) (i : Int)) s.size ?_ (fun i hi ihl => ?_) 0 (Nat.zero_le _)
 ·exact key (by omega)
 ·intro hall
  apply U8q
  refine a2q (d9q (Nat.le_refl _)) ⟨_, C9q _ _ _, g8q (fun h => ?_) fun h => o6q ?_⟩
  ·rw [n9q] at h
   obtain ⟨b, hb⟩ := a6Gq (t := s) (i := 0) (by omega)
   refine ⟨0, b, rfl, hb, _, a2Xq _, R7q ?_⟩
   rw [n9q]
   constructor
   ·intro h1
    refine ⟨fun i hi c hc => ?_, by omega, by omega⟩
    rcases Nat.eq_zero_or_pos i with rfl | hp
    ·rw [hb] at hc; cases hc; left; unfold smB; omega
    ·rcases hall i hi c hc with h | h
     ·exact .inl h
     ·exact .inr ⟨hp, h⟩
   ·intro h1
    rcases h1.1 0 (by omega) b hb with h | h
    ·unfold smB at h; omega
    ·omega
  ·intro hn
   have := hn.2
   rw [Bool.eq_false_iff, Ne, n9q] at h
   omega
 ·intro hall
  obtain ⟨b, hb⟩ := a6Gq hi
  have good : smB b ∨ dgB b → p9q (B (dB (nOk s))) [] s (s.size : Int) (IntKind.wrap .i64 ((i : Int) + 1)) := fun h => by
   rw [wr1 hi hlen]
   exact ihl fun j hj c hc => by
    rcases Nat.lt_succ_iff_lt_or_eq.1 hj with hj | rfl
    ·exact hall j hj c hc
    ·rw [hb] at hc; cases hc; exact h
  apply U8q
  refine a6q (f0q hi) ⟨i, b, rfl, hb, _, a2Xq _, g8q (fun h1 => ⟨i, b, rfl, hb, _, a9pq _, g8q (fun h2 => o6q fun hn => ?_) fun h2 => good ?_⟩) fun h1 => good ?_⟩
  ·have h1 := q3q h1
   have h2 := q3q h2
   rw [Bool.eq_false_iff, Ne, n9q] at h1 h2
   rcases hn.1 i hi b hb with h | h
   ·unfold smB at h; omega
   ·unfold dgB at h; omega
  ·have h2 := l4q h2
   rw [n9q] at h2
   right; unfold dgB; omega
  ·have h1 := l4q h1
   rw [n9q] at h1
   left; unfold smB; omega
def B6q : List Sy → ByteArray → Nat → Int
 | [], _, _ => -1
 | x :: r, nm, i => if x.nm = nm then i else B6q r nm (i + 1)
theorem a76q (ss : List Sy) (nm : ByteArray) : XC pg 212 [L (ss.map Sy.da), T nm] [] (Z (B6q ss nm 0)) [] := by
 refine n6q fun hfit => ?_
 have hlen : ss.length ≤ 281474976710656 := by have := hfit.one.len; simpa using this
 apply a83q
 have key := j8q (p := fun i => A9q (Z (B6q (ss.drop i) nm i)) [] (ss.map Sy.da) nm (i : Int)) ss.length ?_ (fun i hi ihl => ?_) 0 (Nat.zero_le _)
 ·exact key
 ·apply Z5q
  exact a2q (d9q (by simp)) ⟨by rw [O9q]; rfl, rfl⟩
 ·obtain ⟨x, hx⟩ := d0q hi
  have hx1 := i4q (g := Sy.da) hx
  rw [t4q hx]
  apply Z5q
  refine a6q (f0q (by simpa using hi)) ⟨i, rfl, _, _, _, hx1, d2q (fun h => ⟨by simp [B6q, h], rfl⟩) fun h => ?_⟩
  rw [wr1 hi hlen, B6q, if_neg h]
  exact ihl
theorem a6Lq (ss : List Sy) (nm : ByteArray) : XC pg 219 [L (ss.map Sy.da), T nm] [] (Z (B6q ss nm 0)) [] := by
 refine n6q fun hfit => ?_
 have hlen : ss.length ≤ 281474976710656 := by have := hfit.one.len; simpa using this
 apply a8oq
 refine ⟨_, nm, D3q ?_, rfl, rfl⟩
 rw [List.length_map]
 have key := j8q (p := fun i => h5q (Z (B6q (ss.drop i) nm i)) [(2000, .var [.d (.str nm)])] (ss.map Sy.da) (ss.length : Int) (i : Int) nm) ss.length ?_ (fun i hi ihl => ?_) 0 (Nat.zero_le _)
 ·exact key
 ·apply p2q
  exact a2q (d9q (Nat.le_refl _)) ⟨by rw [O9q]; rfl, rfl⟩
 ·obtain ⟨x, hx⟩ := d0q hi
  have hx1 := i4q (g := Sy.da) hx
  rw [t4q hx]
  apply p2q
  refine a6q (f0q hi) ⟨i, rfl, _, _, _, hx1, _, nm, a5Xq ⟨rfl, rfl⟩, d2q (fun h => ⟨by simp [B6q, h], rfl⟩) fun h => ?_⟩
  rw [wr1 hi hlen, B6q, if_neg h]
  exact ihl
def aa6q (ss : List Sy) (i : Nat) : Prop := ∀ x, ss[i]? = some x → nOk x.nm ∧ B6q ss x.nm 0 = i ∧ (0 ≤ x.ar ∧ x.ar ≤ 3) ∧ (x.ac = true → x.ar = 2)
def X5q (ss : List Sy) : Prop := (∀ i, i < ss.length → aa6q ss i) ∧ (1 ≤ ss.length ∧ ss.length ≤ 8) ∧ ∃ x, ss[0]? = some x ∧ x.nm = ⟨#[116, 116]⟩ ∧ x.ar = 0
theorem a6dq (ss : List Sy) : XC pg 166 [L (ss.map Sy.da)] [] (B (dB (X5q ss))) [] := by
 refine n6q fun hfit => ?_
 have hlen : ss.length ≤ 281474976710656 := by have := hfit.one.len; simpa using this
 apply a7Dq
 have key := j8q (p := fun i => (∀ j, j < i → aa6q ss j) → r7q (B (dB (X5q ss))) [] (ss.map Sy.da) (i : Int)) ss.length ?_ (fun i hi ihl => ?_) 0 (Nat.zero_le _)
 ·exact key (by omega)
 ·intro hall
  apply X3q
  rw [List.length_map]
  refine a2q (d9q (Nat.le_refl _)) ⟨_, A0q _ _ _, g8q (fun h => ?_) fun h => o6q fun hn => ?_⟩
  ·rw [n9q] at h
   obtain ⟨x, hx⟩ := d0q (l := ss) (i := 0) (by omega)
   refine ⟨0, rfl, _, _, _, i4q (g := Sy.da) hx, R7q ?_⟩
   simp only [Bool.and_eq_true, decide_eq_true_eq]
   constructor
   ·rintro ⟨h1, h2, h3⟩
    exact ⟨hall, by omega, x, hx, h1, h2⟩
   ·rintro ⟨_, _, y, hy, h1, h2⟩
    rw [hx] at hy; cases hy
    refine ⟨h1, h2, ?_⟩
    cases hac : x.ac with
    | false => rfl
    | true => have := (hall 0 (by omega) x hx).2.2.2 hac; omega
  ·rw [Bool.eq_false_iff, Ne, n9q] at h
   have := hn.2.1
   omega
 ·intro hall
  obtain ⟨x, hx⟩ := d0q hi
  have hx1 := i4q (g := Sy.da) hx
  have bad : ¬ (nOk x.nm ∧ B6q ss x.nm 0 = i ∧ (0 ≤ x.ar ∧ x.ar ≤ 3) ∧ (x.ac = true → x.ar = 2)) → B false = B (dB (X5q ss)) ∧ ([] : List (Nat × Ob)) = [] := fun h => o6q fun hn => h (hn.1 i hi x hx)
  have good : (nOk x.nm ∧ B6q ss x.nm 0 = i ∧ (0 ≤ x.ar ∧ x.ar ≤ 3) ∧ (x.ac = true → x.ar = 2)) → r7q (B (dB (X5q ss))) [] (ss.map Sy.da) (IntKind.wrap .i64 ((i : Int) + 1)) := fun h => by
   rw [wr1 hi hlen]
   exact ihl fun j hj y hy => by
    rcases Nat.lt_succ_iff_lt_or_eq.1 hj with hj | rfl
    ·exact hall j hj y hy
    ·rw [hx] at hy; cases hy; exact h
  apply X3q
  refine a6q (f0q (by simpa using hi)) ⟨i, rfl, _, _, _, hx1, _, a5uq _, g8q (fun h1 => bad ?_) fun h1 => ⟨i, rfl, _, _, _, hx1, _, a76q ss _, d2q (fun h2 => bad ?_) fun h2 => ⟨i, rfl, _, _, _, hx1, _, A0q _ _ _, g8q (fun h3 => bad ?_) fun h3 => ⟨i, rfl, _, _, _, hx1, g8q (fun h4 => ⟨i, rfl, _, _, _, hx1, d2q (fun h5 => bad ?_) fun h5 => good ?_⟩) fun h4 => good ?_⟩⟩⟩⟩
  ·have := r6q.1 (q3q h1); exact fun h => this h.1
  ·exact fun h => h2 h.2.1
  ·have := q3q h3; rw [Bool.eq_false_iff, Ne, n9q] at this; exact fun h => this h.2.2.1
  ·exact fun h => h5 (h.2.2.2 h4)
  ·have n1 := l5q.1 (l4q h1); have n3 := l4q h3; rw [n9q] at n3
   exact ⟨n1, by omega, n3, fun _ => by omega⟩
  ·have n1 := l5q.1 (l4q h1); have n3 := l4q h3; rw [n9q] at n3
   exact ⟨n1, by omega, n3, fun h => by rw [h4] at h; cases h⟩
theorem a6Sq (ss : List Sy) : XC pg 179 [L (ss.map Sy.da)] [] (B (dB (X5q ss))) [] := by
 refine n6q fun hfit => ?_
 have hlen : ss.length ≤ 281474976710656 := by have := hfit.one.len; simpa using this
 apply a7Fq
 rw [List.length_map]
 have key := j8q (p := fun i => (∀ j, j < i → aa6q ss j) → r5q (B (dB (X5q ss))) [] (ss.map Sy.da) (ss.map Sy.da) (ss.length : Int) (i : Int)) ss.length ?_ (fun i hi ihl => ?_) 0 (Nat.zero_le _)
 ·exact key (by omega)
 ·intro hall
  apply Z9q
  rw [List.length_map]
  refine a2q (d9q (Nat.le_refl _)) ⟨_, C9q _ _ _, g8q (fun h => ?_) fun h => o6q fun hn => ?_⟩
  ·rw [n9q] at h
   obtain ⟨x, hx⟩ := d0q (l := ss) (i := 0) (by omega)
   have hx1 := i4q (g := Sy.da) hx
   refine ⟨0, rfl, _, _, _, hx1, d2q (fun h1 => ⟨0, rfl, _, _, _, hx1, R7q ?_⟩) fun h1 => o6q fun hn => ?_⟩
   ·simp only [decide_eq_true_eq]
    constructor
    ·intro h2; exact ⟨hall, by omega, x, hx, h1, h2⟩
    ·rintro ⟨_, _, y, hy, _, h2⟩
     rw [hx] at hy; cases hy; exact h2
   ·obtain ⟨_, _, y, hy, h2, _⟩ := hn
    rw [hx] at hy; cases hy; exact h1 h2
  ·rw [Bool.eq_false_iff, Ne, n9q] at h
   have := hn.2.1
   omega
 ·intro hall
  obtain ⟨x, hx⟩ := d0q hi
  have hx1 := i4q (g := Sy.da) hx
  have bad : ¬ (nOk x.nm ∧ B6q ss x.nm 0 = i ∧ (0 ≤ x.ar ∧ x.ar ≤ 3) ∧ (x.ac = true → x.ar = 2)) → B false = B (dB (X5q ss)) ∧ ([] : List (Nat × Ob)) = [] := fun h => o6q fun hn => h (hn.1 i hi x hx)
  have good : (nOk x.nm ∧ B6q ss x.nm 0 = i ∧ (0 ≤ x.ar ∧ x.ar ≤ 3) ∧ (x.ac = true → x.ar = 2)) → r5q (B (dB (X5q ss))) [] (ss.map Sy.da) (ss.map Sy.da) (ss.length : Int) (IntKind.wrap .i64 ((i : Int) + 1)) := fun h => by
   rw [wr1 hi hlen]
   exact ihl fun j hj y hy => by
    rcases Nat.lt_succ_iff_lt_or_eq.1 hj with hj | rfl
    ·exact hall j hj y hy
    ·rw [hx] at hy; cases hy; exact h
  apply Z9q
  refine a6q (f0q hi) ⟨i, rfl, _, _, _, hx1, _, a58q _, g8q (fun h1 => bad ?_) fun h1 => ⟨_, a6Lq ss _, d2q (fun h2 => bad ?_) fun h2 => ⟨_, C9q _ _ _, g8q (fun h3 => bad ?_) fun h3 => g8q (fun h4 => d2q (fun h5 => bad ?_) fun h5 => good ?_) fun h4 => good ?_⟩⟩⟩
  ·have := r6q.1 (q3q h1); exact fun h => this h.1
  ·exact fun h => h2 h.2.1
  ·have := q3q h3; rw [Bool.eq_false_iff, Ne, n9q] at this; exact fun h => this h.2.2.1
  ·exact fun h => h5 (h.2.2.2 h4)
  ·have n1 := l5q.1 (l4q h1); have n3 := l4q h3; rw [n9q] at n3
   exact ⟨n1, by omega, n3, fun _ => by omega⟩
  ·have n1 := l5q.1 (l4q h1); have n3 := l4q h3; rw [n9q] at n3
   exact ⟨n1, by omega, n3, fun h => by rw [h4] at h; cases h⟩
inductive TOk (ss : List Sy) : Tm → Prop
 | var {v : Int} : 0 ≤ v → v ≤ 99 → TOk ss (.mk (-1) v [])
 | app {f : Nat} {x : Sy} {ks : List Tm} : ss[f]? = some x → (x.ac = false → (ks.length : Int) = x.ar) → (x.ac = true → 2 ≤ ks.length) → (∀ (i : Nat) k, ks[i]? = some k → TOk ss k) →
   (x.ac = true → ∀ (i : Nat) k, ks[i]? = some k → k.f ≠ (f : Int) ∧ ∀ k', 0 < i → ks[i - 1]? = some k' → ¬ Tm.cmp k k' < 0) → TOk ss (.mk f 0 ks)
theorem TOk.var_iff {ss : List Sy} {v : Int} {ks : List Tm} : TOk ss (.mk (-1) v ks) ↔ (0 ≤ v ∧ v ≤ 99) ∧ ks = [] := by
 constructor
 ·intro h
  generalize hf : (-1 : Int) = f at h
  cases h with
  | var h1 h2 => exact ⟨⟨h1, h2⟩, rfl⟩
  | app => omega
 ·rintro ⟨⟨h1, h2⟩, rfl⟩; exact .var h1 h2
def KOk (ss : List Sy) (f : Int) (x : Sy) (ks : List Tm) (i : Nat) (k : Tm) : Prop := TOk ss k ∧ (x.ac = true → k.f ≠ f ∧ ∀ k', 0 < i → ks[i - 1]? = some k' → ¬ Tm.cmp k k' < 0)
theorem TOk.app_iff {ss : List Sy} {f v : Int} {ks : List Tm} (hf : f ≠ -1) : TOk ss (.mk f v ks) ↔ ∃ (n : Nat) (x : Sy), f = (n : Int) ∧ ss[n]? = some x ∧ v = 0 ∧ (x.ac = false → (ks.length : Int) = x.ar) ∧ (x.ac = true → 2 ≤ ks.length) ∧ ∀ (i : Nat) k, ks[i]? = some k → KOk ss f x ks i k := by
 constructor
 ·intro h
  cases h with
  | var => exact absurd rfl hf
  | app h1 h2 h3 h4 h5 => exact ⟨_, _, rfl, h1, rfl, h2, h3, fun i k hk => ⟨h4 i k hk, fun hac => h5 hac i k hk⟩⟩
 ·rintro ⟨n, x, rfl, h1, rfl, h2, h3, h4⟩
  exact .app h1 h2 h3 (fun i k hk => (h4 i k hk).1) fun hac i k hk => (h4 i k hk).2 hac
theorem aagq (ss : List Sy) (t : Tm) : XC pg 168 [L (ss.map Sy.da), .dat t.da] [] (B (dB (TOk ss t))) [] := by
 induction t using Tm.ind with
 | h f v ks ih =>
 refine n6q fun hfit => ?_
 have hls : ss.length ≤ 281474976710656 := by have := hfit.one.len; simpa using this
 have hlen : ks.length ≤ 281474976710656 := by have := hfit.tail.dat.tail.tail.len; rwa [b3q] at this
 apply a5zq
 rw [b3q, List.length_map, wrI (by omega) (by omega)]
 refine d2q (fun h => ?_) fun hf => ?_
 ·subst h
  refine ⟨_, A0q _ _ _, g8q (fun h => R7q ?_) fun h => o6q ?_⟩
  ·rw [n9q] at h
   rw [TOk.var_iff, decide_eq_true_eq]
   exact ⟨fun hk => ⟨h, List.length_eq_zero_iff.1 (by omega)⟩, fun hk => by rw [hk.2]; rfl⟩
  ·rw [Bool.eq_false_iff, Ne, n9q] at h
   rw [TOk.var_iff]
   exact fun hk => h hk.1
 ·refine ⟨_, A0q _ _ _, g8q (fun h => o6q ?_) fun h => ?_⟩
  ·have h := q3q h
   rw [Bool.eq_false_iff, Ne, n9q] at h
   rw [TOk.app_iff hf]
   rintro ⟨n, x, rfl, hx, _⟩
   have := (List.getElem?_eq_some_iff.1 hx).1
   omega
  ·have h := l4q h
   rw [n9q] at h
   obtain ⟨n, rfl⟩ := Int.eq_ofNat_of_zero_le h.1
   obtain ⟨x, hx⟩ := d0q (l := ss) (i := n) (by omega)
   have hx1 := i4q (g := Sy.da) hx
   have inv : TOk ss (.mk n v ks) ↔ v = 0 ∧ (x.ac = false → (ks.length : Int) = x.ar) ∧ (x.ac = true → 2 ≤ ks.length) ∧ ∀ (i : Nat) k, ks[i]? = some k → KOk ss n x ks i k := by
    rw [TOk.app_iff hf]
    constructor
    ·rintro ⟨m, y, e, hy, h1⟩
     have e : n = m := by omega
     subst e
     rw [hx] at hy; cases hy; exact h1
    ·intro h1; exact ⟨n, x, rfl, hx, h1⟩
   have loop : v = 0 → (x.ac = false → (ks.length : Int) = x.ar) → (x.ac = true → 2 ≤ ks.length) → h9q (B (dB (TOk ss (.mk n v ks)))) [] (ss.map Sy.da) 0 (n : Int) v (Tm.das ks) := by
    intro g1 g2 g3
    have key := j8q (p := fun i => (∀ (j : Nat) k, j < i → ks[j]? = some k → KOk ss n x ks j k) → h9q (B (dB (TOk ss (.mk n v ks)))) [] (ss.map Sy.da) (i : Int) (n : Int) v (Tm.das ks)) ks.length ?_ (fun i hi ihl => ?_) 0 (Nat.zero_le _)
    ·exact key fun j k hj => by omega
    ·intro hall
     apply Q6q
     exact a2q (d9q (by rw [b3q]; exact Nat.le_refl _)) (dB_t (inv.2 ⟨g1, g2, g3, fun i k hk => hall i k (List.getElem?_eq_some_iff.1 hk).1 hk⟩))
    ·intro hall
     obtain ⟨y, hy⟩ := d0q hi
     have hy1 := n4q hy
     have hyc := ih y (List.mem_of_getElem? hy)
     have hpr : 0 < i → ∃ z, ks[i - 1]? = some z := fun h => d0q (by omega)
     have bad : ¬ KOk ss n x ks i y → B false = B (dB (TOk ss (.mk n v ks))) ∧ ([] : List (Nat × Ob)) = [] := fun h => o6q fun hn => h ((inv.1 hn).2.2.2 i y hy)
     have good : KOk ss n x ks i y → h9q (B (dB (TOk ss (.mk n v ks)))) [] (ss.map Sy.da) (IntKind.wrap .i64 ((i : Int) + 1)) (n : Int) v (Tm.das ks) := fun h => by
      rw [wr1 hi hlen]
      exact ihl fun j k hj hk => by
       rcases Nat.lt_succ_iff_lt_or_eq.1 hj with hj | rfl
       ·exact hall j k hj hk
       ·rw [hy] at hk; cases hk; exact h
     have hcm := fun z => B2q y z
     obtain ⟨f', v', ks'⟩ := y
     have last : (x.ac = true → f' ≠ (n : Int) ∧ ∀ k', 0 < i → ks[i - 1]? = some k' → ¬ Tm.cmp (.mk f' v' ks') k' < 0) → ∃ b, XC pg 168 [L (ss.map Sy.da), .dat (Tm.mk f' v' ks').da] [] (B b) [] ∧ ifB (!b) (B false = B (dB (TOk ss (.mk n v ks))) ∧ ([] : List (Nat × Ob)) = []) (h9q (B (dB (TOk ss (.mk n v ks)))) [] (ss.map Sy.da) (IntKind.wrap .i64 ((i : Int) + 1)) (n : Int) v (Tm.das ks)) := by
      intro hk
      refine ⟨_, hyc, g8q (fun h => bad fun hh => ?_) fun h => good ?_⟩
      ·exact r6q.1 (q3q h) hh.1
      ·exact ⟨l5q.1 (l4q h), hk⟩
     apply Q6q
     refine a6q (f0q (by rwa [b3q])) ⟨n, rfl, _, _, _, hx1, g8q (fun hac => ⟨i, rfl, _, _, _, hy1, d2q (fun h1 => bad fun hh => (hh.2 hac).1 h1) fun h1 => d2q (fun h2 => ?_) fun h2 => ?_⟩) fun hac => ?_⟩
     ·have h2 : 0 < i := by omega
      obtain ⟨z, hz⟩ := hpr h2
      have hz1 := n4q hz
      have hc := hcm z
      refine ⟨i, rfl, _, _, _, hy1, i - 1, wrM h2 (by omega), ?_⟩
      obtain ⟨f2, v2, ks2⟩ := z
      refine ⟨_, _, _, hz1, _, hc, d2q (fun h3 => bad fun hh => (hh.2 hac).2 _ h2 hz h3) fun h3 => ⟨i, rfl, _, _, _, hy1, last fun _ => ⟨h1, fun k' _ hk' => ?_⟩⟩⟩
      rw [hz] at hk'; cases hk'; exact h3
     ·exact ⟨i, rfl, _, _, _, hy1, last fun _ => ⟨h1, fun k' h _ => by omega⟩⟩
     ·exact ⟨i, rfl, _, _, _, hy1, last fun h => by rw [hac] at h; cases h⟩
   refine d2q (fun h1 => o6q fun hn => h1 (inv.1 hn).1) fun h1 => ⟨n, rfl, _, _, _, hx1, g8q (fun h2 => ⟨n, rfl, _, _, _, hx1, d2q (fun h3 => o6q fun hn => h3 ((inv.1 hn).2.1 (q3q h2))) fun h3 => ⟨n, rfl, _, _, _, hx1, a2q (q3q h2) ?_⟩⟩) fun h2 => ⟨n, rfl, _, _, _, hx1, a6q (l4q h2) (d2q (fun h3 => o6q fun hn => ?_) fun h3 => ?_)⟩⟩
   ·exact loop (S3q h1) (fun _ => S3q h3) fun h => by rw [q3q h2] at h; cases h
   ·have := (inv.1 hn).2.2.1 (l4q h2); omega
   ·exact loop (S3q h1) (fun h => by rw [l4q h2] at h; cases h) fun _ => by omega
theorem abDq (ss : List Sy) (f : Int) : XC pg 161 [L (ss.map Sy.da), Z f] [] (B (inR f 0 ((ss.length : Int) - 1))) [] := by
 refine n6q fun hfit => ?_
 have hls : ss.length ≤ 281474976710656 := by have := hfit.one.len; simpa using this
 apply a25q
 rw [List.length_map, wrI (by omega) (by omega)]
 exact ⟨_, C9q _ _ _, rfl, rfl⟩
theorem ab2q (ss : List Sy) (t : Tm) : XC pg 181 [L (ss.map Sy.da), .dat t.da] [] (B (dB (TOk ss t))) [] := by
 induction t using Tm.ind with
 | h f v ks ih =>
 refine n6q fun hfit => ?_
 have hls : ss.length ≤ 281474976710656 := by have := hfit.one.len; simpa using this
 have hlen : ks.length ≤ 281474976710656 := by have := hfit.tail.dat.tail.tail.len; rwa [b3q] at this
 apply a66q
 rw [b3q]
 refine ⟨_, abGq (.mk f v ks), d2q (fun h => ?_) fun hf => ?_⟩
 ·have h : f = -1 := h
  subst h
  refine ⟨_, C9q _ _ _, g8q (fun h => R7q ?_) fun h => o6q ?_⟩
  ·rw [n9q] at h
   rw [TOk.var_iff, decide_eq_true_eq]
   exact ⟨fun hk => ⟨h, List.length_eq_zero_iff.1 (by omega)⟩, fun hk => by rw [hk.2]; rfl⟩
  ·rw [Bool.eq_false_iff, Ne, n9q] at h
   rw [TOk.var_iff]
   exact fun hk => h hk.1
 ·have hf : f ≠ -1 := hf
  refine ⟨_, abDq ss f, g8q (fun h => o6q ?_) fun h => ?_⟩
  ·have h := q3q h
   rw [Bool.eq_false_iff, Ne, n9q] at h
   rw [TOk.app_iff hf]
   rintro ⟨n, x, rfl, hx, _⟩
   have := (List.getElem?_eq_some_iff.1 hx).1
   omega
  ·have h := l4q h
   rw [n9q] at h
   obtain ⟨n, rfl⟩ := Int.eq_ofNat_of_zero_le h.1
   obtain ⟨x, hx⟩ := d0q (l := ss) (i := n) (by omega)
   have hx1 := i4q (g := Sy.da) hx
   have inv : TOk ss (.mk n v ks) ↔ v = 0 ∧ (x.ac = false → (ks.length : Int) = x.ar) ∧ (x.ac = true → 2 ≤ ks.length) ∧ ∀ (i : Nat) k, ks[i]? = some k → KOk ss n x ks i k := by
    rw [TOk.app_iff hf]
    constructor
    ·rintro ⟨m, y, e, hy, h1⟩
     have e : n = m := by omega
     subst e
     rw [hx] at hy; cases hy; exact h1
    ·intro h1; exact ⟨n, x, rfl, hx, h1⟩
   have loop : v = 0 → (x.ac = false → (ks.length : Int) = x.ar) → (x.ac = true → 2 ≤ ks.length) → j2q (B (dB (TOk ss (.mk n v ks)))) [] (ss.map Sy.da) (Tm.das ks) (ks.length : Int) 0 (n : Int) v (Tm.das ks) := by
    intro g1 g2 g3
    have key := j8q (p := fun i => (∀ (j : Nat) k, j < i → ks[j]? = some k → KOk ss n x ks j k) → j2q (B (dB (TOk ss (.mk n v ks)))) [] (ss.map Sy.da) (Tm.das ks) (ks.length : Int) (i : Int) (n : Int) v (Tm.das ks)) ks.length ?_ (fun i hi ihl => ?_) 0 (Nat.zero_le _)
    ·exact key fun j k hj => by omega
    ·intro hall
     apply U2q
     exact a2q (d9q (Nat.le_refl _)) (dB_t (inv.2 ⟨g1, g2, g3, fun i k hk => hall i k (List.getElem?_eq_some_iff.1 hk).1 hk⟩))
    ·intro hall
     obtain ⟨y, hy⟩ := d0q hi
     have hy1 := n4q hy
     have hyc := ih y (List.mem_of_getElem? hy)
     have hpr : 0 < i → ∃ z, ks[i - 1]? = some z := fun h => d0q (by omega)
     have bad : ¬ KOk ss n x ks i y → B false = B (dB (TOk ss (.mk n v ks))) ∧ ([] : List (Nat × Ob)) = [] := fun h => o6q fun hn => h ((inv.1 hn).2.2.2 i y hy)
     have good : KOk ss n x ks i y → j2q (B (dB (TOk ss (.mk n v ks)))) [] (ss.map Sy.da) (Tm.das ks) (ks.length : Int) (IntKind.wrap .i64 ((i : Int) + 1)) (n : Int) v (Tm.das ks) := fun h => by
      rw [wr1 hi hlen]
      exact ihl fun j k hj hk => by
       rcases Nat.lt_succ_iff_lt_or_eq.1 hj with hj | rfl
       ·exact hall j k hj hk
       ·rw [hy] at hk; cases hk; exact h
     have hcm := fun z => K3q y z
     obtain ⟨f', v', ks'⟩ := y
     apply U2q
     refine a6q (f0q hi) ⟨i, rfl, _, _, _, hy1, _, hyc, g8q (fun h => bad fun hh => r6q.1 (q3q h) hh.1) fun h0 => ⟨n, rfl, _, _, _, hx1, g8q (fun hac => d2q (fun h1 => bad fun hh => (hh.2 hac).1 h1) fun h1 => d2q (fun h2 => ?_) fun h2 => good ⟨l5q.1 (l4q h0), fun _ => ⟨h1, fun k' h _ => by omega⟩⟩) fun hac => good ⟨l5q.1 (l4q h0), fun h => by rw [hac] at h; cases h⟩⟩⟩
     have h2 : 0 < i := by omega
     obtain ⟨z, hz⟩ := hpr h2
     have hz1 := n4q hz
     have hc := hcm z
     refine ⟨i - 1, wrM h2 (by omega), ?_⟩
     obtain ⟨f2, v2, ks2⟩ := z
     refine ⟨_, _, _, hz1, _, hc, d2q (fun h3 => bad fun hh => (hh.2 hac).2 _ h2 hz h3) fun h3 => good ⟨l5q.1 (l4q h0), fun _ => ⟨h1, fun k' _ hk' => ?_⟩⟩⟩
     rw [hz] at hk'; cases hk'; exact h3
   refine d2q (fun h1 => o6q fun hn => h1 (inv.1 hn).1) fun h1 => ⟨n, rfl, _, _, _, hx1, g8q (fun h2 => ⟨n, rfl, _, _, _, hx1, d2q (fun h3 => o6q fun hn => h3 ((inv.1 hn).2.1 (q3q h2))) fun h3 => ⟨n, rfl, _, _, _, hx1, a2q (q3q h2) ?_⟩⟩) fun h2 => ⟨n, rfl, _, _, _, hx1, a6q (l4q h2) (d2q (fun h3 => o6q fun hn => ?_) fun h3 => ?_)⟩⟩
   ·exact loop (S3q h1) (fun _ => S3q h3) fun h => by rw [q3q h2] at h; cases h
   ·have := (inv.1 hn).2.2.1 (l4q h2); omega
   ·exact loop (S3q h1) (fun h => by rw [l4q h2] at h; cases h) fun _ => by omega
def TmOk (ss : List Sy) (t : Tm) : Prop := X5q ss ∧ t.cn + 1 ≤ 60 ∧ TOk ss t
def LiOk (ss : List Sy) (x : Li) : Prop := TmOk ss x.l ∧ TmOk ss x.r ∧ ¬ Tm.cmp x.l x.r < 0
def L5q (ss : List Sy) (c : Cl) : Prop := (∀ (i : Nat) x, c.ls[i]? = some x → LiOk ss x ∧ ∀ y, 0 < i → c.ls[i - 1]? = some y → Li.cmp y x < 0) ∧ c.ls.length ≤ 8
theorem a0kq (ss : List Sy) (t : Tm) (hc : t.cn ≤ 1200000000000) : XC pg 110 [L (ss.map Sy.da), .dat t.da] [] (B (dB (TmOk ss t))) [] := by
 have h1 := a6dq ss
 have h2 := a61q t hc
 have h3 := aagq ss t
 have e : TmOk ss t = (X5q ss ∧ t.cn + 1 ≤ 60 ∧ TOk ss t) := rfl
 rw [e]
 generalize t.cn = c at *
 obtain ⟨f, v, ks⟩ := t
 apply a6Qq
 refine ⟨_, h1, g8q (fun g1 => ⟨_, h2, d2q (fun g2 => ⟨_, h3, R7q ?_⟩) fun g2 => o6q fun hn => g2 (by have := hn.2.1; omega)⟩) fun g1 => o6q fun hn => r6q.1 g1 hn.1⟩
 rw [l5q]
 exact ⟨fun h => ⟨l5q.1 g1, by omega, h⟩, fun h => h.2.2⟩
theorem a0iq (ss : List Sy) (t : Tm) (hc : t.cn ≤ 1200000000000) : XC pg 120 [L (ss.map Sy.da), .dat t.da] [] (B (dB (TmOk ss t))) [] := by
 have h1 := a6Sq ss
 have h2 := a6lq t hc
 have h3 := ab2q ss t
 have e : TmOk ss t = (X5q ss ∧ t.cn + 1 ≤ 60 ∧ TOk ss t) := rfl
 rw [e]
 generalize t.cn = c at *
 obtain ⟨f, v, ks⟩ := t
 apply a6kq
 refine ⟨_, h1, g8q (fun g1 => ⟨_, h2, d2q (fun g2 => ⟨_, h3, R7q ?_⟩) fun g2 => o6q fun hn => g2 (by have := hn.2.1; omega)⟩) fun g1 => o6q fun hn => r6q.1 g1 hn.1⟩
 rw [l5q]
 exact ⟨fun h => ⟨l5q.1 g1, by omega, h⟩, fun h => h.2.2⟩
theorem a71q (ss : List Sy) (x : Li) (hc : x.cn ≤ 1200000000000) : XC pg 106 [L (ss.map Sy.da), .dat x.da] [] (B (dB (LiOk ss x))) [] := by
 have hc : x.l.cn + x.r.cn ≤ 1200000000000 := hc
 have h1 := a0kq ss x.l (by omega)
 have h2 := a0kq ss x.r (by omega)
 have h3 := B2q x.l x.r
 obtain ⟨p, ⟨f, v, ks⟩, ⟨g, u, ls⟩⟩ := x
 apply a7Tq
 refine ⟨_, h1, g8q (fun g1 => ⟨_, h2, g8q (fun g2 => ⟨_, h3, R7q ?_⟩) fun g2 => o6q fun hn => r6q.1 g2 hn.2.1⟩) fun g1 => o6q fun hn => r6q.1 g1 hn.1⟩
 simp only [Bool.not_eq_true', decide_eq_false_iff_not]
 exact ⟨fun h => ⟨l5q.1 g1, l5q.1 g2, h⟩, fun h => h.2.2⟩
theorem a6xq (ss : List Sy) (x : Li) (hc : x.cn ≤ 1200000000000) : XC pg 115 [L (ss.map Sy.da), .dat x.da] [] (B (dB (LiOk ss x))) [] := by
 have hc : x.l.cn + x.r.cn ≤ 1200000000000 := hc
 have h1 := a0iq ss x.l (by omega)
 have h2 := a0iq ss x.r (by omega)
 have h3 := K3q x.l x.r
 obtain ⟨p, ⟨f, v, ks⟩, ⟨g, u, ls⟩⟩ := x
 apply a7Qq
 refine ⟨_, h1, g8q (fun g1 => ⟨_, h2, g8q (fun g2 => ⟨_, h3, R7q ?_⟩) fun g2 => o6q fun hn => r6q.1 g2 hn.2.1⟩) fun g1 => o6q fun hn => r6q.1 g1 hn.1⟩
 simp only [Bool.not_eq_true', decide_eq_false_iff_not]
 exact ⟨fun h => ⟨l5q.1 g1, l5q.1 g2, h⟩, fun h => h.2.2⟩
theorem V3q (ss : List Sy) (c : Cl) (hc : c.cn ≤ 1200000000000) : XC pg 46 [L (ss.map Sy.da), .dat c.da] [] (B (dB (L5q ss c))) [] := by
 have hc : cnL Li.cn c.ls ≤ 1200000000000 := hc
 have hlen : c.ls.length ≤ 281474976710656 := by have := g2q Li.cn c.ls; omega
 apply a4Eq
 have key := j8q (p := fun i => (∀ (j : Nat) x, j < i → c.ls[j]? = some x → LiOk ss x ∧ ∀ y, 0 < j → c.ls[j - 1]? = some y → Li.cmp y x < 0) → o0q (B (dB (L5q ss c))) [] (ss.map Sy.da) (i : Int) (c.ls.map Li.da)) c.ls.length ?_ (fun i hi ihl => ?_) 0 (Nat.zero_le _)
 ·exact key fun j x hj => by omega
 ·intro hall
  apply M4q
  rw [List.length_map]
  refine a2q (d9q (Nat.le_refl _)) (R7q ?_)
  rw [decide_eq_true_eq]
  exact ⟨fun h => ⟨fun i x hx => hall i x (List.getElem?_eq_some_iff.1 hx).1 hx, by omega⟩, fun h => by have := h.2; omega⟩
 ·intro hall
  obtain ⟨x, hx⟩ := d0q hi
  have hx1 := i4q (g := Li.da) hx
  have hm := i8q (cn := Li.cn) (List.mem_of_getElem? hx)
  have hxc := a71q ss x (by omega)
  have bad : ¬ (LiOk ss x ∧ ∀ y, 0 < i → c.ls[i - 1]? = some y → Li.cmp y x < 0) → B false = B (dB (L5q ss c)) ∧ ([] : List (Nat × Ob)) = [] := fun h => o6q fun hn => h (hn.1 i x hx)
  have good : (LiOk ss x ∧ ∀ y, 0 < i → c.ls[i - 1]? = some y → Li.cmp y x < 0) → o0q (B (dB (L5q ss c))) [] (ss.map Sy.da) (IntKind.wrap .i64 ((i : Int) + 1)) (c.ls.map Li.da) := fun h => by
   rw [wr1 hi hlen]
   exact ihl fun j y hj hy => by
    rcases Nat.lt_succ_iff_lt_or_eq.1 hj with hj | rfl
    ·exact hall j y hj hy
    ·rw [hx] at hy; cases hy; exact h
  have hcm := fun z => a1dq z x
  obtain ⟨p, ⟨f, v, ks⟩, ⟨g, u, ms⟩⟩ := x
  apply M4q
  refine a6q (f0q (by simpa using hi)) ⟨i, rfl, _, _, _, _, _, _, _, hx1, _, hxc, g8q (fun h => bad fun hh => r6q.1 (q3q h) hh.1) fun h0 => d2q (fun h2 => ?_) fun h2 => good ⟨l5q.1 (l4q h0), fun y h => by omega⟩⟩
  have h2 : 0 < i := by omega
  obtain ⟨z, hz⟩ := d0q (l := c.ls) (i := i - 1) (by omega)
  have hz1 := i4q (g := Li.da) hz
  have hcz := hcm z
  refine ⟨i - 1, wrM h2 (by omega), ?_⟩
  obtain ⟨p', ⟨f', v', ks'⟩, ⟨g', u', ms'⟩⟩ := z
  refine ⟨_, _, _, _, _, _, _, hz1, i, rfl, _, _, _, _, _, _, _, hx1, _, hcz, g8q (fun h => bad fun hh => ?_) fun h => good ⟨l5q.1 (l4q h0), fun y _ hy => ?_⟩⟩
  ·have h := q3q h; simp at h; have := hh.2 _ h2 hz; omega
  ·rw [hz] at hy; cases hy; simpa using l4q h
theorem V4q (ss : List Sy) (c : Cl) (hc : c.cn ≤ 1200000000000) : XC pg 51 [L (ss.map Sy.da), .dat c.da] [] (B (dB (L5q ss c))) [] := by
 have hc : cnL Li.cn c.ls ≤ 1200000000000 := hc
 have hlen : c.ls.length ≤ 281474976710656 := by have := g2q Li.cn c.ls; omega
 apply a4Aq
 rw [List.length_map]
 have key := j8q (p := fun i => (∀ (j : Nat) x, j < i → c.ls[j]? = some x → LiOk ss x ∧ ∀ y, 0 < j → c.ls[j - 1]? = some y → Li.cmp y x < 0) → o1q (B (dB (L5q ss c))) [] (ss.map Sy.da) (c.ls.map Li.da) (c.ls.length : Int) (i : Int) (c.ls.map Li.da)) c.ls.length ?_ (fun i hi ihl => ?_) 0 (Nat.zero_le _)
 ·exact key fun j x hj => by omega
 ·intro hall
  apply M7q
  rw [List.length_map]
  refine a2q (d9q (Nat.le_refl _)) (R7q ?_)
  rw [decide_eq_true_eq]
  exact ⟨fun h => ⟨fun i x hx => hall i x (List.getElem?_eq_some_iff.1 hx).1 hx, by omega⟩, fun h => by have := h.2; omega⟩
 ·intro hall
  obtain ⟨x, hx⟩ := d0q hi
  have hx1 := i4q (g := Li.da) hx
  have hm := i8q (cn := Li.cn) (List.mem_of_getElem? hx)
  have hxc := a6xq ss x (by omega)
  have bad : ¬ (LiOk ss x ∧ ∀ y, 0 < i → c.ls[i - 1]? = some y → Li.cmp y x < 0) → B false = B (dB (L5q ss c)) ∧ ([] : List (Nat × Ob)) = [] := fun h => o6q fun hn => h (hn.1 i x hx)
  have good : (LiOk ss x ∧ ∀ y, 0 < i → c.ls[i - 1]? = some y → Li.cmp y x < 0) → o1q (B (dB (L5q ss c))) [] (ss.map Sy.da) (c.ls.map Li.da) (c.ls.length : Int) (IntKind.wrap .i64 ((i : Int) + 1)) (c.ls.map Li.da) := fun h => by
   rw [wr1 hi hlen]
   exact ihl fun j y hj hy => by
    rcases Nat.lt_succ_iff_lt_or_eq.1 hj with hj | rfl
    ·exact hall j y hj hy
    ·rw [hx] at hy; cases hy; exact h
  have hcm := fun z => a2Gq z x
  obtain ⟨p, ⟨f, v, ks⟩, ⟨g, u, ms⟩⟩ := x
  apply M7q
  refine a6q (f0q hi) ⟨i, rfl, _, _, _, _, _, _, _, hx1, _, hxc, g8q (fun h => bad fun hh => r6q.1 (q3q h) hh.1) fun h0 => d2q (fun h2 => ?_) fun h2 => good ⟨l5q.1 (l4q h0), fun y h => by omega⟩⟩
  have h2 : 0 < i := by omega
  obtain ⟨z, hz⟩ := d0q (l := c.ls) (i := i - 1) (by omega)
  have hz1 := i4q (g := Li.da) hz
  have hcz := hcm z
  refine ⟨i - 1, wrM h2 (by omega), ?_⟩
  obtain ⟨p', ⟨f', v', ks'⟩, ⟨g', u', ms'⟩⟩ := z
  refine ⟨_, _, _, _, _, _, _, hz1, _, hcz, g8q (fun h => bad fun hh => ?_) fun h => good ⟨l5q.1 (l4q h0), fun y _ hy => ?_⟩⟩
  ·have h := q3q h; simp at h; have := hh.2 _ h2 hz; omega
  ·rw [hz] at hy; cases hy; simpa using l4q h
theorem w1q (l : List Int) : k0q (l.map In.da) := by
 intro x hx
 obtain ⟨n, _, rfl⟩ := List.mem_map.1 hx
 rfl
theorem u2q (l : List Int) : ∀ y ∈ l.map In.da, y.length = 1 := by
 intro x hx
 obtain ⟨n, _, rfl⟩ := List.mem_map.1 hx
 rfl
theorem abLq (P R : List (List Da)) (b : List Da) (hl : P.length + R.length ≤ 10000000000000) : XC pg 217 [.one (.ol 2000), Z (P.length : Int), .one (.ol 2001)] [(2000, .lst 3 1 (P ++ R)), (2001, .lst 3 1 [b])] (.one (.ol 0)) [(2001, .lst 3 1 [b]), (0, .lst 3 1 (P ++ b :: R))] := by
 apply a1Jq
 intro c hc1 hc2
 have hlen : (P ++ R).length = P.length + R.length := by simp
 have t1 : ∀ j, P.take (P.length + j) = P := fun j => List.take_of_length_le (by omega)
 have d1 : ∀ j, P.drop (P.length + j) = [] := fun j => List.drop_eq_nil_of_le (by omega)
 refine ⟨P.length, rfl, ⟨by rw [hlen]; omega, .inl (Nat.le_refl _)⟩, a2q (by simp) ?_⟩
 cases R with
 | nil =>
  refine a6q (by simp) ⟨⟨by omega, by simp at *; omega⟩, ?_⟩
  by_cases h : 0 + (P ++ []).length + [b].length ≤ c
  ·exact a6q (decide_eq_true h) ⟨⟨by simp⟩, by simp [t1, d1, List.take_append]⟩
  ·exact a2q (decide_eq_false h) (by simp)
 | cons x R =>
  refine a2q (by simp; omega) ?_
  have w1 : IntKind.wrap .i64 (((P ++ x :: R).length : Int) + (([b].length : Nat) : Int)) = ((P.length + R.length + 2 : Nat) : Int) := by
   rw [wrI (by simp; omega) (by simp at *; omega)]; simp; omega
  have w2 : IntKind.wrap .i64 (((P.length + R.length + 2 : Nat) : Int) - (P.length : Int)) = ((R.length + 2 : Nat) : Int) := by
   rw [wrI (by omega) (by simp at *; omega)]; omega
  have w3 : IntKind.wrap .i64 ((P.length : Int) + (([b].length : Nat) : Int)) = ((P.length + 1 : Nat) : Int) := by
   rw [wrI (by simp; omega) (by simp at *; omega)]; simp
  rw [w1, w2, w3]
  simp only [List.length_cons] at hl
  have hlen' : (P ++ x :: R).length = P.length + R.length + 1 := by simp; omega
  have m1 : min (R.length + 1) (P.length + (R.length + 1 + 1) - (P.length + 1)) = R.length + 1 := by omega
  by_cases h : (((c : Int) - 0)) < ((P.length + R.length + 2 : Nat) : Int)
  ·refine a6q (decide_eq_true h) ⟨P.length, rfl, ⟨by omega, .inl (by omega)⟩, R.length + 2, rfl, ⟨by omega, by simp <;> omega⟩, a2q (decide_eq_false (by simp <;> omega)) ?_⟩
   refine ⟨P.length, rfl, ⟨by simp, Nat.le_refl _⟩, ⟨by simp <;> omega⟩, P.length + 1, rfl, ⟨by simp <;> omega, Nat.le_refl _⟩, P.length, rfl, ⟨by omega, .inl (Nat.le_refl _)⟩, ⟨by simp <;> omega⟩, ⟨by simp <;> omega⟩, rfl, ?_⟩
   simp [List.take_append, List.drop_append, List.replicate_succ, t1, d1, m1, Nat.add_assoc] <;> omega
  ·have e1 : P.length + R.length + 2 - P.length = R.length + 2 := by omega
   have e2 : P.length + R.length + 2 - (P.length + 1) = R.length + 1 := by omega
   have e3 : P.length + R.length + 1 - P.length = R.length + 1 := by omega
   have e4 : min (R.length + 2) (R.length + 1) = R.length + 1 := by omega
   have e5 : min 1 (R.length + 2) = 1 := by omega
   have e7 : P.length + (R.length + 1 + 1) - P.length = R.length + 2 := by omega
   have e8 : P.length + (R.length + 1 + 1) - (P.length + 1) = R.length + 1 := by omega
   refine a2q (decide_eq_false h) ⟨P.length + R.length + 2, rfl, ⟨by omega, .inr (by omega)⟩, P.length + 1, rfl, ⟨by omega, .inl (Nat.le_refl _)⟩, P.length + 1, rfl, ⟨by omega, .inl (Nat.le_refl _)⟩, P.length, rfl, ⟨by omega, .inl (Nat.le_refl _)⟩, ⟨by simp <;> omega⟩, ⟨by simp, by simp <;> omega⟩, P.length, rfl, ⟨by omega, .inl (Nat.le_refl _)⟩, ⟨by simp; exact Nat.le_trans (Nat.le_succ _) (Nat.le_add_right _ _), by simp <;> omega⟩, ⟨by simp [e1, e2, e3, e4, e5, e7, e8] <;> omega⟩, rfl, ?_⟩
   simp only [Nat.sub_zero, Nat.zero_add, e1, e2, e4]
   simp [List.take_append, List.drop_append, t1, d1, m1, e1, e2, e3, e4, e5, e7, e8, Nat.add_assoc] <;> omega
def D5q (n : Int) : List Int → List Int
 | [] => [n]
 | x :: r => if x < n then x :: D5q n r else n :: x :: r
def l9q (l : List Int) (n : Int) : List Int := if n ∈ l then l else D5q n l
def adds (out l : List Int) : List Int := l.foldl l9q out
mutual
def Tm.vs : Tm → List Int → List Int
 | .mk f v ks, out => Tm.vss ks (if f = -1 then l9q out v else out)
def Tm.vss : List Tm → List Int → List Int
 | [], out => out
 | t :: r, out => Tm.vss r (Tm.vs t out)
end
mutual
def Tm.occ : Tm → Int → Prop
 | .mk f v ks, x => (f = -1 ∧ x = v) ∨ Tm.occs ks x
def Tm.occs : List Tm → Int → Prop
 | [], _ => False
 | t :: r, x => Tm.occ t x ∨ Tm.occs r x
end
theorem aeyq (n : Int) (l : List Int) : (D5q n l).length = l.length + 1 := by
 induction l with
 | nil => rfl
 | cons x r ih => unfold D5q; split <;> simp_all
theorem V6q (l : List Int) (n : Int) : (l9q l n).length ≤ l.length + 1 := by
 unfold l9q; split
 ·omega
 ·rw [aeyq]; omega
theorem a9Mq {n x : Int} {l : List Int} : x ∈ D5q n l ↔ x = n ∨ x ∈ l := by
 induction l with
 | nil => simp [D5q]
 | cons y r ih =>
  unfold D5q; split
  ·simp only [List.mem_cons, ih]
   constructor
   ·rintro (h | h | h) <;> simp [h]
   ·rintro (h | h | h) <;> simp [h]
  ·simp
theorem a4Wq {n x : Int} {l : List Int} : x ∈ l9q l n ↔ x = n ∨ x ∈ l := by
 unfold l9q; split
 ·rename_i h
  constructor
  ·exact .inr
  ·rintro (rfl | h1)
   ·exact h
   ·exact h1
 ·exact a9Mq
abbrev Srt (l : List Int) : Prop := l.Pairwise (· < ·)
theorem aesq {n : Int} {l : List Int} (h : Srt l) (hn : n ∉ l) : Srt (D5q n l) := by
 induction l with
 | nil => simp [D5q, Srt]
 | cons y r ih =>
  obtain ⟨h1, h2⟩ := List.pairwise_cons.1 h
  unfold D5q; split
  ·rename_i hy
   refine List.pairwise_cons.2 ⟨fun z hz => ?_, ih h2 fun h => hn (List.mem_cons_of_mem _ h)⟩
   rcases a9Mq.1 hz with rfl | hz
   ·exact hy
   ·exact h1 z hz
  ·rename_i hy
   have hne : n ≠ y := fun e => hn (by simp [e])
   refine List.pairwise_cons.2 ⟨fun z hz => ?_, h⟩
   rcases List.mem_cons.1 hz with rfl | hz
   ·omega
   ·have := h1 z hz; omega
theorem a5tq {n : Int} {l : List Int} (h : Srt l) : Srt (l9q l n) := by
 unfold l9q; split
 ·exact h
 ·rename_i hn; exact aesq h hn
theorem abwq : ∀ {a b : List Int}, Srt a → Srt b → (∀ x, x ∈ a ↔ x ∈ b) → a = b
 | [], [], _, _, _ => rfl
 | [], y :: s, _, _, h => absurd ((h y).2 (by simp)) (by simp)
 | x :: r, [], _, _, h => absurd ((h x).1 (by simp)) (by simp)
 | x :: r, y :: s, ha, hb, h => by
  obtain ⟨a1, a2⟩ := List.pairwise_cons.1 ha
  obtain ⟨b1, b2⟩ := List.pairwise_cons.1 hb
  have hxy : x = y := by
   have h1 := (h x).1 (by simp)
   have h2 := (h y).2 (by simp)
   rcases List.mem_cons.1 h1 with h1 | h1
   ·exact h1
   ·rcases List.mem_cons.1 h2 with h2 | h2
    ·exact h2.symm
    ·have := b1 x h1; have := a1 y h2; omega
  subst hxy
  refine congrArg (x :: ·) (abwq a2 b2 fun z => ?_)
  have hz := h z
  simp only [List.mem_cons] at hz
  constructor
  ·intro hm
   have := a1 z hm
   rcases hz.1 (.inr hm) with rfl | h
   ·omega
   ·exact h
  ·intro hm
   have := b1 z hm
   rcases hz.2 (.inr hm) with rfl | h
   ·omega
   ·exact h
theorem aeTq {l : List Int} : ∀ {out : List Int} {x : Int}, x ∈ adds out l ↔ x ∈ out ∨ x ∈ l := by
 induction l with
 | nil => intro out x; simp [adds]
 | cons y r ih =>
  intro out x
  have : adds out (y :: r) = adds (l9q out y) r := rfl
  rw [this, ih, a4Wq, List.mem_cons]
  constructor
  ·rintro ((h | h) | h) <;> simp [h]
  ·rintro (h | h | h) <;> simp [h]
theorem af2q {l : List Int} : ∀ {out : List Int}, Srt out → Srt (adds out l) := by
 induction l with
 | nil => intro out h; exact h
 | cons y r ih => intro out h; exact ih (a5tq h)
mutual
theorem Tm.vs_len : ∀ (t : Tm) (out : List Int), (t.vs out).length ≤ out.length + t.cn + 1
 | .mk f v ks, out => by
  have h1 := Tm.vss_len ks (if f = -1 then l9q out v else out)
  have h2 := V6q out v
  simp only [Tm.vs, Tm.cn]
  split at h1 <;> simp_all <;> omega
theorem Tm.vss_len : ∀ (l : List Tm) (out : List Int), (Tm.vss l out).length ≤ out.length + Tm.cns l
 | [], out => by simp [Tm.vss]
 | t :: r, out => by
  have h1 := Tm.vs_len t out
  have h2 := Tm.vss_len r (t.vs out)
  simp only [Tm.vss, Tm.cns]
  omega
end
mutual
theorem Tm.mem_vs : ∀ (t : Tm) (out : List Int) (x : Int), x ∈ t.vs out ↔ x ∈ out ∨ t.occ x
 | .mk f v ks, out, x => by
  simp only [Tm.vs, Tm.occ]
  rw [Tm.mem_vss ks]
  split
  ·rename_i h
   rw [a4Wq]
   simp only [h, true_and]
   constructor
   ·rintro ((h | h) | h) <;> simp [h]
   ·rintro (h | h | h) <;> simp [h]
  ·rename_i h
   simp [h]
theorem Tm.mem_vss : ∀ (l : List Tm) (out : List Int) (x : Int), x ∈ Tm.vss l out ↔ x ∈ out ∨ Tm.occs l x
 | [], out, x => by simp [Tm.vss, Tm.occs]
 | t :: r, out, x => by
  simp only [Tm.vss, Tm.occs]
  rw [Tm.mem_vss r, Tm.mem_vs t, or_assoc]
end
mutual
theorem Tm.srt_vs : ∀ (t : Tm) {out : List Int}, Srt out → Srt (t.vs out)
 | .mk f v ks, out, h => by
  simp only [Tm.vs]
  split
  ·exact Tm.srt_vss ks (a5tq h)
  ·exact Tm.srt_vss ks h
theorem Tm.srt_vss : ∀ (l : List Tm) {out : List Int}, Srt out → Srt (Tm.vss l out)
 | [], out, h => h
 | t :: r, out, h => Tm.srt_vss r (Tm.srt_vs t h)
end
theorem g3q {α β : Type} {g : α → β} {p : List α} {x : α} {q : List α} : ((p ++ x :: q).map g)[p.length]? = some (g x) := by simp
theorem q2q {p : List Tm} {x : Tm} {q : List Tm} : (Tm.das (p ++ x :: q))[p.length]? = some x.da := by rw [Tm.das_map]; simp
theorem u1q {α β : Type} (g : α → β) (p : List α) : List.take p.length (p.map g) = p.map g := List.take_of_length_le (by simp)
theorem h1q {α : Type} (p : List α) (x : α) : (p ++ [x]).length = p.length + 1 := by simp
def E6q (p : Int → Bool) : List Int → Nat → Int
 | [], _ => -1
 | x :: r, i => if p x then (i : Int) else E6q p r (i + 1)
theorem a92q {p : Int → Bool} : ∀ {l : List Int} {i : Nat}, 0 ≤ E6q p l i ↔ ∃ x ∈ l, p x = true
 | [], i => by simp [E6q]
 | x :: r, i => by
  unfold E6q; split
  ·rename_i h; simp [h]
  ·rename_i h; rw [a92q]; simp [h]
theorem a8Vq {n : Int} : ∀ {l : List Int} {i : Nat}, n ∉ l → (E6q (fun x => decide (n < x)) l i < 0 ∧ D5q n l = l ++ [n]) ∨ ∃ P R, l = P ++ R ∧ D5q n l = P ++ n :: R ∧ E6q (fun x => decide (n < x)) l i = ((i + P.length : Nat) : Int)
 | [], i, _ => .inl ⟨by simp [E6q], rfl⟩
 | x :: r, i, h => by
  have hne : n ≠ x := fun e => h (by simp [e])
  unfold E6q D5q
  by_cases hx : n < x
  ·rw [if_pos (by simpa using hx), if_neg (by omega)]
   exact .inr ⟨[], x :: r, rfl, rfl, by simp⟩
  ·rw [if_neg (by simpa using hx), if_pos (by omega)]
   rcases a8Vq (l := r) (i := i + 1) (fun h1 => h (List.mem_cons_of_mem _ h1)) with ⟨h1, h2⟩ | ⟨P, R, rfl, h2, h3⟩
   ·exact .inl ⟨h1, by rw [h2]; rfl⟩
   ·exact .inr ⟨x :: P, R, rfl, by rw [h2]; rfl, by rw [h3]; simp; omega⟩
theorem R5q (l : List Int) (n : Int) (hl : l.length ≤ 10000000000000) : ∀ (q p : List Int), l = p ++ q → p6q (Z (E6q (fun x => decide (n = x)) q p.length)) [] (l.map In.da) n (l.length : Int) (p.length : Int)
 | [], p, e => by
  apply F5q
  subst e
  exact a2q (d9q (by simp)) ⟨rfl, rfl⟩
 | x :: q, p, e => by
  apply F5q
  have ih := R5q l n hl q (p ++ [x]) (by simp [e])
  subst e
  rw [h1q] at ih
  refine a6q (f0q (by simp)) ⟨p.length, rfl, x, g3q, ?_⟩
  by_cases h : n = x
  ·exact a6q (by simpa using h) ⟨by simp [E6q, h], rfl⟩
  ·refine a2q (by simpa using h) ?_
   rw [wr1 (n := p.length + 1) (by omega) (by simp at hl; omega)]
   simpa [E6q, h] using ih
theorem a45q (l : List Int) (n : Int) (hl : l.length ≤ 10000000000000) : XC pg 183 [L (l.map In.da), Z n] [] (B (decide (n ∈ l))) [] := by
 apply a0Oq
 refine ⟨_, M0q (by simpa using R5q l n hl l [] rfl), ?_, rfl⟩
 congr 1
 rw [decide_eq_decide, a92q]
 simp
theorem a6hq (l : List Int) (n : Int) (hl : l.length ≤ 10000000000000) : XC pg 124 [L (l.map In.da), Z n] [] (B (decide (n ∈ l))) [] := by
 apply a7Mq
 exact ⟨_, a45q l n hl, rfl, rfl⟩
theorem a0Zq (l : List Int) (n : Int) (hl : l.length ≤ 10000000000000) : ∀ (q p : List Int), l = p ++ q → A7q (B (decide (n ∈ q))) [] (l.map In.da) n (p.length : Int)
 | [], p, e => by
  apply Z4q
  subst e
  exact a2q (d9q (by simp)) ⟨by simp, rfl⟩
 | x :: q, p, e => by
  apply Z4q
  have ih := a0Zq l n hl q (p ++ [x]) (by simp [e])
  subst e
  rw [h1q] at ih
  refine a6q (f0q (by simp)) ⟨p.length, rfl, x, g3q, ?_⟩
  by_cases h : x = n
  ·exact a6q (by simpa using h) ⟨by simp [h], rfl⟩
  ·refine a2q (by simpa using h) ?_
   rw [wr1 (n := p.length + 1) (by omega) (by simp at hl; omega)]
   have : (n ∈ x :: q) = (n ∈ q) := by simp; intro e; exact absurd e.symm h
   simpa [this] using ih
theorem a6sq (l : List Int) (n : Int) (hl : l.length ≤ 10000000000000) : XC pg 239 [L (l.map In.da), Z n] [] (B (decide (n ∈ l))) [] := by
 apply a8dq
 simpa using a0Zq l n hl l [] rfl
theorem a0cq (l : List Int) (n : Int) (hl : l.length ≤ 10000000000000) : ∀ (q p : List Int), l = p ++ q → z3q (L ((p ++ D5q n q).map In.da)) [] (l.map In.da) n (p.length : Int)
 | [], p, e => by
  apply T8q
  subst e
  refine a2q (d9q (by simp)) ⟨p.length, rfl, ⟨by simp⟩, ⟨u2q _⟩, ⟨?_⟩, ⟨?_⟩, ⟨by simp at *; omega⟩, ⟨by simp at *; omega⟩, p.length, rfl, ⟨by simp⟩, ⟨u2q _⟩, ⟨by simp⟩, ⟨?_⟩, ⟨by simp at *; omega⟩, ?_, rfl⟩
  ·intro y hy; exact u2q _ y (List.mem_of_mem_take (List.mem_of_mem_drop hy))
  ·intro y hy; exact w1q _ y (List.mem_of_mem_take (List.mem_of_mem_drop hy))
  ·intro y hy; exact w1q _ y (List.mem_of_mem_take (List.mem_of_mem_drop hy))
  ·simp [D5q, u1q]; rfl
 | x :: q, p, e => by
  apply T8q
  have ih := a0cq l n hl q (p ++ [x]) (by simp [e])
  subst e
  rw [h1q] at ih
  refine a6q (f0q (by simp)) ⟨p.length, rfl, x, g3q, ?_⟩
  by_cases h : x < n
  ·refine a6q (by simpa using h) ?_
   rw [wr1 (n := p.length + 1) (by omega) (by simp at hl; omega)]
   simpa [D5q, h] using ih
  ·refine a2q (by simpa using h) ⟨p.length, rfl, ⟨by simp⟩, ⟨u2q _⟩, ⟨?_⟩, ⟨?_⟩, ⟨by simp at *; omega⟩, ⟨by simp at *; omega⟩, p.length, rfl, ⟨by simp⟩, ⟨u2q _⟩, ⟨?_⟩, ⟨?_⟩, ⟨by simp at *; omega⟩, ?_, rfl⟩
   ·intro y hy; exact u2q _ y (List.mem_of_mem_take (List.mem_of_mem_drop hy))
   ·intro y hy; exact w1q _ y (List.mem_of_mem_take (List.mem_of_mem_drop hy))
   ·intro y hy; exact u2q _ y (List.mem_of_mem_take (List.mem_of_mem_drop hy))
   ·intro y hy; exact w1q _ y (List.mem_of_mem_take (List.mem_of_mem_drop hy))
   ·simp [D5q, h, u1q, List.take_append, List.drop_append]; rfl
theorem a5eq (l : List Int) (n : Int) (hl : l.length ≤ 10000000000000) : XC pg 213 [L (l.map In.da), Z n] [] (L ((l9q l n).map In.da)) [] := by
 apply a6zq
 refine ⟨_, a6sq l n hl, ?_⟩
 by_cases h : n ∈ l
 ·exact a6q (by simpa using h) ⟨⟨u2q _⟩, ⟨w1q _⟩, ⟨by simp; omega⟩, by simp [l9q, h], rfl⟩
 ·refine a2q (by simpa using h) ?_
  simpa [l9q, h] using a0cq l n hl l [] rfl
theorem a7Aq (l : List Int) (hl : l.length ≤ 10000000000000) : XC pg 215 [L (l.map In.da)] [] (.one (.ol 0)) [(0, .tr 3 1 (l.map In.da))] := by
 apply a2dq
 refine ⟨fun h => ⟨rfl, ?_⟩, ⟨u2q _⟩, ⟨w1q _⟩, ⟨by simp; omega⟩, rfl, by simp⟩
 cases l with
 | nil => rfl
 | cons x r => simp [In.da] at h
theorem a3Mq (l : List Int) (n : Int) (hl : l.length ≤ 10000000000000) : ∀ (q p : List Int), l = p ++ q → h2q (Z (E6q (fun x => decide (n < x)) q p.length)) [(2000, .var [.d (.int .i64 n)])] (l.map In.da) (l.length : Int) (p.length : Int) n
 | [], p, e => by
  apply p0q
  subst e
  exact a2q (d9q (by simp)) ⟨rfl, rfl⟩
 | x :: q, p, e => by
  apply p0q
  have ih := a3Mq l n hl q (p ++ [x]) (by simp [e])
  subst e
  rw [h1q] at ih
  refine a6q (f0q (by simp)) ⟨p.length, rfl, x, g3q, _, _, a44q ⟨rfl, rfl⟩, ?_⟩
  by_cases h : n < x
  ·exact a6q (by simpa using h) ⟨by simp [E6q, h], rfl⟩
  ·refine a2q (by simpa using h) ?_
   rw [wr1 (n := p.length + 1) (by omega) (by simp at hl; omega)]
   simpa [E6q, h] using ih
theorem a3Qq (P R : List Int) (n : Int) (hl : P.length + R.length ≤ 10000000000000) : XC pg 217 [.one (.ol 2000), Z (P.length : Int), .one (.ol 2001)] [(2000, .tr 3 1 ((P ++ R).map In.da)), (2001, .lst 3 1 [In.da n])] (.one (.ol 0)) [(2001, .lst 3 1 [In.da n]), (0, .tr 3 1 ((P ++ n :: R).map In.da))] := by
 have h := abLq (P.map In.da) (R.map In.da) (In.da n) (by simpa using hl)
 rw [List.length_map, ← List.map_append] at h
 have e : P.map In.da ++ In.da n :: R.map In.da = (P ++ n :: R).map In.da := by simp
 rw [e] at h
 exact h.imp (.cons (aeBq _ _ _) (.cons (.refl _) .nil)) (.cons (.refl _) (.cons (a5kq (w1q _)) .nil))
theorem a0eq (l : List Int) (n : Int) (hl : l.length ≤ 10000000000000) : XC pg 178 [L (l.map In.da), Z n] [] (.one (.ol 0)) [(0, .tr 3 1 ((l9q l n).map In.da))] := by
 apply a6Pq
 refine ⟨_, a7Aq l hl, _, a6hq l n hl, ?_⟩
 by_cases h : n ∈ l
 ·exact a6q (by simpa using h) ⟨rfl, by simp [l9q, h]⟩
 ·refine a2q (by simpa using h) ⟨_, _, C0q (by simpa using a3Mq l n hl l [] rfl), ?_⟩
  rcases a8Vq (i := 0) h with ⟨h1, h2⟩ | ⟨P, R, rfl, h2, h3⟩
  ·have := a3Qq l [] n (by simpa using hl)
   rw [List.append_nil, ← h2] at this
   exact a6q (by simpa using h1) ⟨(l9q l n).map In.da, [In.da n], by simpa [l9q, h, In.da] using this, rfl, rfl⟩
  ·have := a3Qq P R n (by simpa using hl)
   rw [← h2] at this
   refine a2q (by rw [h3]; simp) ⟨(l9q (P ++ R) n).map In.da, [In.da n], ?_, rfl, rfl⟩
   rw [h3]
   simpa [l9q, h, In.da] using this
theorem a0Fq (f v : Int) (ks : List Tm) (hk : ks.length ≤ 10000000000000) : ∀ (q p : List Tm) (out : List Int), ks = p ++ q → out.length + Tm.cns q ≤ 5000000000000 → (∀ t ∈ q, ∀ o : List Int, o.length + t.cn + 1 ≤ 5000000000000 → XC pg 169 [.dat t.da, L (o.map In.da)] [] (L ((t.vs o).map In.da)) []) → t5q (L ((Tm.vss q out).map In.da)) [] (out.map In.da) (p.length : Int) f v (Tm.das ks)
 | [], p, out, e, _, _ => by
  apply U5q
  subst e
  exact a2q (d9q (by simp [b3q])) ⟨rfl, rfl⟩
 | .mk g u ls :: q, p, out, e, ho, hc => by
  apply U5q
  have hcn : Tm.cns (.mk g u ls :: q) = 1 + (Tm.mk g u ls).cn + Tm.cns q := by simp [Tm.cns]
  have hl := Tm.vs_len (.mk g u ls) out
  have ih := a0Fq f v ks hk q (p ++ [.mk g u ls]) (Tm.vs (.mk g u ls) out) (by simp [e]) (by omega) (fun t ht => hc t (List.mem_cons_of_mem _ ht))
  subst e
  rw [h1q] at ih
  refine a6q (f0q (by simp [b3q])) ⟨p.length, rfl, g, u, Tm.das ls, q2q, _, hc (.mk g u ls) (by simp) out (by omega), ?_⟩
  rw [wr1 (n := p.length + 1) (by omega) (by simp at hk; omega)]
  exact ih
theorem a3Rq (t : Tm) : ∀ out : List Int, out.length + t.cn + 1 ≤ 5000000000000 → XC pg 169 [.dat t.da, L (out.map In.da)] [] (L ((t.vs out).map In.da)) [] := by
 induction t using Tm.ind with
 | h f v ks ih =>
 intro out ho
 have hcn : (Tm.mk f v ks).cn = Tm.cns ks := by simp [Tm.cn]
 have hl := V6q out v
 have hkl := Tm.cns_cnL ks ▸ g2q Tm.cn ks
 apply a6eq
 by_cases h : f = -1
 ·refine a6q (by simpa using h) ⟨_, a5eq out v (by omega), ?_⟩
  have := a0Fq f v ks (by omega) ks [] (l9q out v) rfl (by omega) ih
  simpa [Tm.vs, h] using this
 ·refine a2q (by simpa using h) ?_
  have := a0Fq f v ks (by omega) ks [] out rfl (by omega) ih
  simpa [Tm.vs, h] using this
theorem a0Gq (t : Tm) : XC pg 100 [.dat t.da] [] (B (decide (t.f = -1))) [] := by
 obtain ⟨f, v, ks⟩ := t
 exact a1Yq ⟨rfl, rfl⟩
theorem a9sq (t : Tm) (o : List Int) (hl : o.length ≤ 5000000000000) : XC pg 177 [.dat t.da, .one (.op 2000 0)] [(2000, .var [.ol 2001]), (2001, .tr 3 1 (o.map In.da))] (.tup []) [(2000, .var [.ol 0]), (0, .tr 3 1 ((if t.f = -1 then l9q o t.v else o).map In.da))] := by
 obtain ⟨f, v, ks⟩ := t
 apply a4Fq
 refine ⟨_, a0Gq (.mk f v ks), ?_⟩
 by_cases h : f = -1
 ·exact a6q (decide_eq_true h) ⟨_, a0eq o v (by omega), rfl, by simp [Tm.f, Tm.v, h]⟩
 ·exact a2q (decide_eq_false h) ⟨rfl, by simp [Tm.f, h]⟩
theorem a24q (ks : List Tm) (hk : ks.length ≤ 10000000000000) : ∀ (q p : List Tm) (out : List Int), ks = p ++ q → out.length + Tm.cns q ≤ 5000000000000 → (∀ t ∈ q, ∀ o : List Int, o.length + t.cn + 1 ≤ 5000000000000 → XC pg 176 [.dat t.da, .one (.clo 177 [(2000, 0)])] [(2000, .var [.ol 2001]), (2001, .tr 3 1 (o.map In.da))] (.tup []) [(2000, .var [.ol 0]), (0, .tr 3 1 ((t.vs o).map In.da))]) → k4q (.tup []) [(2000, .var [.ol 0]), (0, .tr 3 1 ((Tm.vss q out).map In.da))] (Tm.das ks) (ks.length : Int) (p.length : Int) (out.map In.da)
 | [], p, out, e, _, _ => by
  apply x8q
  subst e
  exact a2q (d9q (by simp)) ⟨rfl, rfl⟩
 | .mk g u ls :: q, p, out, e, ho, hc => by
  apply x8q
  have hcn : Tm.cns (.mk g u ls :: q) = 1 + (Tm.mk g u ls).cn + Tm.cns q := by simp [Tm.cns]
  have hl := Tm.vs_len (.mk g u ls) out
  have ih := a24q ks hk q (p ++ [.mk g u ls]) (Tm.vs (.mk g u ls) out) (by simp [e]) (by omega) (fun t ht => hc t (List.mem_cons_of_mem _ ht))
  subst e
  rw [h1q] at ih
  refine a6q (f0q (by simp)) ⟨p.length, rfl, g, u, Tm.das ls, q2q, _, hc (.mk g u ls) (by simp) out (by omega), ?_⟩
  rw [wr1 (n := p.length + 1) (by omega) (by simp at hk; omega)]
  exact ih
theorem a8bq (t : Tm) : ∀ o : List Int, o.length + t.cn + 1 ≤ 5000000000000 → XC pg 176 [.dat t.da, .one (.clo 177 [(2000, 0)])] [(2000, .var [.ol 2001]), (2001, .tr 3 1 (o.map In.da))] (.tup []) [(2000, .var [.ol 0]), (0, .tr 3 1 ((t.vs o).map In.da))] := by
 induction t using Tm.ind with
 | h f v ks ih =>
 intro o ho
 have hcn : (Tm.mk f v ks).cn = Tm.cns ks := by simp [Tm.cn]
 have hl := V6q o v
 have hkl := Tm.cns_cnL ks ▸ g2q Tm.cn ks
 apply S7q
 refine ⟨_, a9sq (.mk f v ks) o (by omega), ?_⟩
 have := a24q ks (by omega) ks [] (if f = -1 then l9q o v else o) rfl (by split <;> omega) ih
 rw [b3q]
 exact this
theorem a06q (t : Tm) (hc : t.cn ≤ 1200000000000) : XC pg 119 [.dat t.da] [] (.one (.ol 0)) [(0, .tr 3 1 ((t.vs []).map In.da))] := by
 obtain ⟨f, v, ks⟩ := t
 apply a77q
 exact ⟨_, a8bq (.mk f v ks) [] (by simp; omega), rfl, rfl⟩
theorem a9vq (n : Nat) (hn : n ≤ 10000000000000) : XC pg 238 [.one .e0, Z (n : Int)] [] (.one (.ol 0)) [(0, .tr 3 1 [])] := by
 have w0 : IntKind.wrap .i64 (0 - 0) = 0 := wrI (by omega) (by omega)
 have w1 : IntKind.wrap .i64 ((n : Int) - 0) = (n : Int) := wrI (by omega) (by omega)
 by_cases h : 0 < (n : Int)
 ·refine XC.imp (I' := []) (O' := [(0, .lst 3 1 [])]) (P9q ?_) .nil (.cons (a5kq (by simp [k0q])) .nil)
  rw [w0, w1]
  refine a2q (by simp) (a6q (decide_eq_true h) ⟨0, rfl, ⟨rfl, rfl⟩, n, rfl, ⟨by simp; omega⟩, 0, rfl, ⟨by omega, by omega⟩, ⟨by omega⟩, rfl, by simp⟩)
 ·apply P9q
  rw [w0, w1]
  exact a2q (by simp) (a2q (decide_eq_false h) ⟨rfl, rfl⟩)
theorem a9kq (a b : List Int) (ha : a.length ≤ 4000000000000) (hb : b.length ≤ 4000000000000) : XC pg 206 [L [[.sl (a.map In.da)], [.sl (b.map In.da)]]] [] (.one (.ol 0)) [(0, .tr 3 1 ((a ++ b).map In.da))] := by
 have w1 : IntKind.wrap .i64 (0 + ((a.map In.da).length : Int)) = (a.length : Int) := by rw [List.length_map, wrI (by omega) (by omega)]; omega
 have w2 : IntKind.wrap .i64 ((a.length : Int) + ((b.map In.da).length : Int)) = ((a.length + b.length : Nat) : Int) := by rw [List.length_map, wrI (by omega) (by omega)]; omega
 have w3 : IntKind.wrap .i64 (0 + 1) = 1 := wrI (by omega) (by omega)
 have w4 : IntKind.wrap .i64 (1 + 1) = 2 := wrI (by omega) (by omega)
 apply a1Aq
 apply v6q
 refine a6q rfl ⟨0, rfl, _, rfl, a2q ?_ ?_⟩
 ·rw [w1]; simp
 rw [w1, w3]
 apply v6q
 refine a6q rfl ⟨1, rfl, _, rfl, a2q ?_ ?_⟩
 ·rw [w2]; exact decide_eq_false (by omega)
 rw [w2, w4]
 apply v6q
 refine a2q rfl ⟨_, a9vq _ (by omega), ?_⟩
 apply u6q
 refine a6q rfl ⟨0, rfl, _, rfl, ⟨u2q _⟩, ⟨w1q _⟩, ⟨by simp; omega⟩, ?_⟩
 rw [w3]
 apply u6q
 refine a6q rfl ⟨1, rfl, _, rfl, ⟨u2q _⟩, ⟨w1q _⟩, ⟨by simp; omega⟩, ?_⟩
 rw [w4]
 apply u6q
 exact a2q rfl ⟨rfl, by simp⟩
def cvs : List Li → List Int → List Int
 | [], out => out
 | x :: q, out => cvs q (x.r.vs (x.l.vs out))
theorem abzq : ∀ (l : List Li) (out : List Int), (cvs l out).length ≤ out.length + 2 * l.length + (l.map Li.cn).sum
 | [], out => by simp [cvs]
 | x :: q, out => by
  have h1 := x.l.vs_len out
  have h2 := x.r.vs_len (x.l.vs out)
  have h3 := abzq q (x.r.vs (x.l.vs out))
  have h4 : x.cn = x.l.cn + x.r.cn := rfl
  simp only [cvs, List.length_cons, List.map_cons, List.sum_cons]
  omega
theorem afxq (x : Li) {out : List Int} (h : Srt out) : adds out (x.l.vs [] ++ x.r.vs []) = x.r.vs (x.l.vs out) := by
 refine abwq (af2q h) (x.r.srt_vs (x.l.srt_vs h)) fun y => ?_
 rw [aeTq, List.mem_append, Tm.mem_vs x.l [], Tm.mem_vs x.r [], Tm.mem_vs x.r, Tm.mem_vs x.l out]
 simp [or_assoc]
theorem L7q (ls : List Li) (hl : ls.length ≤ 1200000000000) : ∀ (q p : List Li) (out : List Int), ls = p ++ q → out.length + 2 * q.length + (q.map Li.cn).sum ≤ 4000000000000 → q8q (L ((cvs q out).map In.da)) [] (out.map In.da) (p.length : Int) (ls.map Li.da)
 | [], p, out, e, _ => by
  apply H2q
  subst e
  exact a2q (d9q (by simp)) ⟨rfl, rfl⟩
 | x :: q, p, out, e, ho => by
  simp only [List.length_cons, List.map_cons, List.sum_cons] at ho
  have h4 : x.cn = x.l.cn + x.r.cn := rfl
  have h1 := x.l.vs_len out
  have h2 := x.r.vs_len (x.l.vs out)
  have ih := L7q ls hl q (p ++ [x]) (x.r.vs (x.l.vs out)) (by simp [e]) (by omega)
  have c1 := a3Rq x.l out (by omega)
  have c2 := a3Rq x.r (x.l.vs out) (by omega)
  subst e
  have hx : ((p ++ x :: q).map Li.da)[p.length]? = some x.da := g3q
  rw [h1q] at ih
  rw [show cvs (x :: q) out = cvs q (x.r.vs (x.l.vs out)) from rfl]
  obtain ⟨b, ⟨f, v, ks⟩, ⟨g, u, ms⟩⟩ := x
  apply H2q
  refine a6q (f0q (by simp)) ⟨p.length, rfl, _, _, _, _, _, _, _, hx, p.length, rfl, _, _, _, _, _, _, _, hx, _, c1, _, c2, ?_⟩
  rw [wr1 (n := p.length + 1) (by omega) (by simp at hl; omega)]
  exact ih
theorem a2kq (c : Cl) (hc : c.cn ≤ 1200000000000) : XC pg 149 [.dat c.da] [] (L ((cvs c.ls []).map In.da)) [] := by
 obtain ⟨ls⟩ := c
 have h1 : ls.length + (ls.map Li.cn).sum ≤ 1200000000000 := hc
 apply a2Qq
 exact L7q ls (by omega) ls [] [] rfl (by simp; omega)
theorem T9q (r : AV) (O : List (Nat × Ob)) (s10 : List (List Da)) (s11 s12 : Int) (w : List Int) (hw : w.length ≤ 4000000000000) : ∀ (q p out : List Int), w = p ++ q → out.length + q.length ≤ 5000000000000 → o4q r O s10 s11 (IntKind.wrap .i64 (s12 + 1)) ((adds out q).map In.da) → q6q r O s10 s11 s12 (w.length : Int) (p.length : Int) (out.map In.da) (w.map In.da)
 | [], p, out, e, _, h => by
  apply I2q
  subst e
  exact a2q (d9q (by simp)) h
 | x :: q, p, out, e, ho, h => by
  simp only [List.length_cons] at ho
  have h1 := V6q out x
  have ih := T9q r O s10 s11 s12 w hw q (p ++ [x]) (l9q out x) (by simp [e]) (by omega) h
  subst e
  rw [h1q] at ih
  apply I2q
  refine a6q (f0q (by simp)) ⟨p.length, rfl, ⟨by simp⟩, p.length, rfl, x, g3q, _, a0eq out x (by omega), ?_⟩
  rw [wr1 (n := p.length + 1) (by omega) (by simp at hw; omega)]
  exact ih
theorem N1q (ls : List Li) (hl : ls.length ≤ 1200000000000) : ∀ (q p : List Li) (out : List Int), ls = p ++ q → Srt out → out.length + 2 * q.length + (q.map Li.cn).sum ≤ 4000000000000 → (∀ x ∈ q, x.cn ≤ 1200000000000) → o4q (.one (.ol 0)) [(0, .tr 3 1 ((cvs q out).map In.da))] (ls.map Li.da) (ls.length : Int) (p.length : Int) (out.map In.da)
 | [], p, out, e, _, _, _ => by
  apply I6q
  subst e
  exact a2q (d9q (by simp)) ⟨rfl, rfl⟩
 | x :: q, p, out, e, hs, ho, hq => by
  simp only [List.length_cons, List.map_cons, List.sum_cons] at ho
  have h4 : x.cn = x.l.cn + x.r.cn := rfl
  have h0 := hq x (by simp)
  have h1 := x.l.vs_len out
  have h2 := x.r.vs_len (x.l.vs out)
  have h5 := x.l.vs_len []
  have h6 := x.r.vs_len []
  simp only [List.length_nil] at h5 h6
  have ih := N1q ls hl q (p ++ [x]) (x.r.vs (x.l.vs out)) (by simp [e]) (x.r.srt_vs (x.l.srt_vs hs)) (by omega) (fun y hy => hq y (List.mem_cons_of_mem _ hy))
  have c1 := a06q x.l (by omega)
  have c2 := a06q x.r (by omega)
  have c3 := a9kq (x.l.vs []) (x.r.vs []) (by omega) (by omega)
  have c4 := T9q (.one (.ol 0)) [(0, .tr 3 1 ((cvs (x :: q) out).map In.da))] (ls.map Li.da) (ls.length : Int) (p.length : Int) (x.l.vs [] ++ x.r.vs []) (by simp; omega) (x.l.vs [] ++ x.r.vs []) [] out rfl (by simp; omega)
  rw [afxq x hs] at c4
  subst e
  have hx : ((p ++ x :: q).map Li.da)[p.length]? = some x.da := g3q
  rw [h1q] at ih
  rw [wr1 (n := p.length + 1) (by omega) (by simp at hl; omega)] at c4
  have c5 := c4 ih
  obtain ⟨b, ⟨f, v, ks⟩, ⟨g, u, ms⟩⟩ := x
  apply I6q
  refine a6q (f0q (by simp)) ⟨p.length, rfl, _, _, _, _, _, _, _, hx, _, c1, _, c2, _, c3, ?_⟩
  rw [List.length_map]
  exact c5
theorem a2jq (c : Cl) (hc : c.cn ≤ 1200000000000) : XC pg 156 [.dat c.da] [] (.one (.ol 0)) [(0, .tr 3 1 ((cvs c.ls []).map In.da))] := by
 obtain ⟨ls⟩ := c
 have h1 : ls.length + (ls.map Li.cn).sum ≤ 1200000000000 := hc
 apply a2Pq
 have := N1q ls (by omega) ls [] [] rfl (by simp [Srt]) (by simp; omega) (fun x hx => by have := i8q (cn := Li.cn) hx; have h3 : cnL Li.cn ls = ls.length + (ls.map Li.cn).sum := rfl; omega)
 rw [List.length_map]
 exact this
theorem abeq (x : Sy) : XC pg 49 [.dat x.da] [] (.dat x.da) [] := by
 obtain ⟨a, b, c⟩ := x
 exact a81q ⟨rfl, rfl⟩
theorem a9eq (l : List Sy) (hc : cnL Sy.cn l ≤ 1048576) : XC pg 12 [L (l.map Sy.da)] [] (.one (.ol 0)) [(0, .tr 89 3 (l.map Sy.da))] := by
 have hl := g2q Sy.cn l
 apply a6Jq
 refine ⟨l.length, l.length, by simp, by simp, ⟨by omega, by omega, by omega⟩, ?_⟩
 have key := j8q (p := fun i => z4q (.one (.ol 0)) [(0, .tr 89 3 (l.map Sy.da))] (l.map Sy.da) (i : Int) ((l.map Sy.da).take i ++ List.replicate ((l.map Sy.da).length - i) [.str ⟨#[]⟩, .int .i64 0, .bool false])) l.length ?_ ?_ 0 (Nat.zero_le _)
 ·rw [List.take_zero, List.nil_append, Nat.sub_zero, List.length_map] at key
  exact key
 ·apply U1q
  refine a2q (d9q (by simp)) ⟨rfl, ?_⟩
  rw [a1rq rfl (by simp)]
 ·intro i hi ih
  obtain ⟨x, hx⟩ := d0q hi
  have hx1 := i4q (g := Sy.da) hx
  have hxc := abeq x
  have hd := Sy.da_len x
  obtain ⟨a, b, c⟩ := x
  apply U1q
  refine a6q (f0q (by simpa using hi)) ⟨i, rfl, _, _, _, hx1, _, _, _, hxc, i, rfl, ⟨by simp; omega⟩, i, by omega, _, _, _, a1qq rfl (by simpa using hi), ?_⟩
  rw [wr1 hi (by omega)]
  have he := a0dq (z := [.str ⟨#[]⟩, .int .i64 0, .bool false]) (n := (l.map Sy.da).length) rfl hx1 hd rfl
  exact he ▸ ih
def mkD : Nat → Int → ByteArray → ByteArray
 | 0, _, out => ⟨#[109]⟩ ++ out
 | f + 1, k, out => if 0 < k then mkD f (IntKind.wrap .i64 (Int.tdiv k 10)) (strOfNums [IntKind.wrap IntKind.u8 (IntKind.wrap .i64 (48 + Int.tmod k 10))] ++ out) else ⟨#[109]⟩ ++ out
theorem a87q : ∀ f (k : Nat) out, k < 10 ^ f → k ≤ 1000000000 → out.size + f ≤ 1000 → u0q (T (mkD f k out)) [] k out := by
 intro f
 induction f with
 | zero =>
  intro k out hk _ hs
  apply L6q
  refine a2q (decide_eq_false (by simp at hk; omega)) ⟨⟨?_⟩, rfl, rfl⟩
  rw [ByteArray.size_append]
  have : (⟨#[109]⟩ : ByteArray).size = 1 := rfl
  omega
 | succ f ih =>
  intro k out hk hk2 hs
  apply L6q
  refine d2q (fun h => ?_) fun h => ?_
  ·have e1 : mkD (f + 1) k out = mkD f (IntKind.wrap .i64 (Int.tdiv k 10)) (strOfNums [IntKind.wrap IntKind.u8 (IntKind.wrap .i64 (48 + Int.tmod k 10))] ++ out) := by
    rw [mkD, if_pos h]
   have e2 : IntKind.wrap .i64 (Int.tdiv (k : Int) 10) = ((k / 10 : Nat) : Int) := by
    have : Int.tdiv (k : Int) 10 = ((k / 10 : Nat) : Int) := rfl
    rw [this, wrI (by omega) (by omega)]
   have hsz : ∀ x : Int, (strOfNums [x] ++ out).size = 1 + out.size := fun x => by rw [ByteArray.size_append, a1Wq]; rfl
   refine ⟨⟨by decide⟩, [IntKind.wrap IntKind.u8 (IntKind.wrap .i64 (48 + Int.tmod k 10))], rfl, ⟨by rw [hsz]; omega⟩, ⟨by decide⟩, ?_⟩
   rw [e1, e2]
   exact ih (k / 10) _ (by rw [Nat.pow_succ] at hk; omega) (by omega) (by rw [hsz]; omega)
  ·have e1 : mkD (f + 1) k out = ⟨#[109]⟩ ++ out := by rw [mkD, if_neg h]
   rw [e1]
   refine ⟨⟨?_⟩, rfl, rfl⟩
   rw [ByteArray.size_append]
   have : (⟨#[109]⟩ : ByteArray).size = 1 := rfl
   omega
def mkT (k : Nat) : ByteArray := mkD 10 k ⟨#[]⟩
theorem a7Bq (k : Nat) (h1 : 1 ≤ k) (h2 : k ≤ 1000000000) : XC pg 57 [Z (k : Int)] [] (T (mkT k)) [] := by
 apply a4lq
 exact a2q (decide_eq_false (by omega)) (a87q 10 k _ (by omega) h2 (by decide))
theorem wrS {k : Nat} (hk : k ≤ 281474976710656) : IntKind.wrap .i64 ((k : Int) + 1) = ((k + 1 : Nat) : Int) := wrN hk 1 (by omega)
def a8Cq (k : Nat) : Bd → Bd
 | ⟨v, .mk f u ks⟩ => ⟨(((k : Nat) : Int)), .mk (((k + 1 : Nat) : Int)) (((k + 2 : Nat) : Int)) (Tm.mkL (k + 3) ks)⟩
def a1wq : Bd → Nat
 | ⟨v, .mk f u ks⟩ => 1 + 1 + 1 + 2 * Tm.cns ks
def a3eq : Nat → List Bd → List Bd
 | _, [] => []
 | k, x :: r => a8Cq k x :: a3eq (k + a1wq x) r
def L0q (l : List Bd) : Nat := (l.map a1wq).sum
theorem a5dq (x : Bd) (r : List Bd) : L0q (x :: r) = a1wq x + L0q r := by simp [L0q]
theorem a1cq : ∀ (l : List Bd) (P : List (List Da)) (k : Nat), P.length + l.length ≤ 10000000000000 → k + L0q l ≤ 10000000000000 → s0q (Z ((k + L0q l : Nat) : Int)) [(2000, .mt 116 4 (P ++ (a3eq k l).map Bd.da))] (k : Int) (P.length : Int) (P ++ l.map Bd.da)
 | [], P, k, _, _ => by
  apply J7q
  exact a2q (decide_eq_false (by simp)) ⟨by simp [L0q], by simp [a3eq]⟩
 | ⟨v, .mk f u ks⟩ :: r, P, k, hl, hk => by
  rw [a5dq] at hk ⊢
  simp only [List.length_cons, a1wq] at hl hk
  have hlen : ∀ y : List Da, P.length < (P ++ y :: r.map Bd.da).length := fun y => by simp
  have hm0 : XC pg 76 [.one (.ol 2000), Z ((k + 3 : Nat) : Int)] [(2000, .mt 30 3 (Tm.das ks))] (Z ((k + 3 + 2 * Tm.cns ks : Nat) : Int)) [(2000, .mt 30 3 (Tm.das (Tm.mkL (k + 3) ks)))] := O3q (.mk 0 0 ks) (k + 3) (by simp only [Tm.cn]; omega)
  have ih := a1cq r (P ++ [Bd.da (a8Cq k ⟨v, .mk f u ks⟩)]) (k + 3 + 2 * Tm.cns ks) (by simp; omega) (by omega)
  have e4 : (P ++ [Bd.da (a8Cq k ⟨v, .mk f u ks⟩)]).length = P.length + 1 := by simp
  rw [e4, List.append_assoc, List.append_assoc] at ih
  have eN : k + a1wq ⟨v, .mk f u ks⟩ = k + 3 + 2 * Tm.cns ks := by simp only [a1wq] <;> omega
  have eM : a3eq k (⟨v, .mk f u ks⟩ :: r) = a8Cq k ⟨v, .mk f u ks⟩ :: a3eq (k + 3 + 2 * Tm.cns ks) r := by rw [← eN]; rfl
  rw [eM, ← Nat.add_assoc, eN]
  apply J7q
  rw [List.map_cons, List.map_cons]
  have w0 : IntKind.wrap .i64 (((k : Nat) : Int) + 1) = ((k + 1 : Nat) : Int) := wrS (by omega)
  have w1 : IntKind.wrap .i64 (((k + 1 : Nat) : Int) + 1) = ((k + 2 : Nat) : Int) := wrS (by omega)
  have w2 : IntKind.wrap .i64 (((k + 2 : Nat) : Int) + 1) = ((k + 3 : Nat) : Int) := wrS (by omega)
  have wp : IntKind.wrap .i64 ((P.length : Int) + 1) = ((P.length + 1 : Nat) : Int) := wrS (by omega)
  rw [w0, w1, w2, wp]
  refine a6q (decide_eq_true (by simp; omega)) ?_
  refine ⟨P.length, rfl, ⟨hlen _⟩, P.length, rfl, _, _, _, _, f7q, ?_⟩
  rw [b5q]
  refine ⟨P.length, rfl, ⟨hlen _⟩, P.length, rfl, _, _, _, _, f7q, ?_⟩
  rw [b5q]
  refine ⟨P.length, rfl, ⟨hlen _⟩, P.length, rfl, _, _, _, _, f7q, ?_⟩
  rw [b5q]
  refine ⟨P.length, rfl, ⟨hlen _⟩, P.length, rfl, _, _, _, _, f7q, fun _ _ _ => ⟨by simp, _, _, _, _, f7q, ⟨fun y hy => X9q _ y hy⟩, _, _, hm0, ?_⟩⟩
  rw [b5q]
  exact ih
theorem a70q (l : List Bd) (k : Nat) (hl : l.length ≤ 10000000000000) (hk : k + L0q l ≤ 10000000000000) : XC pg 29 [.one (.ol 2000), Z (k : Int)] [(2000, .mt 116 4 (l.map Bd.da))] (Z ((k + L0q l : Nat) : Int)) [(2000, .mt 116 4 ((a3eq k l).map Bd.da))] := by
 apply a3Bq
 simpa using a1cq l [] k (by simpa using hl) hk
def a8Eq (k : Nat) : Sy → Sy
 | ⟨nm, ar, ac⟩ => ⟨(mkT (k)), (((k + 1 : Nat) : Int)), (decide (Int.tmod ((k + 2 : Nat) : Int) 3 = 0))⟩
def a1Pq : Sy → Nat
 | ⟨nm, ar, ac⟩ => 1 + 1 + 1
def a3jq : Nat → List Sy → List Sy
 | _, [] => []
 | k, x :: r => a8Eq k x :: a3jq (k + a1Pq x) r
def E1q (l : List Sy) : Nat := (l.map a1Pq).sum
theorem a4Xq (x : Sy) (r : List Sy) : E1q (x :: r) = a1Pq x + E1q r := by simp [E1q]
theorem a22q : ∀ (l : List Sy) (P : List (List Da)) (k : Nat), 1 ≤ k → P.length + l.length ≤ 100000000 → k + E1q l ≤ 100000000 → u3q (Z ((k + E1q l : Nat) : Int)) [(2000, .mt 89 3 (P ++ (a3jq k l).map Sy.da))] (k : Int) (P.length : Int) (P ++ l.map Sy.da)
 | [], P, k, _, _, _ => by
  apply M1q
  exact a2q (decide_eq_false (by simp)) ⟨by simp [E1q], by simp [a3jq]⟩
 | ⟨nm, ar, ac⟩ :: r, P, k, h1, hl, hk => by
  rw [a4Xq] at hk ⊢
  simp only [List.length_cons, a1Pq] at hl hk
  have hlen : ∀ y : List Da, P.length < (P ++ y :: r.map Sy.da).length := fun y => by simp
  have ih := a22q r (P ++ [Sy.da (a8Eq k ⟨nm, ar, ac⟩)]) (k + 3) (by omega) (by simp; omega) (by omega)
  have e4 : (P ++ [Sy.da (a8Eq k ⟨nm, ar, ac⟩)]).length = P.length + 1 := by simp
  rw [e4, List.append_assoc, List.append_assoc] at ih
  have eN : k + a1Pq ⟨nm, ar, ac⟩ = k + 3 := by simp only [a1Pq] <;> omega
  have eM : a3jq k (⟨nm, ar, ac⟩ :: r) = a8Eq k ⟨nm, ar, ac⟩ :: a3jq (k + 3) r := by rw [← eN]; rfl
  rw [eM, ← Nat.add_assoc, eN]
  apply M1q
  rw [List.map_cons, List.map_cons]
  have w0 : IntKind.wrap .i64 (((k : Nat) : Int) + 1) = ((k + 1 : Nat) : Int) := wrS (by omega)
  have w1 : IntKind.wrap .i64 (((k + 1 : Nat) : Int) + 1) = ((k + 2 : Nat) : Int) := wrS (by omega)
  have w2 : IntKind.wrap .i64 (((k + 2 : Nat) : Int) + 1) = ((k + 3 : Nat) : Int) := wrS (by omega)
  have wp : IntKind.wrap .i64 ((P.length : Int) + 1) = ((P.length + 1 : Nat) : Int) := wrS (by omega)
  rw [w0, w1, w2, wp]
  refine a6q (decide_eq_true (by simp; omega)) ?_
  refine ⟨_, a7Bq (k) (by omega) (by omega), P.length, rfl, ⟨hlen _⟩, P.length, rfl, _, _, _, f7q, ?_⟩
  rw [b5q]
  refine ⟨P.length, rfl, ⟨hlen _⟩, P.length, rfl, _, _, _, f7q, ?_⟩
  rw [b5q]
  refine ⟨⟨by decide⟩, P.length, rfl, ⟨hlen _⟩, P.length, rfl, _, _, _, f7q, ?_⟩
  rw [b5q]
  exact ih
theorem a8nq (l : List Sy) (k : Nat) (h1 : 1 ≤ k) (hl : l.length ≤ 100000000) (hk : k + E1q l ≤ 100000000) : XC pg 18 [.one (.ol 2000), Z (k : Int)] [(2000, .mt 89 3 (l.map Sy.da))] (Z ((k + E1q l : Nat) : Int)) [(2000, .mt 89 3 ((a3jq k l).map Sy.da))] := by
 apply a4qq
 simpa using a22q l [] k h1 (by simpa using hl) hk
end AM
end Go.Proofs.YtajcoogpmockiaaGreat
