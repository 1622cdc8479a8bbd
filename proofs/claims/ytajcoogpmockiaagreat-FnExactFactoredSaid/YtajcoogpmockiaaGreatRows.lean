/-
  NARROWER THAN 'FOR EVERY INPUT', by the rows' own cells (each row's printed sentence says how): FnExactRuleOf: loops · FnExactSubsumes: loops · FnExactFactored: loops · FnExactResolved: loops · FnExactRedundant: loops · FnExactPutIn: loops.
  DERIVED. THE GIVEN ROWS OF THIS SEAT. 6 by the template 'for every input the law returns true; each argument reads behind the call as it read before'; 0 by the template 'total and deterministic' (their statements: YtajcoogpmockiaaGreatTotals.lean).
  GIVEN WITH THE SEED: the statements are not yours to turn. If you find one false, say at which input.
  Laid BY PROGRAM, IN A SANDBOX (cutbox-rows.mjs): the forced cells as the released guide's own fill.sh prints them over the translation 73fc4db96013940b… (all of the seat's roots in one cut). By AI agents, Wed Nov 11 2026. No macro, syntax, notation, axiom, sorry.
-/
import Derived.Test.YtajcoogpmockiaaGreatChecked
import GoSem.Claim
import GoSem.ClaimJoined
import GoSem.ClaimMapViews
import Derived.JoinedTies
import Derived.KernelRfl
namespace Go.Proofs.YtajcoogpmockiaaGreat
/- THE CELL 'sum', in the pinned program and in every row, IS THE sha256 OF THE DUMP (.gsa) THAT YtajcoogpmockiaaGreatProg.lean LOADS. Nothing in Lean hashes anything: it is a label: what it is worth is what the hold of that sum in a sandbox is worth. -/
noncomputable def Tryz.pinned : Pinned := { name := "ytajcoogpmockiaagreat", sum := "73fc4db96013940bfb82797fc2b845858ac319b4e808466c02505950d9f0f334", checked := Tryz.checked }
namespace Rows
def none {H : Type} : Left H := { results := [], args := [] }

/-- 'laws.FnExactRuleOf': WHATEVER THE INPUT: true; the input reads as it did. -/
def fnExactRuleOfSpec : ChangeSpec := { name := "fnExactRuleOf", fn := fun _ => fun
  | [d1, d2] => { results := [.lit (.bool true)], args := [d1, d2] }
  | _ => none }
def fnExactRuleOfRow : OpenClaim := { program := "ytajcoogpmockiaagreat", sum := "73fc4db96013940bfb82797fc2b845858ac319b4e808466c02505950d9f0f334", func := "loop.example/g00461/laws.FnExactRuleOf", spec := "fnExactRuleOf", inPlace := ["slices.overlaps[int]"], unfollowed := true, recurses := true, loops := true, apart := false }
def FnExactRuleOfSaid : Prop := fnExactRuleOfRow.holds Tryz.pinned (OpenSpec.ofChange fnExactRuleOfSpec)

/-- ITS FALSE NEIGHBOUR: 'it returns false'. Refute it at one input. -/
def fnExactRuleOfWrong : ChangeSpec := { name := "fnExactRuleOf", fn := fun _ => fun
  | [d1, d2] => { results := [.lit (.bool false)], args := [d1, d2] }
  | _ => none }
def FnExactRuleOfWrongFalsely : Prop := fnExactRuleOfRow.holds Tryz.pinned (OpenSpec.ofChange fnExactRuleOfWrong)

/-- 'laws.FnExactSubsumes': WHATEVER THE INPUT: true; the input reads as it did. -/
def fnExactSubsumesSpec : ChangeSpec := { name := "fnExactSubsumes", fn := fun _ => fun
  | [d1, d2, d3] => { results := [.lit (.bool true)], args := [d1, d2, d3] }
  | _ => none }
def fnExactSubsumesRow : OpenClaim := { program := "ytajcoogpmockiaagreat", sum := "73fc4db96013940bfb82797fc2b845858ac319b4e808466c02505950d9f0f334", func := "loop.example/g00461/laws.FnExactSubsumes", spec := "fnExactSubsumes", inPlace := ["slices.overlaps[loop.example/g00461/impl.Bind]"], unfollowed := true, recurses := true, loops := true, apart := false }
def FnExactSubsumesSaid : Prop := fnExactSubsumesRow.holds Tryz.pinned (OpenSpec.ofChange fnExactSubsumesSpec)

/-- ITS FALSE NEIGHBOUR: 'it returns false'. Refute it at one input. -/
def fnExactSubsumesWrong : ChangeSpec := { name := "fnExactSubsumes", fn := fun _ => fun
  | [d1, d2, d3] => { results := [.lit (.bool false)], args := [d1, d2, d3] }
  | _ => none }
def FnExactSubsumesWrongFalsely : Prop := fnExactSubsumesRow.holds Tryz.pinned (OpenSpec.ofChange fnExactSubsumesWrong)

/-- 'laws.FnExactFactored': WHATEVER THE INPUT: true; the input reads as it did. -/
def fnExactFactoredSpec : ChangeSpec := { name := "fnExactFactored", fn := fun _ => fun
  | [d1, d2, d3, d4, d5] => { results := [.lit (.bool true)], args := [d1, d2, d3, d4, d5] }
  | _ => none }
def fnExactFactoredRow : OpenClaim := { program := "ytajcoogpmockiaagreat", sum := "73fc4db96013940bfb82797fc2b845858ac319b4e808466c02505950d9f0f334", func := "loop.example/g00461/laws.FnExactFactored", spec := "fnExactFactored", inPlace := ["slices.overlaps[int]"], unfollowed := true, recurses := true, loops := true, apart := false }
def FnExactFactoredSaid : Prop := fnExactFactoredRow.holds Tryz.pinned (OpenSpec.ofChange fnExactFactoredSpec)

/-- ITS FALSE NEIGHBOUR: 'it returns false'. Refute it at one input. -/
def fnExactFactoredWrong : ChangeSpec := { name := "fnExactFactored", fn := fun _ => fun
  | [d1, d2, d3, d4, d5] => { results := [.lit (.bool false)], args := [d1, d2, d3, d4, d5] }
  | _ => none }
def FnExactFactoredWrongFalsely : Prop := fnExactFactoredRow.holds Tryz.pinned (OpenSpec.ofChange fnExactFactoredWrong)

/-- 'laws.FnExactResolved': WHATEVER THE INPUT: true; the input reads as it did. -/
def fnExactResolvedSpec : ChangeSpec := { name := "fnExactResolved", fn := fun _ => fun
  | [d1, d2, d3, d4] => { results := [.lit (.bool true)], args := [d1, d2, d3, d4] }
  | _ => none }
def fnExactResolvedRow : OpenClaim := { program := "ytajcoogpmockiaagreat", sum := "73fc4db96013940bfb82797fc2b845858ac319b4e808466c02505950d9f0f334", func := "loop.example/g00461/laws.FnExactResolved", spec := "fnExactResolved", inPlace := ["slices.overlaps[int]"], unfollowed := true, recurses := true, loops := true, apart := false }
def FnExactResolvedSaid : Prop := fnExactResolvedRow.holds Tryz.pinned (OpenSpec.ofChange fnExactResolvedSpec)

/-- ITS FALSE NEIGHBOUR: 'it returns false'. Refute it at one input. -/
def fnExactResolvedWrong : ChangeSpec := { name := "fnExactResolved", fn := fun _ => fun
  | [d1, d2, d3, d4] => { results := [.lit (.bool false)], args := [d1, d2, d3, d4] }
  | _ => none }
def FnExactResolvedWrongFalsely : Prop := fnExactResolvedRow.holds Tryz.pinned (OpenSpec.ofChange fnExactResolvedWrong)

/-- 'laws.FnExactRedundant': WHATEVER THE INPUT: true; the input reads as it did. -/
def fnExactRedundantSpec : ChangeSpec := { name := "fnExactRedundant", fn := fun _ => fun
  | [d1, d2, d3] => { results := [.lit (.bool true)], args := [d1, d2, d3] }
  | _ => none }
def fnExactRedundantRow : OpenClaim := { program := "ytajcoogpmockiaagreat", sum := "73fc4db96013940bfb82797fc2b845858ac319b4e808466c02505950d9f0f334", func := "loop.example/g00461/laws.FnExactRedundant", spec := "fnExactRedundant", inPlace := ["slices.overlaps[loop.example/g00461/impl.Bind]"], unfollowed := true, recurses := true, loops := true, apart := false }
def FnExactRedundantSaid : Prop := fnExactRedundantRow.holds Tryz.pinned (OpenSpec.ofChange fnExactRedundantSpec)

/-- ITS FALSE NEIGHBOUR: 'it returns false'. Refute it at one input. -/
def fnExactRedundantWrong : ChangeSpec := { name := "fnExactRedundant", fn := fun _ => fun
  | [d1, d2, d3] => { results := [.lit (.bool false)], args := [d1, d2, d3] }
  | _ => none }
def FnExactRedundantWrongFalsely : Prop := fnExactRedundantRow.holds Tryz.pinned (OpenSpec.ofChange fnExactRedundantWrong)

/-- 'laws.FnExactPutIn': WHATEVER THE INPUT: true; the input reads as it did. -/
def fnExactPutInSpec : ChangeSpec := { name := "fnExactPutIn", fn := fun _ => fun
  | [d1, d2, d3, d4] => { results := [.lit (.bool true)], args := [d1, d2, d3, d4] }
  | _ => none }
def fnExactPutInRow : OpenClaim := { program := "ytajcoogpmockiaagreat", sum := "73fc4db96013940bfb82797fc2b845858ac319b4e808466c02505950d9f0f334", func := "loop.example/g00461/laws.FnExactPutIn", spec := "fnExactPutIn", inPlace := ["slices.overlaps[int]"], unfollowed := true, recurses := true, loops := true, apart := false }
def FnExactPutInSaid : Prop := fnExactPutInRow.holds Tryz.pinned (OpenSpec.ofChange fnExactPutInSpec)

/-- ITS FALSE NEIGHBOUR: 'it returns false'. Refute it at one input. -/
def fnExactPutInWrong : ChangeSpec := { name := "fnExactPutIn", fn := fun _ => fun
  | [d1, d2, d3, d4] => { results := [.lit (.bool false)], args := [d1, d2, d3, d4] }
  | _ => none }
def FnExactPutInWrongFalsely : Prop := fnExactPutInRow.holds Tryz.pinned (OpenSpec.ofChange fnExactPutInWrong)

/- THE SECOND FORM. 'bulk': how many values and letters a reading holds, each counted each time it is reached (what is shared counts as often as it is met; a slice's spare places count too). A statement '..UptoSaid' is the law's where the arguments, and the package variables that the reading takes, are together of bulk at most 1048576: NARROWER than '..Said'. Prove '..Said' where nothing that the law and all that it calls make is longer than what came in: it says more and counts as full. Else prove '..UptoSaid'. A law counts once. -/
mutual
def uptoBulk {H : Type} : DataW H → Nat
  | .lit (.string bytes) => bytes.length + 1
  | .lit _ => 1
  | .nil => 1
  | .ptr d => uptoBulk d + 1
  | .slice elems spare => uptoBulkAll elems + uptoBulkAll spare + 1
  | .agg parts => uptoBulkAll parts + 1
  | .iface _ d => uptoBulk d + 1
  | .map entries => uptoBulkEntries entries + 1
  | .held _ => 1
def uptoBulkAll {H : Type} : List (DataW H) → Nat
  | [] => 0
  | d :: r => uptoBulk d + uptoBulkAll r
def uptoBulkEntries {H : Type} : List (Lit × DataW H) → Nat
  | [] => 0
  | x :: r => uptoBulkEntry x + uptoBulkEntries r
def uptoBulkEntry {H : Type} : Lit × DataW H → Nat
  | (.string bytes, d) => bytes.length + uptoBulk d + 1
  | (_, d) => uptoBulk d + 1
 end
def uptoSmall : (H : Type) → List (DataW H) → Bool := fun _ ds => decide (uptoBulkAll ds ≤ 1048576)
def OpenSpec.upto (s : _root_.Go.ChangeSpec) : _root_.Go.OpenSpec := { _root_.Go.OpenSpec.ofChange s with cond := some uptoSmall }

/-- 'laws.FnExactRuleOf', WHERE WHAT IT READS IS OF BULK AT MOST 1048576: true; the input reads as it did. -/
def fnExactRuleOfUptoRow : OpenClaim := { program := "ytajcoogpmockiaagreat", sum := "73fc4db96013940bfb82797fc2b845858ac319b4e808466c02505950d9f0f334", func := "loop.example/g00461/laws.FnExactRuleOf", spec := "fnExactRuleOf", inPlace := ["slices.overlaps[int]"], unfollowed := true, recurses := true, loops := true, apart := false, narrowed := true }
def FnExactRuleOfUptoSaid : Prop := fnExactRuleOfUptoRow.holds Tryz.pinned (OpenSpec.upto fnExactRuleOfSpec)

/-- 'laws.FnExactSubsumes', WHERE WHAT IT READS IS OF BULK AT MOST 1048576: true; the input reads as it did. -/
def fnExactSubsumesUptoRow : OpenClaim := { program := "ytajcoogpmockiaagreat", sum := "73fc4db96013940bfb82797fc2b845858ac319b4e808466c02505950d9f0f334", func := "loop.example/g00461/laws.FnExactSubsumes", spec := "fnExactSubsumes", inPlace := ["slices.overlaps[loop.example/g00461/impl.Bind]"], unfollowed := true, recurses := true, loops := true, apart := false, narrowed := true }
def FnExactSubsumesUptoSaid : Prop := fnExactSubsumesUptoRow.holds Tryz.pinned (OpenSpec.upto fnExactSubsumesSpec)

/-- 'laws.FnExactFactored', WHERE WHAT IT READS IS OF BULK AT MOST 1048576: true; the input reads as it did. -/
def fnExactFactoredUptoRow : OpenClaim := { program := "ytajcoogpmockiaagreat", sum := "73fc4db96013940bfb82797fc2b845858ac319b4e808466c02505950d9f0f334", func := "loop.example/g00461/laws.FnExactFactored", spec := "fnExactFactored", inPlace := ["slices.overlaps[int]"], unfollowed := true, recurses := true, loops := true, apart := false, narrowed := true }
def FnExactFactoredUptoSaid : Prop := fnExactFactoredUptoRow.holds Tryz.pinned (OpenSpec.upto fnExactFactoredSpec)

/-- 'laws.FnExactResolved', WHERE WHAT IT READS IS OF BULK AT MOST 1048576: true; the input reads as it did. -/
def fnExactResolvedUptoRow : OpenClaim := { program := "ytajcoogpmockiaagreat", sum := "73fc4db96013940bfb82797fc2b845858ac319b4e808466c02505950d9f0f334", func := "loop.example/g00461/laws.FnExactResolved", spec := "fnExactResolved", inPlace := ["slices.overlaps[int]"], unfollowed := true, recurses := true, loops := true, apart := false, narrowed := true }
def FnExactResolvedUptoSaid : Prop := fnExactResolvedUptoRow.holds Tryz.pinned (OpenSpec.upto fnExactResolvedSpec)

/-- 'laws.FnExactRedundant', WHERE WHAT IT READS IS OF BULK AT MOST 1048576: true; the input reads as it did. -/
def fnExactRedundantUptoRow : OpenClaim := { program := "ytajcoogpmockiaagreat", sum := "73fc4db96013940bfb82797fc2b845858ac319b4e808466c02505950d9f0f334", func := "loop.example/g00461/laws.FnExactRedundant", spec := "fnExactRedundant", inPlace := ["slices.overlaps[loop.example/g00461/impl.Bind]"], unfollowed := true, recurses := true, loops := true, apart := false, narrowed := true }
def FnExactRedundantUptoSaid : Prop := fnExactRedundantUptoRow.holds Tryz.pinned (OpenSpec.upto fnExactRedundantSpec)

/-- 'laws.FnExactPutIn', WHERE WHAT IT READS IS OF BULK AT MOST 1048576: true; the input reads as it did. -/
def fnExactPutInUptoRow : OpenClaim := { program := "ytajcoogpmockiaagreat", sum := "73fc4db96013940bfb82797fc2b845858ac319b4e808466c02505950d9f0f334", func := "loop.example/g00461/laws.FnExactPutIn", spec := "fnExactPutIn", inPlace := ["slices.overlaps[int]"], unfollowed := true, recurses := true, loops := true, apart := false, narrowed := true }
def FnExactPutInUptoSaid : Prop := fnExactPutInUptoRow.holds Tryz.pinned (OpenSpec.upto fnExactPutInSpec)

end Rows
end Go.Proofs.YtajcoogpmockiaaGreat
