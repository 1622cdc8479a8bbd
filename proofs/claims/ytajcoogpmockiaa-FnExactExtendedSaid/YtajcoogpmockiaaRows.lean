/-
  NARROWER THAN 'FOR EVERY INPUT', by the rows' own cells (each row's printed sentence says how): FnExactPutAt: loops · FnExactExtended: loops · FnExactLitApply: loops · FnExactClauseMake: loops · FnExactClauseApply: loops · FnExactTidy: loops.
  DERIVED. THE GIVEN ROWS OF THIS SEAT. 6 by the template 'for every input the law returns true; each argument reads behind the call as it read before'; 0 by the template 'total and deterministic' (their statements: YtajcoogpmockiaaTotals.lean).
  GIVEN WITH THE SEED: the statements are not yours to turn. If you find one false, say at which input.
  Laid BY PROGRAM, IN A SANDBOX (cutbox-rows.mjs): the forced cells as the released guide's own fill.sh prints them over the translation c79396f05da900ef… (all of the seat's roots in one cut). By AI agents, Wed Nov 11 2026. No macro, syntax, notation, axiom, sorry.
-/
import Derived.Test.YtajcoogpmockiaaChecked
import GoSem.Claim
import GoSem.ClaimJoined
import GoSem.ClaimMapViews
import Derived.JoinedTies
import Derived.KernelRfl
namespace Go.Proofs.Ytajcoogpmockiaa
/- THE CELL 'sum', in the pinned program and in every row, IS THE sha256 OF THE DUMP (.gsa) THAT YtajcoogpmockiaaProg.lean LOADS. Nothing in Lean hashes anything: it is a label: what it is worth is what the hold of that sum in a sandbox is worth. -/
noncomputable def Try.pinned : Pinned := { name := "ytajcoogpmockiaa", sum := "c79396f05da900efe0a6efb33b7275d0cbd614318fc9fa4cb90bf617303b3997", checked := Try.checked }
namespace Rows
def none {H : Type} : Left H := { results := [], args := [] }

/-- 'laws.FnExactPutAt': WHATEVER THE INPUT: true; the input reads as it did. -/
def fnExactPutAtSpec : ChangeSpec := { name := "fnExactPutAt", fn := fun _ => fun
  | [d1, d2, d3, d4] => { results := [.lit (.bool true)], args := [d1, d2, d3, d4] }
  | _ => none }
def fnExactPutAtRow : OpenClaim := { program := "ytajcoogpmockiaa", sum := "c79396f05da900efe0a6efb33b7275d0cbd614318fc9fa4cb90bf617303b3997", func := "loop.example/g00461/laws.FnExactPutAt", spec := "fnExactPutAt", unfollowed := true, recurses := true, loops := true, apart := false }
def FnExactPutAtSaid : Prop := fnExactPutAtRow.holds Try.pinned (OpenSpec.ofChange fnExactPutAtSpec)

/-- ITS FALSE NEIGHBOUR: 'it returns false'. Refute it at one input. -/
def fnExactPutAtWrong : ChangeSpec := { name := "fnExactPutAt", fn := fun _ => fun
  | [d1, d2, d3, d4] => { results := [.lit (.bool false)], args := [d1, d2, d3, d4] }
  | _ => none }
def FnExactPutAtWrongFalsely : Prop := fnExactPutAtRow.holds Try.pinned (OpenSpec.ofChange fnExactPutAtWrong)

/-- 'laws.FnExactExtended': WHATEVER THE INPUT: true; the input reads as it did. -/
def fnExactExtendedSpec : ChangeSpec := { name := "fnExactExtended", fn := fun _ => fun
  | [d1, d2] => { results := [.lit (.bool true)], args := [d1, d2] }
  | _ => none }
def fnExactExtendedRow : OpenClaim := { program := "ytajcoogpmockiaa", sum := "c79396f05da900efe0a6efb33b7275d0cbd614318fc9fa4cb90bf617303b3997", func := "loop.example/g00461/laws.FnExactExtended", spec := "fnExactExtended", unfollowed := true, recurses := true, loops := true, apart := false }
def FnExactExtendedSaid : Prop := fnExactExtendedRow.holds Try.pinned (OpenSpec.ofChange fnExactExtendedSpec)

/-- ITS FALSE NEIGHBOUR: 'it returns false'. Refute it at one input. -/
def fnExactExtendedWrong : ChangeSpec := { name := "fnExactExtended", fn := fun _ => fun
  | [d1, d2] => { results := [.lit (.bool false)], args := [d1, d2] }
  | _ => none }
def FnExactExtendedWrongFalsely : Prop := fnExactExtendedRow.holds Try.pinned (OpenSpec.ofChange fnExactExtendedWrong)

/-- 'laws.FnExactLitApply': WHATEVER THE INPUT: true; the input reads as it did. -/
def fnExactLitApplySpec : ChangeSpec := { name := "fnExactLitApply", fn := fun _ => fun
  | [d1, d2, d3] => { results := [.lit (.bool true)], args := [d1, d2, d3] }
  | _ => none }
def fnExactLitApplyRow : OpenClaim := { program := "ytajcoogpmockiaa", sum := "c79396f05da900efe0a6efb33b7275d0cbd614318fc9fa4cb90bf617303b3997", func := "loop.example/g00461/laws.FnExactLitApply", spec := "fnExactLitApply", unfollowed := true, recurses := true, loops := true, apart := false }
def FnExactLitApplySaid : Prop := fnExactLitApplyRow.holds Try.pinned (OpenSpec.ofChange fnExactLitApplySpec)

/-- ITS FALSE NEIGHBOUR: 'it returns false'. Refute it at one input. -/
def fnExactLitApplyWrong : ChangeSpec := { name := "fnExactLitApply", fn := fun _ => fun
  | [d1, d2, d3] => { results := [.lit (.bool false)], args := [d1, d2, d3] }
  | _ => none }
def FnExactLitApplyWrongFalsely : Prop := fnExactLitApplyRow.holds Try.pinned (OpenSpec.ofChange fnExactLitApplyWrong)

/-- 'laws.FnExactClauseMake': WHATEVER THE INPUT: true; the input reads as it did. -/
def fnExactClauseMakeSpec : ChangeSpec := { name := "fnExactClauseMake", fn := fun _ => fun
  | [d1, d2] => { results := [.lit (.bool true)], args := [d1, d2] }
  | _ => none }
def fnExactClauseMakeRow : OpenClaim := { program := "ytajcoogpmockiaa", sum := "c79396f05da900efe0a6efb33b7275d0cbd614318fc9fa4cb90bf617303b3997", func := "loop.example/g00461/laws.FnExactClauseMake", spec := "fnExactClauseMake", unfollowed := true, recurses := true, loops := true, apart := false }
def FnExactClauseMakeSaid : Prop := fnExactClauseMakeRow.holds Try.pinned (OpenSpec.ofChange fnExactClauseMakeSpec)

/-- ITS FALSE NEIGHBOUR: 'it returns false'. Refute it at one input. -/
def fnExactClauseMakeWrong : ChangeSpec := { name := "fnExactClauseMake", fn := fun _ => fun
  | [d1, d2] => { results := [.lit (.bool false)], args := [d1, d2] }
  | _ => none }
def FnExactClauseMakeWrongFalsely : Prop := fnExactClauseMakeRow.holds Try.pinned (OpenSpec.ofChange fnExactClauseMakeWrong)

/-- 'laws.FnExactClauseApply': WHATEVER THE INPUT: true; the input reads as it did. -/
def fnExactClauseApplySpec : ChangeSpec := { name := "fnExactClauseApply", fn := fun _ => fun
  | [d1, d2, d3] => { results := [.lit (.bool true)], args := [d1, d2, d3] }
  | _ => none }
def fnExactClauseApplyRow : OpenClaim := { program := "ytajcoogpmockiaa", sum := "c79396f05da900efe0a6efb33b7275d0cbd614318fc9fa4cb90bf617303b3997", func := "loop.example/g00461/laws.FnExactClauseApply", spec := "fnExactClauseApply", unfollowed := true, recurses := true, loops := true, apart := false }
def FnExactClauseApplySaid : Prop := fnExactClauseApplyRow.holds Try.pinned (OpenSpec.ofChange fnExactClauseApplySpec)

/-- ITS FALSE NEIGHBOUR: 'it returns false'. Refute it at one input. -/
def fnExactClauseApplyWrong : ChangeSpec := { name := "fnExactClauseApply", fn := fun _ => fun
  | [d1, d2, d3] => { results := [.lit (.bool false)], args := [d1, d2, d3] }
  | _ => none }
def FnExactClauseApplyWrongFalsely : Prop := fnExactClauseApplyRow.holds Try.pinned (OpenSpec.ofChange fnExactClauseApplyWrong)

/-- 'laws.FnExactTidy': WHATEVER THE INPUT: true; the input reads as it did. -/
def fnExactTidySpec : ChangeSpec := { name := "fnExactTidy", fn := fun _ => fun
  | [d1, d2] => { results := [.lit (.bool true)], args := [d1, d2] }
  | _ => none }
def fnExactTidyRow : OpenClaim := { program := "ytajcoogpmockiaa", sum := "c79396f05da900efe0a6efb33b7275d0cbd614318fc9fa4cb90bf617303b3997", func := "loop.example/g00461/laws.FnExactTidy", spec := "fnExactTidy", inPlace := ["slices.overlaps[int]"], unfollowed := true, recurses := true, loops := true, apart := false }
def FnExactTidySaid : Prop := fnExactTidyRow.holds Try.pinned (OpenSpec.ofChange fnExactTidySpec)

/-- ITS FALSE NEIGHBOUR: 'it returns false'. Refute it at one input. -/
def fnExactTidyWrong : ChangeSpec := { name := "fnExactTidy", fn := fun _ => fun
  | [d1, d2] => { results := [.lit (.bool false)], args := [d1, d2] }
  | _ => none }
def FnExactTidyWrongFalsely : Prop := fnExactTidyRow.holds Try.pinned (OpenSpec.ofChange fnExactTidyWrong)

/- THE SECOND FORM. 'bulk': how many values and letters a reading holds, each counted each time it is reached (what is shared counts as often as it is met; a slice's spare places count too). A statement '..UptoSaid' is the law's where the arguments, and the package variables that the reading takes, are together of bulk at most 1048576: NARROWER than '..Said'. Prove '..Said' where nothing that the law and all that it calls make is longer than what came in: it says more and counts as full. Else prove '..UptoSaid'. A law counts once. -/
mutual
def uptoBulk {H : Type} : DataW H → Nat
  | .lit (.string bytes) => bytes.length + 1
  | .lit _ => 1
  | .nil => 1
  | .ptr d => uptoBulk d + 1
  | .slice elems spare => uptoBulkAll elems + uptoBulkAll spare + 1
  | .agg parts => uptoBulkAll parts + 1
  | .iface _ d => uptoBulk d + 1
  | .map entries => uptoBulkEntries entries + 1
  | .held _ => 1
def uptoBulkAll {H : Type} : List (DataW H) → Nat
  | [] => 0
  | d :: r => uptoBulk d + uptoBulkAll r
def uptoBulkEntries {H : Type} : List (Lit × DataW H) → Nat
  | [] => 0
  | x :: r => uptoBulkEntry x + uptoBulkEntries r
def uptoBulkEntry {H : Type} : Lit × DataW H → Nat
  | (.string bytes, d) => bytes.length + uptoBulk d + 1
  | (_, d) => uptoBulk d + 1
 end
def uptoSmall : (H : Type) → List (DataW H) → Bool := fun _ ds => decide (uptoBulkAll ds ≤ 1048576)
def OpenSpec.upto (s : _root_.Go.ChangeSpec) : _root_.Go.OpenSpec := { _root_.Go.OpenSpec.ofChange s with cond := some uptoSmall }

/-- 'laws.FnExactPutAt', WHERE WHAT IT READS IS OF BULK AT MOST 1048576: true; the input reads as it did. -/
def fnExactPutAtUptoRow : OpenClaim := { program := "ytajcoogpmockiaa", sum := "c79396f05da900efe0a6efb33b7275d0cbd614318fc9fa4cb90bf617303b3997", func := "loop.example/g00461/laws.FnExactPutAt", spec := "fnExactPutAt", unfollowed := true, recurses := true, loops := true, apart := false, narrowed := true }
def FnExactPutAtUptoSaid : Prop := fnExactPutAtUptoRow.holds Try.pinned (OpenSpec.upto fnExactPutAtSpec)

/-- 'laws.FnExactExtended', WHERE WHAT IT READS IS OF BULK AT MOST 1048576: true; the input reads as it did. -/
def fnExactExtendedUptoRow : OpenClaim := { program := "ytajcoogpmockiaa", sum := "c79396f05da900efe0a6efb33b7275d0cbd614318fc9fa4cb90bf617303b3997", func := "loop.example/g00461/laws.FnExactExtended", spec := "fnExactExtended", unfollowed := true, recurses := true, loops := true, apart := false, narrowed := true }
def FnExactExtendedUptoSaid : Prop := fnExactExtendedUptoRow.holds Try.pinned (OpenSpec.upto fnExactExtendedSpec)

/-- 'laws.FnExactLitApply', WHERE WHAT IT READS IS OF BULK AT MOST 1048576: true; the input reads as it did. -/
def fnExactLitApplyUptoRow : OpenClaim := { program := "ytajcoogpmockiaa", sum := "c79396f05da900efe0a6efb33b7275d0cbd614318fc9fa4cb90bf617303b3997", func := "loop.example/g00461/laws.FnExactLitApply", spec := "fnExactLitApply", unfollowed := true, recurses := true, loops := true, apart := false, narrowed := true }
def FnExactLitApplyUptoSaid : Prop := fnExactLitApplyUptoRow.holds Try.pinned (OpenSpec.upto fnExactLitApplySpec)

/-- 'laws.FnExactClauseMake', WHERE WHAT IT READS IS OF BULK AT MOST 1048576: true; the input reads as it did. -/
def fnExactClauseMakeUptoRow : OpenClaim := { program := "ytajcoogpmockiaa", sum := "c79396f05da900efe0a6efb33b7275d0cbd614318fc9fa4cb90bf617303b3997", func := "loop.example/g00461/laws.FnExactClauseMake", spec := "fnExactClauseMake", unfollowed := true, recurses := true, loops := true, apart := false, narrowed := true }
def FnExactClauseMakeUptoSaid : Prop := fnExactClauseMakeUptoRow.holds Try.pinned (OpenSpec.upto fnExactClauseMakeSpec)

/-- 'laws.FnExactClauseApply', WHERE WHAT IT READS IS OF BULK AT MOST 1048576: true; the input reads as it did. -/
def fnExactClauseApplyUptoRow : OpenClaim := { program := "ytajcoogpmockiaa", sum := "c79396f05da900efe0a6efb33b7275d0cbd614318fc9fa4cb90bf617303b3997", func := "loop.example/g00461/laws.FnExactClauseApply", spec := "fnExactClauseApply", unfollowed := true, recurses := true, loops := true, apart := false, narrowed := true }
def FnExactClauseApplyUptoSaid : Prop := fnExactClauseApplyUptoRow.holds Try.pinned (OpenSpec.upto fnExactClauseApplySpec)

/-- 'laws.FnExactTidy', WHERE WHAT IT READS IS OF BULK AT MOST 1048576: true; the input reads as it did. -/
def fnExactTidyUptoRow : OpenClaim := { program := "ytajcoogpmockiaa", sum := "c79396f05da900efe0a6efb33b7275d0cbd614318fc9fa4cb90bf617303b3997", func := "loop.example/g00461/laws.FnExactTidy", spec := "fnExactTidy", inPlace := ["slices.overlaps[int]"], unfollowed := true, recurses := true, loops := true, apart := false, narrowed := true }
def FnExactTidyUptoSaid : Prop := fnExactTidyUptoRow.holds Try.pinned (OpenSpec.upto fnExactTidySpec)

end Rows
end Go.Proofs.Ytajcoogpmockiaa
