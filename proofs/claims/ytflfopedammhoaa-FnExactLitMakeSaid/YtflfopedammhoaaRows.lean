/-
  NARROWER THAN 'FOR EVERY INPUT', by the rows' own cells (each row's printed sentence says how): FnExactPlaces: loops · FnExactLess: loops · FnExactClauseVars: loops · FnExactLitMake: loops · FnExactPutAt: loops · FnExactExtended: loops · FnExactRuleOk: loops · FnExactLitApply: loops · FnExactClauseMake: loops · FnExactNeeds: loops · FnExactClauseApply: loops · FnExactTidy: loops.
  DERIVED. THE GIVEN ROWS OF THIS SEAT. 12 by the template 'for every input the law returns true; each argument reads behind the call as it read before'; 0 by the template 'total and deterministic' (their statements: YtflfopedammhoaaTotals.lean).
  GIVEN WITH THE SEED: the statements are not yours to turn. If you find one false, say at which input.
  Laid BY PROGRAM, IN A SANDBOX (cutbox-rows.mjs): the forced cells as the released guide's own fill.sh prints them over the translation 04b8a8e9a057542c… (all of the seat's roots in one cut). By AI agents, Wed Nov 11 2026. No macro, syntax, notation, axiom, sorry.
-/
import Derived.Test.YtflfopedammhoaaChecked
import GoSem.Claim
import GoSem.ClaimJoined
import GoSem.ClaimMapViews
import Derived.JoinedTies
import Derived.KernelRfl
namespace Go.Proofs.Ytflfopedammhoaa
/- THE CELL 'sum', in the pinned program and in every row, IS THE sha256 OF THE DUMP (.gsa) THAT YtflfopedammhoaaProg.lean LOADS. Nothing in Lean hashes anything: it is a label: what it is worth is what the hold of that sum in a sandbox is worth. -/
noncomputable def Try.pinned : Pinned := { name := "ytflfopedammhoaa", sum := "04b8a8e9a057542c524c3b263ae00bfe127a32e1eac50e3be7dba809a1aa28e3", checked := Try.checked }
namespace Rows
def none {H : Type} : Left H := { results := [], args := [] }

/-- 'laws.FnExactPlaces': WHATEVER THE INPUT: true; the input reads as it did. -/
def fnExactPlacesSpec : ChangeSpec := { name := "fnExactPlaces", fn := fun _ => fun
  | [d] => { results := [.lit (.bool true)], args := [d] }
  | _ => none }
def fnExactPlacesRow : OpenClaim := { program := "ytflfopedammhoaa", sum := "04b8a8e9a057542c524c3b263ae00bfe127a32e1eac50e3be7dba809a1aa28e3", func := "loop.example/g00461/laws.FnExactPlaces", spec := "fnExactPlaces", recurses := true, loops := true, apart := false }
def FnExactPlacesSaid : Prop := fnExactPlacesRow.holds Try.pinned (OpenSpec.ofChange fnExactPlacesSpec)

/-- ITS FALSE NEIGHBOUR: 'it returns false'. Refute it at one input. -/
def fnExactPlacesWrong : ChangeSpec := { name := "fnExactPlaces", fn := fun _ => fun
  | [d] => { results := [.lit (.bool false)], args := [d] }
  | _ => none }
def FnExactPlacesWrongFalsely : Prop := fnExactPlacesRow.holds Try.pinned (OpenSpec.ofChange fnExactPlacesWrong)

/-- 'laws.FnExactLess': WHATEVER THE INPUT: true; the input reads as it did. -/
def fnExactLessSpec : ChangeSpec := { name := "fnExactLess", fn := fun _ => fun
  | [d1, d2] => { results := [.lit (.bool true)], args := [d1, d2] }
  | _ => none }
def fnExactLessRow : OpenClaim := { program := "ytflfopedammhoaa", sum := "04b8a8e9a057542c524c3b263ae00bfe127a32e1eac50e3be7dba809a1aa28e3", func := "loop.example/g00461/laws.FnExactLess", spec := "fnExactLess", unfollowed := true, recurses := true, loops := true, apart := false }
def FnExactLessSaid : Prop := fnExactLessRow.holds Try.pinned (OpenSpec.ofChange fnExactLessSpec)

/-- ITS FALSE NEIGHBOUR: 'it returns false'. Refute it at one input. -/
def fnExactLessWrong : ChangeSpec := { name := "fnExactLess", fn := fun _ => fun
  | [d1, d2] => { results := [.lit (.bool false)], args := [d1, d2] }
  | _ => none }
def FnExactLessWrongFalsely : Prop := fnExactLessRow.holds Try.pinned (OpenSpec.ofChange fnExactLessWrong)

/-- 'laws.FnExactClauseVars': WHATEVER THE INPUT: true; the input reads as it did. -/
def fnExactClauseVarsSpec : ChangeSpec := { name := "fnExactClauseVars", fn := fun _ => fun
  | [d] => { results := [.lit (.bool true)], args := [d] }
  | _ => none }
def fnExactClauseVarsRow : OpenClaim := { program := "ytflfopedammhoaa", sum := "04b8a8e9a057542c524c3b263ae00bfe127a32e1eac50e3be7dba809a1aa28e3", func := "loop.example/g00461/laws.FnExactClauseVars", spec := "fnExactClauseVars", inPlace := ["slices.overlaps[int]"], unfollowed := true, recurses := true, loops := true, apart := false }
def FnExactClauseVarsSaid : Prop := fnExactClauseVarsRow.holds Try.pinned (OpenSpec.ofChange fnExactClauseVarsSpec)

/-- ITS FALSE NEIGHBOUR: 'it returns false'. Refute it at one input. -/
def fnExactClauseVarsWrong : ChangeSpec := { name := "fnExactClauseVars", fn := fun _ => fun
  | [d] => { results := [.lit (.bool false)], args := [d] }
  | _ => none }
def FnExactClauseVarsWrongFalsely : Prop := fnExactClauseVarsRow.holds Try.pinned (OpenSpec.ofChange fnExactClauseVarsWrong)

/-- 'laws.FnExactLitMake': WHATEVER THE INPUT: true; the input reads as it did. -/
def fnExactLitMakeSpec : ChangeSpec := { name := "fnExactLitMake", fn := fun _ => fun
  | [d1, d2, d3, d4] => { results := [.lit (.bool true)], args := [d1, d2, d3, d4] }
  | _ => none }
def fnExactLitMakeRow : OpenClaim := { program := "ytflfopedammhoaa", sum := "04b8a8e9a057542c524c3b263ae00bfe127a32e1eac50e3be7dba809a1aa28e3", func := "loop.example/g00461/laws.FnExactLitMake", spec := "fnExactLitMake", unfollowed := true, recurses := true, loops := true, apart := false }
def FnExactLitMakeSaid : Prop := fnExactLitMakeRow.holds Try.pinned (OpenSpec.ofChange fnExactLitMakeSpec)

/-- ITS FALSE NEIGHBOUR: 'it returns false'. Refute it at one input. -/
def fnExactLitMakeWrong : ChangeSpec := { name := "fnExactLitMake", fn := fun _ => fun
  | [d1, d2, d3, d4] => { results := [.lit (.bool false)], args := [d1, d2, d3, d4] }
  | _ => none }
def FnExactLitMakeWrongFalsely : Prop := fnExactLitMakeRow.holds Try.pinned (OpenSpec.ofChange fnExactLitMakeWrong)

/-- 'laws.FnExactPutAt': WHATEVER THE INPUT: true; the input reads as it did. -/
def fnExactPutAtSpec : ChangeSpec := { name := "fnExactPutAt", fn := fun _ => fun
  | [d1, d2, d3, d4] => { results := [.lit (.bool true)], args := [d1, d2, d3, d4] }
  | _ => none }
def fnExactPutAtRow : OpenClaim := { program := "ytflfopedammhoaa", sum := "04b8a8e9a057542c524c3b263ae00bfe127a32e1eac50e3be7dba809a1aa28e3", func := "loop.example/g00461/laws.FnExactPutAt", spec := "fnExactPutAt", unfollowed := true, recurses := true, loops := true, apart := false }
def FnExactPutAtSaid : Prop := fnExactPutAtRow.holds Try.pinned (OpenSpec.ofChange fnExactPutAtSpec)

/-- ITS FALSE NEIGHBOUR: 'it returns false'. Refute it at one input. -/
def fnExactPutAtWrong : ChangeSpec := { name := "fnExactPutAt", fn := fun _ => fun
  | [d1, d2, d3, d4] => { results := [.lit (.bool false)], args := [d1, d2, d3, d4] }
  | _ => none }
def FnExactPutAtWrongFalsely : Prop := fnExactPutAtRow.holds Try.pinned (OpenSpec.ofChange fnExactPutAtWrong)

/-- 'laws.FnExactExtended': WHATEVER THE INPUT: true; the input reads as it did. -/
def fnExactExtendedSpec : ChangeSpec := { name := "fnExactExtended", fn := fun _ => fun
  | [d1, d2] => { results := [.lit (.bool true)], args := [d1, d2] }
  | _ => none }
def fnExactExtendedRow : OpenClaim := { program := "ytflfopedammhoaa", sum := "04b8a8e9a057542c524c3b263ae00bfe127a32e1eac50e3be7dba809a1aa28e3", func := "loop.example/g00461/laws.FnExactExtended", spec := "fnExactExtended", unfollowed := true, recurses := true, loops := true, apart := false }
def FnExactExtendedSaid : Prop := fnExactExtendedRow.holds Try.pinned (OpenSpec.ofChange fnExactExtendedSpec)

/-- ITS FALSE NEIGHBOUR: 'it returns false'. Refute it at one input. -/
def fnExactExtendedWrong : ChangeSpec := { name := "fnExactExtended", fn := fun _ => fun
  | [d1, d2] => { results := [.lit (.bool false)], args := [d1, d2] }
  | _ => none }
def FnExactExtendedWrongFalsely : Prop := fnExactExtendedRow.holds Try.pinned (OpenSpec.ofChange fnExactExtendedWrong)

/-- 'laws.FnExactRuleOk': WHATEVER THE INPUT: true; the input reads as it did. -/
def fnExactRuleOkSpec : ChangeSpec := { name := "fnExactRuleOk", fn := fun _ => fun
  | [d1, d2] => { results := [.lit (.bool true)], args := [d1, d2] }
  | _ => none }
def fnExactRuleOkRow : OpenClaim := { program := "ytflfopedammhoaa", sum := "04b8a8e9a057542c524c3b263ae00bfe127a32e1eac50e3be7dba809a1aa28e3", func := "loop.example/g00461/laws.FnExactRuleOk", spec := "fnExactRuleOk", inPlace := ["slices.overlaps[int]"], unfollowed := true, recurses := true, loops := true, apart := false }
def FnExactRuleOkSaid : Prop := fnExactRuleOkRow.holds Try.pinned (OpenSpec.ofChange fnExactRuleOkSpec)

/-- ITS FALSE NEIGHBOUR: 'it returns false'. Refute it at one input. -/
def fnExactRuleOkWrong : ChangeSpec := { name := "fnExactRuleOk", fn := fun _ => fun
  | [d1, d2] => { results := [.lit (.bool false)], args := [d1, d2] }
  | _ => none }
def FnExactRuleOkWrongFalsely : Prop := fnExactRuleOkRow.holds Try.pinned (OpenSpec.ofChange fnExactRuleOkWrong)

/-- 'laws.FnExactLitApply': WHATEVER THE INPUT: true; the input reads as it did. -/
def fnExactLitApplySpec : ChangeSpec := { name := "fnExactLitApply", fn := fun _ => fun
  | [d1, d2, d3] => { results := [.lit (.bool true)], args := [d1, d2, d3] }
  | _ => none }
def fnExactLitApplyRow : OpenClaim := { program := "ytflfopedammhoaa", sum := "04b8a8e9a057542c524c3b263ae00bfe127a32e1eac50e3be7dba809a1aa28e3", func := "loop.example/g00461/laws.FnExactLitApply", spec := "fnExactLitApply", unfollowed := true, recurses := true, loops := true, apart := false }
def FnExactLitApplySaid : Prop := fnExactLitApplyRow.holds Try.pinned (OpenSpec.ofChange fnExactLitApplySpec)

/-- ITS FALSE NEIGHBOUR: 'it returns false'. Refute it at one input. -/
def fnExactLitApplyWrong : ChangeSpec := { name := "fnExactLitApply", fn := fun _ => fun
  | [d1, d2, d3] => { results := [.lit (.bool false)], args := [d1, d2, d3] }
  | _ => none }
def FnExactLitApplyWrongFalsely : Prop := fnExactLitApplyRow.holds Try.pinned (OpenSpec.ofChange fnExactLitApplyWrong)

/-- 'laws.FnExactClauseMake': WHATEVER THE INPUT: true; the input reads as it did. -/
def fnExactClauseMakeSpec : ChangeSpec := { name := "fnExactClauseMake", fn := fun _ => fun
  | [d1, d2] => { results := [.lit (.bool true)], args := [d1, d2] }
  | _ => none }
def fnExactClauseMakeRow : OpenClaim := { program := "ytflfopedammhoaa", sum := "04b8a8e9a057542c524c3b263ae00bfe127a32e1eac50e3be7dba809a1aa28e3", func := "loop.example/g00461/laws.FnExactClauseMake", spec := "fnExactClauseMake", unfollowed := true, recurses := true, loops := true, apart := false }
def FnExactClauseMakeSaid : Prop := fnExactClauseMakeRow.holds Try.pinned (OpenSpec.ofChange fnExactClauseMakeSpec)

/-- ITS FALSE NEIGHBOUR: 'it returns false'. Refute it at one input. -/
def fnExactClauseMakeWrong : ChangeSpec := { name := "fnExactClauseMake", fn := fun _ => fun
  | [d1, d2] => { results := [.lit (.bool false)], args := [d1, d2] }
  | _ => none }
def FnExactClauseMakeWrongFalsely : Prop := fnExactClauseMakeRow.holds Try.pinned (OpenSpec.ofChange fnExactClauseMakeWrong)

/-- 'laws.FnExactNeeds': WHATEVER THE INPUT: true; the input reads as it did. -/
def fnExactNeedsSpec : ChangeSpec := { name := "fnExactNeeds", fn := fun _ => fun
  | [d1, d2] => { results := [.lit (.bool true)], args := [d1, d2] }
  | _ => none }
def fnExactNeedsRow : OpenClaim := { program := "ytflfopedammhoaa", sum := "04b8a8e9a057542c524c3b263ae00bfe127a32e1eac50e3be7dba809a1aa28e3", func := "loop.example/g00461/laws.FnExactNeeds", spec := "fnExactNeeds", inPlace := ["slices.overlaps[int]"], unfollowed := true, recurses := true, loops := true, apart := false }
def FnExactNeedsSaid : Prop := fnExactNeedsRow.holds Try.pinned (OpenSpec.ofChange fnExactNeedsSpec)

/-- ITS FALSE NEIGHBOUR: 'it returns false'. Refute it at one input. -/
def fnExactNeedsWrong : ChangeSpec := { name := "fnExactNeeds", fn := fun _ => fun
  | [d1, d2] => { results := [.lit (.bool false)], args := [d1, d2] }
  | _ => none }
def FnExactNeedsWrongFalsely : Prop := fnExactNeedsRow.holds Try.pinned (OpenSpec.ofChange fnExactNeedsWrong)

/-- 'laws.FnExactClauseApply': WHATEVER THE INPUT: true; the input reads as it did. -/
def fnExactClauseApplySpec : ChangeSpec := { name := "fnExactClauseApply", fn := fun _ => fun
  | [d1, d2, d3] => { results := [.lit (.bool true)], args := [d1, d2, d3] }
  | _ => none }
def fnExactClauseApplyRow : OpenClaim := { program := "ytflfopedammhoaa", sum := "04b8a8e9a057542c524c3b263ae00bfe127a32e1eac50e3be7dba809a1aa28e3", func := "loop.example/g00461/laws.FnExactClauseApply", spec := "fnExactClauseApply", unfollowed := true, recurses := true, loops := true, apart := false }
def FnExactClauseApplySaid : Prop := fnExactClauseApplyRow.holds Try.pinned (OpenSpec.ofChange fnExactClauseApplySpec)

/-- ITS FALSE NEIGHBOUR: 'it returns false'. Refute it at one input. -/
def fnExactClauseApplyWrong : ChangeSpec := { name := "fnExactClauseApply", fn := fun _ => fun
  | [d1, d2, d3] => { results := [.lit (.bool false)], args := [d1, d2, d3] }
  | _ => none }
def FnExactClauseApplyWrongFalsely : Prop := fnExactClauseApplyRow.holds Try.pinned (OpenSpec.ofChange fnExactClauseApplyWrong)

/-- 'laws.FnExactTidy': WHATEVER THE INPUT: true; the input reads as it did. -/
def fnExactTidySpec : ChangeSpec := { name := "fnExactTidy", fn := fun _ => fun
  | [d1, d2] => { results := [.lit (.bool true)], args := [d1, d2] }
  | _ => none }
def fnExactTidyRow : OpenClaim := { program := "ytflfopedammhoaa", sum := "04b8a8e9a057542c524c3b263ae00bfe127a32e1eac50e3be7dba809a1aa28e3", func := "loop.example/g00461/laws.FnExactTidy", spec := "fnExactTidy", inPlace := ["slices.overlaps[int]"], unfollowed := true, recurses := true, loops := true, apart := false }
def FnExactTidySaid : Prop := fnExactTidyRow.holds Try.pinned (OpenSpec.ofChange fnExactTidySpec)

/-- ITS FALSE NEIGHBOUR: 'it returns false'. Refute it at one input. -/
def fnExactTidyWrong : ChangeSpec := { name := "fnExactTidy", fn := fun _ => fun
  | [d1, d2] => { results := [.lit (.bool false)], args := [d1, d2] }
  | _ => none }
def FnExactTidyWrongFalsely : Prop := fnExactTidyRow.holds Try.pinned (OpenSpec.ofChange fnExactTidyWrong)

/- THE SECOND FORM. 'bulk': how many values and letters a reading holds, each counted each time it is reached (what is shared counts as often as it is met; a slice's spare places count too). A statement '..UptoSaid' is the law's where the arguments, and the package variables that the reading takes, are together of bulk at most 1048576: NARROWER than '..Said'. Prove '..Said' where nothing that the law and all that it calls make is longer than what came in: it says more and counts as full. Else prove '..UptoSaid'. A law counts once. -/
mutual
def uptoBulk {H : Type} : DataW H → Nat
  | .lit (.string bytes) => bytes.length + 1
  | .lit _ => 1
  | .nil => 1
  | .ptr d => uptoBulk d + 1
  | .slice elems spare => uptoBulkAll elems + uptoBulkAll spare + 1
  | .agg parts => uptoBulkAll parts + 1
  | .iface _ d => uptoBulk d + 1
  | .map entries => uptoBulkEntries entries + 1
  | .held _ => 1
def uptoBulkAll {H : Type} : List (DataW H) → Nat
  | [] => 0
  | d :: r => uptoBulk d + uptoBulkAll r
def uptoBulkEntries {H : Type} : List (Lit × DataW H) → Nat
  | [] => 0
  | x :: r => uptoBulkEntry x + uptoBulkEntries r
def uptoBulkEntry {H : Type} : Lit × DataW H → Nat
  | (.string bytes, d) => bytes.length + uptoBulk d + 1
  | (_, d) => uptoBulk d + 1
 end
def uptoSmall : (H : Type) → List (DataW H) → Bool := fun _ ds => decide (uptoBulkAll ds ≤ 1048576)
def OpenSpec.upto (s : _root_.Go.ChangeSpec) : _root_.Go.OpenSpec := { _root_.Go.OpenSpec.ofChange s with cond := some uptoSmall }

/-- 'laws.FnExactPlaces', WHERE WHAT IT READS IS OF BULK AT MOST 1048576: true; the input reads as it did. -/
def fnExactPlacesUptoRow : OpenClaim := { program := "ytflfopedammhoaa", sum := "04b8a8e9a057542c524c3b263ae00bfe127a32e1eac50e3be7dba809a1aa28e3", func := "loop.example/g00461/laws.FnExactPlaces", spec := "fnExactPlaces", recurses := true, loops := true, apart := false, narrowed := true }
def FnExactPlacesUptoSaid : Prop := fnExactPlacesUptoRow.holds Try.pinned (OpenSpec.upto fnExactPlacesSpec)

/-- 'laws.FnExactLess', WHERE WHAT IT READS IS OF BULK AT MOST 1048576: true; the input reads as it did. -/
def fnExactLessUptoRow : OpenClaim := { program := "ytflfopedammhoaa", sum := "04b8a8e9a057542c524c3b263ae00bfe127a32e1eac50e3be7dba809a1aa28e3", func := "loop.example/g00461/laws.FnExactLess", spec := "fnExactLess", unfollowed := true, recurses := true, loops := true, apart := false, narrowed := true }
def FnExactLessUptoSaid : Prop := fnExactLessUptoRow.holds Try.pinned (OpenSpec.upto fnExactLessSpec)

/-- 'laws.FnExactClauseVars', WHERE WHAT IT READS IS OF BULK AT MOST 1048576: true; the input reads as it did. -/
def fnExactClauseVarsUptoRow : OpenClaim := { program := "ytflfopedammhoaa", sum := "04b8a8e9a057542c524c3b263ae00bfe127a32e1eac50e3be7dba809a1aa28e3", func := "loop.example/g00461/laws.FnExactClauseVars", spec := "fnExactClauseVars", inPlace := ["slices.overlaps[int]"], unfollowed := true, recurses := true, loops := true, apart := false, narrowed := true }
def FnExactClauseVarsUptoSaid : Prop := fnExactClauseVarsUptoRow.holds Try.pinned (OpenSpec.upto fnExactClauseVarsSpec)

/-- 'laws.FnExactLitMake', WHERE WHAT IT READS IS OF BULK AT MOST 1048576: true; the input reads as it did. -/
def fnExactLitMakeUptoRow : OpenClaim := { program := "ytflfopedammhoaa", sum := "04b8a8e9a057542c524c3b263ae00bfe127a32e1eac50e3be7dba809a1aa28e3", func := "loop.example/g00461/laws.FnExactLitMake", spec := "fnExactLitMake", unfollowed := true, recurses := true, loops := true, apart := false, narrowed := true }
def FnExactLitMakeUptoSaid : Prop := fnExactLitMakeUptoRow.holds Try.pinned (OpenSpec.upto fnExactLitMakeSpec)

/-- 'laws.FnExactPutAt', WHERE WHAT IT READS IS OF BULK AT MOST 1048576: true; the input reads as it did. -/
def fnExactPutAtUptoRow : OpenClaim := { program := "ytflfopedammhoaa", sum := "04b8a8e9a057542c524c3b263ae00bfe127a32e1eac50e3be7dba809a1aa28e3", func := "loop.example/g00461/laws.FnExactPutAt", spec := "fnExactPutAt", unfollowed := true, recurses := true, loops := true, apart := false, narrowed := true }
def FnExactPutAtUptoSaid : Prop := fnExactPutAtUptoRow.holds Try.pinned (OpenSpec.upto fnExactPutAtSpec)

/-- 'laws.FnExactExtended', WHERE WHAT IT READS IS OF BULK AT MOST 1048576: true; the input reads as it did. -/
def fnExactExtendedUptoRow : OpenClaim := { program := "ytflfopedammhoaa", sum := "04b8a8e9a057542c524c3b263ae00bfe127a32e1eac50e3be7dba809a1aa28e3", func := "loop.example/g00461/laws.FnExactExtended", spec := "fnExactExtended", unfollowed := true, recurses := true, loops := true, apart := false, narrowed := true }
def FnExactExtendedUptoSaid : Prop := fnExactExtendedUptoRow.holds Try.pinned (OpenSpec.upto fnExactExtendedSpec)

/-- 'laws.FnExactRuleOk', WHERE WHAT IT READS IS OF BULK AT MOST 1048576: true; the input reads as it did. -/
def fnExactRuleOkUptoRow : OpenClaim := { program := "ytflfopedammhoaa", sum := "04b8a8e9a057542c524c3b263ae00bfe127a32e1eac50e3be7dba809a1aa28e3", func := "loop.example/g00461/laws.FnExactRuleOk", spec := "fnExactRuleOk", inPlace := ["slices.overlaps[int]"], unfollowed := true, recurses := true, loops := true, apart := false, narrowed := true }
def FnExactRuleOkUptoSaid : Prop := fnExactRuleOkUptoRow.holds Try.pinned (OpenSpec.upto fnExactRuleOkSpec)

/-- 'laws.FnExactLitApply', WHERE WHAT IT READS IS OF BULK AT MOST 1048576: true; the input reads as it did. -/
def fnExactLitApplyUptoRow : OpenClaim := { program := "ytflfopedammhoaa", sum := "04b8a8e9a057542c524c3b263ae00bfe127a32e1eac50e3be7dba809a1aa28e3", func := "loop.example/g00461/laws.FnExactLitApply", spec := "fnExactLitApply", unfollowed := true, recurses := true, loops := true, apart := false, narrowed := true }
def FnExactLitApplyUptoSaid : Prop := fnExactLitApplyUptoRow.holds Try.pinned (OpenSpec.upto fnExactLitApplySpec)

/-- 'laws.FnExactClauseMake', WHERE WHAT IT READS IS OF BULK AT MOST 1048576: true; the input reads as it did. -/
def fnExactClauseMakeUptoRow : OpenClaim := { program := "ytflfopedammhoaa", sum := "04b8a8e9a057542c524c3b263ae00bfe127a32e1eac50e3be7dba809a1aa28e3", func := "loop.example/g00461/laws.FnExactClauseMake", spec := "fnExactClauseMake", unfollowed := true, recurses := true, loops := true, apart := false, narrowed := true }
def FnExactClauseMakeUptoSaid : Prop := fnExactClauseMakeUptoRow.holds Try.pinned (OpenSpec.upto fnExactClauseMakeSpec)

/-- 'laws.FnExactNeeds', WHERE WHAT IT READS IS OF BULK AT MOST 1048576: true; the input reads as it did. -/
def fnExactNeedsUptoRow : OpenClaim := { program := "ytflfopedammhoaa", sum := "04b8a8e9a057542c524c3b263ae00bfe127a32e1eac50e3be7dba809a1aa28e3", func := "loop.example/g00461/laws.FnExactNeeds", spec := "fnExactNeeds", inPlace := ["slices.overlaps[int]"], unfollowed := true, recurses := true, loops := true, apart := false, narrowed := true }
def FnExactNeedsUptoSaid : Prop := fnExactNeedsUptoRow.holds Try.pinned (OpenSpec.upto fnExactNeedsSpec)

/-- 'laws.FnExactClauseApply', WHERE WHAT IT READS IS OF BULK AT MOST 1048576: true; the input reads as it did. -/
def fnExactClauseApplyUptoRow : OpenClaim := { program := "ytflfopedammhoaa", sum := "04b8a8e9a057542c524c3b263ae00bfe127a32e1eac50e3be7dba809a1aa28e3", func := "loop.example/g00461/laws.FnExactClauseApply", spec := "fnExactClauseApply", unfollowed := true, recurses := true, loops := true, apart := false, narrowed := true }
def FnExactClauseApplyUptoSaid : Prop := fnExactClauseApplyUptoRow.holds Try.pinned (OpenSpec.upto fnExactClauseApplySpec)

/-- 'laws.FnExactTidy', WHERE WHAT IT READS IS OF BULK AT MOST 1048576: true; the input reads as it did. -/
def fnExactTidyUptoRow : OpenClaim := { program := "ytflfopedammhoaa", sum := "04b8a8e9a057542c524c3b263ae00bfe127a32e1eac50e3be7dba809a1aa28e3", func := "loop.example/g00461/laws.FnExactTidy", spec := "fnExactTidy", inPlace := ["slices.overlaps[int]"], unfollowed := true, recurses := true, loops := true, apart := false, narrowed := true }
def FnExactTidyUptoSaid : Prop := fnExactTidyUptoRow.holds Try.pinned (OpenSpec.upto fnExactTidySpec)

end Rows
end Go.Proofs.Ytflfopedammhoaa
