/-
  NARROWER THAN 'FOR EVERY INPUT', by the rows' own cells (each row's printed sentence says how): FnExactLitText: loops · FnExactLitOk: loops · FnExactStepText: loops · FnExactRefuted: loops · FnExactClauseText: loops · FnExactClauseOk: loops · FnExactProblemText: loops · FnExactVerdict: loops · FnExactWorkText: loops · FnExactRuleOk: loops · FnExactClauseVars: loops · FnExactNeeds: loops.
  DERIVED. THE GIVEN ROWS OF THIS SEAT. 12 by the template 'for every input the law returns true; each argument reads behind the call as it read before'; 0 by the template 'total and deterministic' (their statements: YtbgpofimflnabaaTotals.lean).
  GIVEN WITH THE SEED: the statements are not yours to turn. If you find one false, say at which input.
  Laid BY PROGRAM, IN A SANDBOX (cutbox-rows.mjs): the forced cells as the released guide's own fill.sh prints them over the translation 16477207613be412… (all of the seat's roots in one cut). By AI agents, Wed Nov 11 2026. No macro, syntax, notation, axiom, sorry.
-/
import Derived.Test.YtbgpofimflnabaaChecked
import GoSem.Claim
import GoSem.ClaimJoined
import GoSem.ClaimMapViews
import Derived.JoinedTies
import Derived.KernelRfl
namespace Go.Proofs.Ytbgpofimflnabaa
/- THE CELL 'sum', in the pinned program and in every row, IS THE sha256 OF THE DUMP (.gsa) THAT YtbgpofimflnabaaProg.lean LOADS. Nothing in Lean hashes anything: it is a label: what it is worth is what the hold of that sum in a sandbox is worth. -/
noncomputable def Try.pinned : Pinned := { name := "ytbgpofimflnabaa", sum := "16477207613be41287f110fbc34ca181f9c094e3ff079b50c5413eac61f10eae", checked := Try.checked }
namespace Rows
def none {H : Type} : Left H := { results := [], args := [] }

/-- 'laws.FnExactLitText': WHATEVER THE INPUT: true; the input reads as it did. -/
def fnExactLitTextSpec : ChangeSpec := { name := "fnExactLitText", fn := fun _ => fun
  | [d1, d2] => { results := [.lit (.bool true)], args := [d1, d2] }
  | _ => none }
def fnExactLitTextRow : OpenClaim := { program := "ytbgpofimflnabaa", sum := "16477207613be41287f110fbc34ca181f9c094e3ff079b50c5413eac61f10eae", func := "loop.example/g00461/laws.FnExactLitText", spec := "fnExactLitText", inPlace := ["internal/abi.NoEscape", "internal/bytealg.MakeNoZero"], recurses := true, loops := true, apart := false }
def FnExactLitTextSaid : Prop := fnExactLitTextRow.holds Try.pinned (OpenSpec.ofChange fnExactLitTextSpec)

/-- ITS FALSE NEIGHBOUR: 'it returns false'. Refute it at one input. -/
def fnExactLitTextWrong : ChangeSpec := { name := "fnExactLitText", fn := fun _ => fun
  | [d1, d2] => { results := [.lit (.bool false)], args := [d1, d2] }
  | _ => none }
def FnExactLitTextWrongFalsely : Prop := fnExactLitTextRow.holds Try.pinned (OpenSpec.ofChange fnExactLitTextWrong)

/-- 'laws.FnExactLitOk': WHATEVER THE INPUT: true; the input reads as it did. -/
def fnExactLitOkSpec : ChangeSpec := { name := "fnExactLitOk", fn := fun _ => fun
  | [d1, d2] => { results := [.lit (.bool true)], args := [d1, d2] }
  | _ => none }
def fnExactLitOkRow : OpenClaim := { program := "ytbgpofimflnabaa", sum := "16477207613be41287f110fbc34ca181f9c094e3ff079b50c5413eac61f10eae", func := "loop.example/g00461/laws.FnExactLitOk", spec := "fnExactLitOk", unfollowed := true, recurses := true, loops := true, apart := false }
def FnExactLitOkSaid : Prop := fnExactLitOkRow.holds Try.pinned (OpenSpec.ofChange fnExactLitOkSpec)

/-- ITS FALSE NEIGHBOUR: 'it returns false'. Refute it at one input. -/
def fnExactLitOkWrong : ChangeSpec := { name := "fnExactLitOk", fn := fun _ => fun
  | [d1, d2] => { results := [.lit (.bool false)], args := [d1, d2] }
  | _ => none }
def FnExactLitOkWrongFalsely : Prop := fnExactLitOkRow.holds Try.pinned (OpenSpec.ofChange fnExactLitOkWrong)

/-- 'laws.FnExactStepText': WHATEVER THE INPUT: true; the input reads as it did. -/
def fnExactStepTextSpec : ChangeSpec := { name := "fnExactStepText", fn := fun _ => fun
  | [d] => { results := [.lit (.bool true)], args := [d] }
  | _ => none }
def fnExactStepTextRow : OpenClaim := { program := "ytbgpofimflnabaa", sum := "16477207613be41287f110fbc34ca181f9c094e3ff079b50c5413eac61f10eae", func := "loop.example/g00461/laws.FnExactStepText", spec := "fnExactStepText", recurses := true, loops := true, apart := false }
def FnExactStepTextSaid : Prop := fnExactStepTextRow.holds Try.pinned (OpenSpec.ofChange fnExactStepTextSpec)

/-- ITS FALSE NEIGHBOUR: 'it returns false'. Refute it at one input. -/
def fnExactStepTextWrong : ChangeSpec := { name := "fnExactStepText", fn := fun _ => fun
  | [d] => { results := [.lit (.bool false)], args := [d] }
  | _ => none }
def FnExactStepTextWrongFalsely : Prop := fnExactStepTextRow.holds Try.pinned (OpenSpec.ofChange fnExactStepTextWrong)

/-- 'laws.FnExactRefuted': WHATEVER THE INPUT: true; the input reads as it did. -/
def fnExactRefutedSpec : ChangeSpec := { name := "fnExactRefuted", fn := fun _ => fun
  | [d] => { results := [.lit (.bool true)], args := [d] }
  | _ => none }
def fnExactRefutedRow : OpenClaim := { program := "ytbgpofimflnabaa", sum := "16477207613be41287f110fbc34ca181f9c094e3ff079b50c5413eac61f10eae", func := "loop.example/g00461/laws.FnExactRefuted", spec := "fnExactRefuted", unfollowed := true, recurses := true, loops := true, apart := false }
def FnExactRefutedSaid : Prop := fnExactRefutedRow.holds Try.pinned (OpenSpec.ofChange fnExactRefutedSpec)

/-- ITS FALSE NEIGHBOUR: 'it returns false'. Refute it at one input. -/
def fnExactRefutedWrong : ChangeSpec := { name := "fnExactRefuted", fn := fun _ => fun
  | [d] => { results := [.lit (.bool false)], args := [d] }
  | _ => none }
def FnExactRefutedWrongFalsely : Prop := fnExactRefutedRow.holds Try.pinned (OpenSpec.ofChange fnExactRefutedWrong)

/-- 'laws.FnExactClauseText': WHATEVER THE INPUT: true; the input reads as it did. -/
def fnExactClauseTextSpec : ChangeSpec := { name := "fnExactClauseText", fn := fun _ => fun
  | [d1, d2] => { results := [.lit (.bool true)], args := [d1, d2] }
  | _ => none }
def fnExactClauseTextRow : OpenClaim := { program := "ytbgpofimflnabaa", sum := "16477207613be41287f110fbc34ca181f9c094e3ff079b50c5413eac61f10eae", func := "loop.example/g00461/laws.FnExactClauseText", spec := "fnExactClauseText", inPlace := ["internal/abi.NoEscape", "internal/bytealg.MakeNoZero"], recurses := true, loops := true, apart := false }
def FnExactClauseTextSaid : Prop := fnExactClauseTextRow.holds Try.pinned (OpenSpec.ofChange fnExactClauseTextSpec)

/-- ITS FALSE NEIGHBOUR: 'it returns false'. Refute it at one input. -/
def fnExactClauseTextWrong : ChangeSpec := { name := "fnExactClauseText", fn := fun _ => fun
  | [d1, d2] => { results := [.lit (.bool false)], args := [d1, d2] }
  | _ => none }
def FnExactClauseTextWrongFalsely : Prop := fnExactClauseTextRow.holds Try.pinned (OpenSpec.ofChange fnExactClauseTextWrong)

/-- 'laws.FnExactClauseOk': WHATEVER THE INPUT: true; the input reads as it did. -/
def fnExactClauseOkSpec : ChangeSpec := { name := "fnExactClauseOk", fn := fun _ => fun
  | [d1, d2] => { results := [.lit (.bool true)], args := [d1, d2] }
  | _ => none }
def fnExactClauseOkRow : OpenClaim := { program := "ytbgpofimflnabaa", sum := "16477207613be41287f110fbc34ca181f9c094e3ff079b50c5413eac61f10eae", func := "loop.example/g00461/laws.FnExactClauseOk", spec := "fnExactClauseOk", unfollowed := true, recurses := true, loops := true, apart := false }
def FnExactClauseOkSaid : Prop := fnExactClauseOkRow.holds Try.pinned (OpenSpec.ofChange fnExactClauseOkSpec)

/-- ITS FALSE NEIGHBOUR: 'it returns false'. Refute it at one input. -/
def fnExactClauseOkWrong : ChangeSpec := { name := "fnExactClauseOk", fn := fun _ => fun
  | [d1, d2] => { results := [.lit (.bool false)], args := [d1, d2] }
  | _ => none }
def FnExactClauseOkWrongFalsely : Prop := fnExactClauseOkRow.holds Try.pinned (OpenSpec.ofChange fnExactClauseOkWrong)

/-- 'laws.FnExactProblemText': WHATEVER THE INPUT: true; the input reads as it did. -/
def fnExactProblemTextSpec : ChangeSpec := { name := "fnExactProblemText", fn := fun _ => fun
  | [d1, d2] => { results := [.lit (.bool true)], args := [d1, d2] }
  | _ => none }
def fnExactProblemTextRow : OpenClaim := { program := "ytbgpofimflnabaa", sum := "16477207613be41287f110fbc34ca181f9c094e3ff079b50c5413eac61f10eae", func := "loop.example/g00461/laws.FnExactProblemText", spec := "fnExactProblemText", inPlace := ["internal/abi.NoEscape", "internal/bytealg.MakeNoZero"], recurses := true, loops := true, apart := false }
def FnExactProblemTextSaid : Prop := fnExactProblemTextRow.holds Try.pinned (OpenSpec.ofChange fnExactProblemTextSpec)

/-- ITS FALSE NEIGHBOUR: 'it returns false'. Refute it at one input. -/
def fnExactProblemTextWrong : ChangeSpec := { name := "fnExactProblemText", fn := fun _ => fun
  | [d1, d2] => { results := [.lit (.bool false)], args := [d1, d2] }
  | _ => none }
def FnExactProblemTextWrongFalsely : Prop := fnExactProblemTextRow.holds Try.pinned (OpenSpec.ofChange fnExactProblemTextWrong)

/-- 'laws.FnExactVerdict': WHATEVER THE INPUT: true; the input reads as it did. -/
def fnExactVerdictSpec : ChangeSpec := { name := "fnExactVerdict", fn := fun _ => fun
  | [d] => { results := [.lit (.bool true)], args := [d] }
  | _ => none }
def fnExactVerdictRow : OpenClaim := { program := "ytbgpofimflnabaa", sum := "16477207613be41287f110fbc34ca181f9c094e3ff079b50c5413eac61f10eae", func := "loop.example/g00461/laws.FnExactVerdict", spec := "fnExactVerdict", unfollowed := true, recurses := true, loops := true, apart := false }
def FnExactVerdictSaid : Prop := fnExactVerdictRow.holds Try.pinned (OpenSpec.ofChange fnExactVerdictSpec)

/-- ITS FALSE NEIGHBOUR: 'it returns false'. Refute it at one input. -/
def fnExactVerdictWrong : ChangeSpec := { name := "fnExactVerdict", fn := fun _ => fun
  | [d] => { results := [.lit (.bool false)], args := [d] }
  | _ => none }
def FnExactVerdictWrongFalsely : Prop := fnExactVerdictRow.holds Try.pinned (OpenSpec.ofChange fnExactVerdictWrong)

/-- 'laws.FnExactWorkText': WHATEVER THE INPUT: true; the input reads as it did. -/
def fnExactWorkTextSpec : ChangeSpec := { name := "fnExactWorkText", fn := fun _ => fun
  | [d] => { results := [.lit (.bool true)], args := [d] }
  | _ => none }
def fnExactWorkTextRow : OpenClaim := { program := "ytbgpofimflnabaa", sum := "16477207613be41287f110fbc34ca181f9c094e3ff079b50c5413eac61f10eae", func := "loop.example/g00461/laws.FnExactWorkText", spec := "fnExactWorkText", recurses := true, loops := true, apart := false }
def FnExactWorkTextSaid : Prop := fnExactWorkTextRow.holds Try.pinned (OpenSpec.ofChange fnExactWorkTextSpec)

/-- ITS FALSE NEIGHBOUR: 'it returns false'. Refute it at one input. -/
def fnExactWorkTextWrong : ChangeSpec := { name := "fnExactWorkText", fn := fun _ => fun
  | [d] => { results := [.lit (.bool false)], args := [d] }
  | _ => none }
def FnExactWorkTextWrongFalsely : Prop := fnExactWorkTextRow.holds Try.pinned (OpenSpec.ofChange fnExactWorkTextWrong)

/-- 'laws.FnExactRuleOk': WHATEVER THE INPUT: true; the input reads as it did. -/
def fnExactRuleOkSpec : ChangeSpec := { name := "fnExactRuleOk", fn := fun _ => fun
  | [d1, d2] => { results := [.lit (.bool true)], args := [d1, d2] }
  | _ => none }
def fnExactRuleOkRow : OpenClaim := { program := "ytbgpofimflnabaa", sum := "16477207613be41287f110fbc34ca181f9c094e3ff079b50c5413eac61f10eae", func := "loop.example/g00461/laws.FnExactRuleOk", spec := "fnExactRuleOk", inPlace := ["slices.overlaps[int]"], unfollowed := true, recurses := true, loops := true, apart := false }
def FnExactRuleOkSaid : Prop := fnExactRuleOkRow.holds Try.pinned (OpenSpec.ofChange fnExactRuleOkSpec)

/-- ITS FALSE NEIGHBOUR: 'it returns false'. Refute it at one input. -/
def fnExactRuleOkWrong : ChangeSpec := { name := "fnExactRuleOk", fn := fun _ => fun
  | [d1, d2] => { results := [.lit (.bool false)], args := [d1, d2] }
  | _ => none }
def FnExactRuleOkWrongFalsely : Prop := fnExactRuleOkRow.holds Try.pinned (OpenSpec.ofChange fnExactRuleOkWrong)

/-- 'laws.FnExactClauseVars': WHATEVER THE INPUT: true; the input reads as it did. -/
def fnExactClauseVarsSpec : ChangeSpec := { name := "fnExactClauseVars", fn := fun _ => fun
  | [d] => { results := [.lit (.bool true)], args := [d] }
  | _ => none }
def fnExactClauseVarsRow : OpenClaim := { program := "ytbgpofimflnabaa", sum := "16477207613be41287f110fbc34ca181f9c094e3ff079b50c5413eac61f10eae", func := "loop.example/g00461/laws.FnExactClauseVars", spec := "fnExactClauseVars", inPlace := ["slices.overlaps[int]"], unfollowed := true, recurses := true, loops := true, apart := false }
def FnExactClauseVarsSaid : Prop := fnExactClauseVarsRow.holds Try.pinned (OpenSpec.ofChange fnExactClauseVarsSpec)

/-- ITS FALSE NEIGHBOUR: 'it returns false'. Refute it at one input. -/
def fnExactClauseVarsWrong : ChangeSpec := { name := "fnExactClauseVars", fn := fun _ => fun
  | [d] => { results := [.lit (.bool false)], args := [d] }
  | _ => none }
def FnExactClauseVarsWrongFalsely : Prop := fnExactClauseVarsRow.holds Try.pinned (OpenSpec.ofChange fnExactClauseVarsWrong)

/-- 'laws.FnExactNeeds': WHATEVER THE INPUT: true; the input reads as it did. -/
def fnExactNeedsSpec : ChangeSpec := { name := "fnExactNeeds", fn := fun _ => fun
  | [d1, d2] => { results := [.lit (.bool true)], args := [d1, d2] }
  | _ => none }
def fnExactNeedsRow : OpenClaim := { program := "ytbgpofimflnabaa", sum := "16477207613be41287f110fbc34ca181f9c094e3ff079b50c5413eac61f10eae", func := "loop.example/g00461/laws.FnExactNeeds", spec := "fnExactNeeds", inPlace := ["slices.overlaps[int]"], unfollowed := true, recurses := true, loops := true, apart := false }
def FnExactNeedsSaid : Prop := fnExactNeedsRow.holds Try.pinned (OpenSpec.ofChange fnExactNeedsSpec)

/-- ITS FALSE NEIGHBOUR: 'it returns false'. Refute it at one input. -/
def fnExactNeedsWrong : ChangeSpec := { name := "fnExactNeeds", fn := fun _ => fun
  | [d1, d2] => { results := [.lit (.bool false)], args := [d1, d2] }
  | _ => none }
def FnExactNeedsWrongFalsely : Prop := fnExactNeedsRow.holds Try.pinned (OpenSpec.ofChange fnExactNeedsWrong)

/- THE SECOND FORM. 'bulk': how many values and letters a reading holds, each counted each time it is reached (what is shared counts as often as it is met; a slice's spare places count too). A statement '..UptoSaid' is the law's where the arguments, and the package variables that the reading takes, are together of bulk at most 1048576: NARROWER than '..Said'. Prove '..Said' where nothing that the law and all that it calls make is longer than what came in: it says more and counts as full. Else prove '..UptoSaid'. A law counts once. -/
mutual
def uptoBulk {H : Type} : DataW H → Nat
  | .lit (.string bytes) => bytes.length + 1
  | .lit _ => 1
  | .nil => 1
  | .ptr d => uptoBulk d + 1
  | .slice elems spare => uptoBulkAll elems + uptoBulkAll spare + 1
  | .agg parts => uptoBulkAll parts + 1
  | .iface _ d => uptoBulk d + 1
  | .map entries => uptoBulkEntries entries + 1
  | .held _ => 1
def uptoBulkAll {H : Type} : List (DataW H) → Nat
  | [] => 0
  | d :: r => uptoBulk d + uptoBulkAll r
def uptoBulkEntries {H : Type} : List (Lit × DataW H) → Nat
  | [] => 0
  | x :: r => uptoBulkEntry x + uptoBulkEntries r
def uptoBulkEntry {H : Type} : Lit × DataW H → Nat
  | (.string bytes, d) => bytes.length + uptoBulk d + 1
  | (_, d) => uptoBulk d + 1
 end
def uptoSmall : (H : Type) → List (DataW H) → Bool := fun _ ds => decide (uptoBulkAll ds ≤ 1048576)
def OpenSpec.upto (s : _root_.Go.ChangeSpec) : _root_.Go.OpenSpec := { _root_.Go.OpenSpec.ofChange s with cond := some uptoSmall }

/-- 'laws.FnExactLitText', WHERE WHAT IT READS IS OF BULK AT MOST 1048576: true; the input reads as it did. -/
def fnExactLitTextUptoRow : OpenClaim := { program := "ytbgpofimflnabaa", sum := "16477207613be41287f110fbc34ca181f9c094e3ff079b50c5413eac61f10eae", func := "loop.example/g00461/laws.FnExactLitText", spec := "fnExactLitText", inPlace := ["internal/abi.NoEscape", "internal/bytealg.MakeNoZero"], recurses := true, loops := true, apart := false, narrowed := true }
def FnExactLitTextUptoSaid : Prop := fnExactLitTextUptoRow.holds Try.pinned (OpenSpec.upto fnExactLitTextSpec)

/-- 'laws.FnExactLitOk', WHERE WHAT IT READS IS OF BULK AT MOST 1048576: true; the input reads as it did. -/
def fnExactLitOkUptoRow : OpenClaim := { program := "ytbgpofimflnabaa", sum := "16477207613be41287f110fbc34ca181f9c094e3ff079b50c5413eac61f10eae", func := "loop.example/g00461/laws.FnExactLitOk", spec := "fnExactLitOk", unfollowed := true, recurses := true, loops := true, apart := false, narrowed := true }
def FnExactLitOkUptoSaid : Prop := fnExactLitOkUptoRow.holds Try.pinned (OpenSpec.upto fnExactLitOkSpec)

/-- 'laws.FnExactStepText', WHERE WHAT IT READS IS OF BULK AT MOST 1048576: true; the input reads as it did. -/
def fnExactStepTextUptoRow : OpenClaim := { program := "ytbgpofimflnabaa", sum := "16477207613be41287f110fbc34ca181f9c094e3ff079b50c5413eac61f10eae", func := "loop.example/g00461/laws.FnExactStepText", spec := "fnExactStepText", recurses := true, loops := true, apart := false, narrowed := true }
def FnExactStepTextUptoSaid : Prop := fnExactStepTextUptoRow.holds Try.pinned (OpenSpec.upto fnExactStepTextSpec)

/-- 'laws.FnExactRefuted', WHERE WHAT IT READS IS OF BULK AT MOST 1048576: true; the input reads as it did. -/
def fnExactRefutedUptoRow : OpenClaim := { program := "ytbgpofimflnabaa", sum := "16477207613be41287f110fbc34ca181f9c094e3ff079b50c5413eac61f10eae", func := "loop.example/g00461/laws.FnExactRefuted", spec := "fnExactRefuted", unfollowed := true, recurses := true, loops := true, apart := false, narrowed := true }
def FnExactRefutedUptoSaid : Prop := fnExactRefutedUptoRow.holds Try.pinned (OpenSpec.upto fnExactRefutedSpec)

/-- 'laws.FnExactClauseText', WHERE WHAT IT READS IS OF BULK AT MOST 1048576: true; the input reads as it did. -/
def fnExactClauseTextUptoRow : OpenClaim := { program := "ytbgpofimflnabaa", sum := "16477207613be41287f110fbc34ca181f9c094e3ff079b50c5413eac61f10eae", func := "loop.example/g00461/laws.FnExactClauseText", spec := "fnExactClauseText", inPlace := ["internal/abi.NoEscape", "internal/bytealg.MakeNoZero"], recurses := true, loops := true, apart := false, narrowed := true }
def FnExactClauseTextUptoSaid : Prop := fnExactClauseTextUptoRow.holds Try.pinned (OpenSpec.upto fnExactClauseTextSpec)

/-- 'laws.FnExactClauseOk', WHERE WHAT IT READS IS OF BULK AT MOST 1048576: true; the input reads as it did. -/
def fnExactClauseOkUptoRow : OpenClaim := { program := "ytbgpofimflnabaa", sum := "16477207613be41287f110fbc34ca181f9c094e3ff079b50c5413eac61f10eae", func := "loop.example/g00461/laws.FnExactClauseOk", spec := "fnExactClauseOk", unfollowed := true, recurses := true, loops := true, apart := false, narrowed := true }
def FnExactClauseOkUptoSaid : Prop := fnExactClauseOkUptoRow.holds Try.pinned (OpenSpec.upto fnExactClauseOkSpec)

/-- 'laws.FnExactProblemText', WHERE WHAT IT READS IS OF BULK AT MOST 1048576: true; the input reads as it did. -/
def fnExactProblemTextUptoRow : OpenClaim := { program := "ytbgpofimflnabaa", sum := "16477207613be41287f110fbc34ca181f9c094e3ff079b50c5413eac61f10eae", func := "loop.example/g00461/laws.FnExactProblemText", spec := "fnExactProblemText", inPlace := ["internal/abi.NoEscape", "internal/bytealg.MakeNoZero"], recurses := true, loops := true, apart := false, narrowed := true }
def FnExactProblemTextUptoSaid : Prop := fnExactProblemTextUptoRow.holds Try.pinned (OpenSpec.upto fnExactProblemTextSpec)

/-- 'laws.FnExactVerdict', WHERE WHAT IT READS IS OF BULK AT MOST 1048576: true; the input reads as it did. -/
def fnExactVerdictUptoRow : OpenClaim := { program := "ytbgpofimflnabaa", sum := "16477207613be41287f110fbc34ca181f9c094e3ff079b50c5413eac61f10eae", func := "loop.example/g00461/laws.FnExactVerdict", spec := "fnExactVerdict", unfollowed := true, recurses := true, loops := true, apart := false, narrowed := true }
def FnExactVerdictUptoSaid : Prop := fnExactVerdictUptoRow.holds Try.pinned (OpenSpec.upto fnExactVerdictSpec)

/-- 'laws.FnExactWorkText', WHERE WHAT IT READS IS OF BULK AT MOST 1048576: true; the input reads as it did. -/
def fnExactWorkTextUptoRow : OpenClaim := { program := "ytbgpofimflnabaa", sum := "16477207613be41287f110fbc34ca181f9c094e3ff079b50c5413eac61f10eae", func := "loop.example/g00461/laws.FnExactWorkText", spec := "fnExactWorkText", recurses := true, loops := true, apart := false, narrowed := true }
def FnExactWorkTextUptoSaid : Prop := fnExactWorkTextUptoRow.holds Try.pinned (OpenSpec.upto fnExactWorkTextSpec)

/-- 'laws.FnExactRuleOk', WHERE WHAT IT READS IS OF BULK AT MOST 1048576: true; the input reads as it did. -/
def fnExactRuleOkUptoRow : OpenClaim := { program := "ytbgpofimflnabaa", sum := "16477207613be41287f110fbc34ca181f9c094e3ff079b50c5413eac61f10eae", func := "loop.example/g00461/laws.FnExactRuleOk", spec := "fnExactRuleOk", inPlace := ["slices.overlaps[int]"], unfollowed := true, recurses := true, loops := true, apart := false, narrowed := true }
def FnExactRuleOkUptoSaid : Prop := fnExactRuleOkUptoRow.holds Try.pinned (OpenSpec.upto fnExactRuleOkSpec)

/-- 'laws.FnExactClauseVars', WHERE WHAT IT READS IS OF BULK AT MOST 1048576: true; the input reads as it did. -/
def fnExactClauseVarsUptoRow : OpenClaim := { program := "ytbgpofimflnabaa", sum := "16477207613be41287f110fbc34ca181f9c094e3ff079b50c5413eac61f10eae", func := "loop.example/g00461/laws.FnExactClauseVars", spec := "fnExactClauseVars", inPlace := ["slices.overlaps[int]"], unfollowed := true, recurses := true, loops := true, apart := false, narrowed := true }
def FnExactClauseVarsUptoSaid : Prop := fnExactClauseVarsUptoRow.holds Try.pinned (OpenSpec.upto fnExactClauseVarsSpec)

/-- 'laws.FnExactNeeds', WHERE WHAT IT READS IS OF BULK AT MOST 1048576: true; the input reads as it did. -/
def fnExactNeedsUptoRow : OpenClaim := { program := "ytbgpofimflnabaa", sum := "16477207613be41287f110fbc34ca181f9c094e3ff079b50c5413eac61f10eae", func := "loop.example/g00461/laws.FnExactNeeds", spec := "fnExactNeeds", inPlace := ["slices.overlaps[int]"], unfollowed := true, recurses := true, loops := true, apart := false, narrowed := true }
def FnExactNeedsUptoSaid : Prop := fnExactNeedsUptoRow.holds Try.pinned (OpenSpec.upto fnExactNeedsSpec)

end Rows
end Go.Proofs.Ytbgpofimflnabaa
