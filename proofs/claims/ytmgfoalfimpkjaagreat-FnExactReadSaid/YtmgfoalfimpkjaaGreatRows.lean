/-
  No cell of these rows narrows 'for every input' (looked for: loops, veiled, ifaces, maps, wideKeys, modest, calm, conditions, laid).
  DERIVED. THE GIVEN ROWS OF THIS SEAT. 3 by the template 'for every input the law returns true; each argument reads behind the call as it read before'; 0 by the template 'total and deterministic' (their statements: YtmgfoalfimpkjaaGreatTotals.lean).
  GIVEN WITH THE SEED: the statements are not yours to turn. If you find one false, say at which input.
  Laid BY PROGRAM, IN A SANDBOX (cutbox-rows.mjs): the forced cells as the released guide's own fill.sh prints them over the translation 26676e34e7a8a960… (all of the seat's roots in one cut). By AI agents, Wed Nov 11 2026. No macro, syntax, notation, axiom, sorry.
-/
import Derived.Test.YtmgfoalfimpkjaaGreatChecked
import GoSem.Claim
import GoSem.ClaimJoined
import GoSem.ClaimMapViews
import Derived.JoinedTies
import Derived.KernelRfl
namespace Go.Proofs.YtmgfoalfimpkjaaGreat
/- THE CELL 'sum', in the pinned program and in every row, IS THE sha256 OF THE DUMP (.gsa) THAT YtmgfoalfimpkjaaGreatProg.lean LOADS. Nothing in Lean hashes anything: it is a label: what it is worth is what the hold of that sum in a sandbox is worth. -/
noncomputable def Tryz.pinned : Pinned := { name := "ytmgfoalfimpkjaagreat", sum := "26676e34e7a8a9601cf8c1dde715ca6427eada6c7bb94c6a0ef3dce106c7a20c", checked := Tryz.checked }
namespace Rows
def none {H : Type} : Left H := { results := [], args := [] }

/-- 'laws.FnClauses': WHATEVER THE INPUT: true; the input reads as it did. -/
def fnClausesSpec : ChangeSpec := { name := "fnClauses", fn := fun _ => fun
  | [d] => { results := [.lit (.bool true)], args := [d] }
  | _ => none }
def fnClausesRow : OpenClaim := { program := "ytmgfoalfimpkjaagreat", sum := "26676e34e7a8a9601cf8c1dde715ca6427eada6c7bb94c6a0ef3dce106c7a20c", func := "loop.example/g00461/laws.FnClauses", spec := "fnClauses", inPlace := ["slices.overlaps[int]", "internal/abi.NoEscape", "internal/bytealg.MakeNoZero"], unfollowed := true, recurses := true, apart := false }
def FnClausesSaid : Prop := fnClausesRow.holds Tryz.pinned (OpenSpec.ofChange fnClausesSpec)

/-- ITS FALSE NEIGHBOUR: 'it returns false'. Refute it at one input. -/
def fnClausesWrong : ChangeSpec := { name := "fnClauses", fn := fun _ => fun
  | [d] => { results := [.lit (.bool false)], args := [d] }
  | _ => none }
def FnClausesWrongFalsely : Prop := fnClausesRow.holds Tryz.pinned (OpenSpec.ofChange fnClausesWrong)

/-- 'laws.FnReadAgain': WHATEVER THE INPUT: true; the input reads as it did. -/
def fnReadAgainSpec : ChangeSpec := { name := "fnReadAgain", fn := fun _ => fun
  | [d] => { results := [.lit (.bool true)], args := [d] }
  | _ => none }
def fnReadAgainRow : OpenClaim := { program := "ytmgfoalfimpkjaagreat", sum := "26676e34e7a8a9601cf8c1dde715ca6427eada6c7bb94c6a0ef3dce106c7a20c", func := "loop.example/g00461/laws.FnReadAgain", spec := "fnReadAgain", inPlace := ["internal/bytealg.IndexByteString", "internal/abi.NoEscape", "internal/bytealg.MakeNoZero"], unfollowed := true, recurses := true, apart := false }
def FnReadAgainSaid : Prop := fnReadAgainRow.holds Tryz.pinned (OpenSpec.ofChange fnReadAgainSpec)

/-- ITS FALSE NEIGHBOUR: 'it returns false'. Refute it at one input. -/
def fnReadAgainWrong : ChangeSpec := { name := "fnReadAgain", fn := fun _ => fun
  | [d] => { results := [.lit (.bool false)], args := [d] }
  | _ => none }
def FnReadAgainWrongFalsely : Prop := fnReadAgainRow.holds Tryz.pinned (OpenSpec.ofChange fnReadAgainWrong)

/-- 'laws.FnExactRead': WHATEVER THE INPUT: true; the input reads as it did. -/
def fnExactReadSpec : ChangeSpec := { name := "fnExactRead", fn := fun _ => fun
  | [d] => { results := [.lit (.bool true)], args := [d] }
  | _ => none }
def fnExactReadRow : OpenClaim := { program := "ytmgfoalfimpkjaagreat", sum := "26676e34e7a8a9601cf8c1dde715ca6427eada6c7bb94c6a0ef3dce106c7a20c", func := "loop.example/g00461/laws.FnExactRead", spec := "fnExactRead", inPlace := ["internal/bytealg.IndexByteString"], unfollowed := true, recurses := true, apart := false }
def FnExactReadSaid : Prop := fnExactReadRow.holds Tryz.pinned (OpenSpec.ofChange fnExactReadSpec)

/-- ITS FALSE NEIGHBOUR: 'it returns false'. Refute it at one input. -/
def fnExactReadWrong : ChangeSpec := { name := "fnExactRead", fn := fun _ => fun
  | [d] => { results := [.lit (.bool false)], args := [d] }
  | _ => none }
def FnExactReadWrongFalsely : Prop := fnExactReadRow.holds Tryz.pinned (OpenSpec.ofChange fnExactReadWrong)

/- THE SECOND FORM. 'bulk': how many values and letters a reading holds, each counted each time it is reached (what is shared counts as often as it is met; a slice's spare places count too). A statement '..UptoSaid' is the law's where the arguments, and the package variables that the reading takes, are together of bulk at most 1048576: NARROWER than '..Said'. Prove '..Said' where nothing that the law and all that it calls make is longer than what came in: it says more and counts as full. Else prove '..UptoSaid'. A law counts once. -/
mutual
def uptoBulk {H : Type} : DataW H → Nat
  | .lit (.string bytes) => bytes.length + 1
  | .lit _ => 1
  | .nil => 1
  | .ptr d => uptoBulk d + 1
  | .slice elems spare => uptoBulkAll elems + uptoBulkAll spare + 1
  | .agg parts => uptoBulkAll parts + 1
  | .iface _ d => uptoBulk d + 1
  | .map entries => uptoBulkEntries entries + 1
  | .held _ => 1
def uptoBulkAll {H : Type} : List (DataW H) → Nat
  | [] => 0
  | d :: r => uptoBulk d + uptoBulkAll r
def uptoBulkEntries {H : Type} : List (Lit × DataW H) → Nat
  | [] => 0
  | x :: r => uptoBulkEntry x + uptoBulkEntries r
def uptoBulkEntry {H : Type} : Lit × DataW H → Nat
  | (.string bytes, d) => bytes.length + uptoBulk d + 1
  | (_, d) => uptoBulk d + 1
 end
def uptoSmall : (H : Type) → List (DataW H) → Bool := fun _ ds => decide (uptoBulkAll ds ≤ 1048576)
def OpenSpec.upto (s : _root_.Go.ChangeSpec) : _root_.Go.OpenSpec := { _root_.Go.OpenSpec.ofChange s with cond := some uptoSmall }

/-- 'laws.FnClauses', WHERE WHAT IT READS IS OF BULK AT MOST 1048576: true; the input reads as it did. -/
def fnClausesUptoRow : OpenClaim := { program := "ytmgfoalfimpkjaagreat", sum := "26676e34e7a8a9601cf8c1dde715ca6427eada6c7bb94c6a0ef3dce106c7a20c", func := "loop.example/g00461/laws.FnClauses", spec := "fnClauses", inPlace := ["slices.overlaps[int]", "internal/abi.NoEscape", "internal/bytealg.MakeNoZero"], unfollowed := true, recurses := true, apart := false, narrowed := true }
def FnClausesUptoSaid : Prop := fnClausesUptoRow.holds Tryz.pinned (OpenSpec.upto fnClausesSpec)

/-- 'laws.FnReadAgain', WHERE WHAT IT READS IS OF BULK AT MOST 1048576: true; the input reads as it did. -/
def fnReadAgainUptoRow : OpenClaim := { program := "ytmgfoalfimpkjaagreat", sum := "26676e34e7a8a9601cf8c1dde715ca6427eada6c7bb94c6a0ef3dce106c7a20c", func := "loop.example/g00461/laws.FnReadAgain", spec := "fnReadAgain", inPlace := ["internal/bytealg.IndexByteString", "internal/abi.NoEscape", "internal/bytealg.MakeNoZero"], unfollowed := true, recurses := true, apart := false, narrowed := true }
def FnReadAgainUptoSaid : Prop := fnReadAgainUptoRow.holds Tryz.pinned (OpenSpec.upto fnReadAgainSpec)

/-- 'laws.FnExactRead', WHERE WHAT IT READS IS OF BULK AT MOST 1048576: true; the input reads as it did. -/
def fnExactReadUptoRow : OpenClaim := { program := "ytmgfoalfimpkjaagreat", sum := "26676e34e7a8a9601cf8c1dde715ca6427eada6c7bb94c6a0ef3dce106c7a20c", func := "loop.example/g00461/laws.FnExactRead", spec := "fnExactRead", inPlace := ["internal/bytealg.IndexByteString"], unfollowed := true, recurses := true, apart := false, narrowed := true }
def FnExactReadUptoSaid : Prop := fnExactReadUptoRow.holds Tryz.pinned (OpenSpec.upto fnExactReadSpec)

end Rows
end Go.Proofs.YtmgfoalfimpkjaaGreat
