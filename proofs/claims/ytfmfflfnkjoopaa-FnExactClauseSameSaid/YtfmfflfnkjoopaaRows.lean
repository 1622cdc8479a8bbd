/-
  NARROWER THAN 'FOR EVERY INPUT', by the rows' own cells (each row's printed sentence says how): FnExactPlaces: loops · FnExactLitBefore: loops · FnExactAt: loops · FnExactClauseSame: loops · FnExactTrivial: loops.
  DERIVED. THE GIVEN ROWS OF THIS SEAT. 7 by the template 'for every input the law returns true; each argument reads behind the call as it read before'; 0 by the template 'total and deterministic' (their statements: YtfmfflfnkjoopaaTotals.lean).
  GIVEN WITH THE SEED: the statements are not yours to turn. If you find one false, say at which input.
  Laid BY PROGRAM, IN A SANDBOX (cutbox-rows.mjs): the forced cells as the released guide's own fill.sh prints them over the translation d22f549b9882b295… (all of the seat's roots in one cut). By AI agents, Wed Nov 11 2026. No macro, syntax, notation, axiom, sorry.
-/
import Derived.Test.YtfmfflfnkjoopaaChecked
import GoSem.Claim
import GoSem.ClaimJoined
import GoSem.ClaimMapViews
import Derived.JoinedTies
import Derived.KernelRfl
namespace Go.Proofs.Ytfmfflfnkjoopaa
/- THE CELL 'sum', in the pinned program and in every row, IS THE sha256 OF THE DUMP (.gsa) THAT YtfmfflfnkjoopaaProg.lean LOADS. Nothing in Lean hashes anything: it is a label: what it is worth is what the hold of that sum in a sandbox is worth. -/
noncomputable def Try.pinned : Pinned := { name := "ytfmfflfnkjoopaa", sum := "d22f549b9882b295d814a7c57f8318138a2b533a1b24ebc061626e4b981105e7", checked := Try.checked }
namespace Rows
def none {H : Type} : Left H := { results := [], args := [] }

/-- 'laws.FnExactWords': WHATEVER THE INPUT: true; the input reads as it did. -/
def fnExactWordsSpec : ChangeSpec := { name := "fnExactWords", fn := fun _ => fun
  | [d] => { results := [.lit (.bool true)], args := [d] }
  | _ => none }
def fnExactWordsRow : OpenClaim := { program := "ytfmfflfnkjoopaa", sum := "d22f549b9882b295d814a7c57f8318138a2b533a1b24ebc061626e4b981105e7", func := "loop.example/g00461/laws.FnExactWords", spec := "fnExactWords", inPlace := ["internal/bytealg.IndexByteString"], apart := false }
def FnExactWordsSaid : Prop := fnExactWordsRow.holds Try.pinned (OpenSpec.ofChange fnExactWordsSpec)

/-- ITS FALSE NEIGHBOUR: 'it returns false'. Refute it at one input. -/
def fnExactWordsWrong : ChangeSpec := { name := "fnExactWords", fn := fun _ => fun
  | [d] => { results := [.lit (.bool false)], args := [d] }
  | _ => none }
def FnExactWordsWrongFalsely : Prop := fnExactWordsRow.holds Try.pinned (OpenSpec.ofChange fnExactWordsWrong)

/-- 'laws.FnWords': WHATEVER THE INPUT: true; the input reads as it did. -/
def fnWordsSpec : ChangeSpec := { name := "fnWords", fn := fun _ => fun
  | [d] => { results := [.lit (.bool true)], args := [d] }
  | _ => none }
def fnWordsRow : OpenClaim := { program := "ytfmfflfnkjoopaa", sum := "d22f549b9882b295d814a7c57f8318138a2b533a1b24ebc061626e4b981105e7", func := "loop.example/g00461/laws.FnWords", spec := "fnWords", inPlace := ["internal/bytealg.IndexByteString"], apart := false }
def FnWordsSaid : Prop := fnWordsRow.holds Try.pinned (OpenSpec.ofChange fnWordsSpec)

/-- ITS FALSE NEIGHBOUR: 'it returns false'. Refute it at one input. -/
def fnWordsWrong : ChangeSpec := { name := "fnWords", fn := fun _ => fun
  | [d] => { results := [.lit (.bool false)], args := [d] }
  | _ => none }
def FnWordsWrongFalsely : Prop := fnWordsRow.holds Try.pinned (OpenSpec.ofChange fnWordsWrong)

/-- 'laws.FnExactPlaces': WHATEVER THE INPUT: true; the input reads as it did. -/
def fnExactPlacesSpec : ChangeSpec := { name := "fnExactPlaces", fn := fun _ => fun
  | [d] => { results := [.lit (.bool true)], args := [d] }
  | _ => none }
def fnExactPlacesRow : OpenClaim := { program := "ytfmfflfnkjoopaa", sum := "d22f549b9882b295d814a7c57f8318138a2b533a1b24ebc061626e4b981105e7", func := "loop.example/g00461/laws.FnExactPlaces", spec := "fnExactPlaces", recurses := true, loops := true, apart := false }
def FnExactPlacesSaid : Prop := fnExactPlacesRow.holds Try.pinned (OpenSpec.ofChange fnExactPlacesSpec)

/-- ITS FALSE NEIGHBOUR: 'it returns false'. Refute it at one input. -/
def fnExactPlacesWrong : ChangeSpec := { name := "fnExactPlaces", fn := fun _ => fun
  | [d] => { results := [.lit (.bool false)], args := [d] }
  | _ => none }
def FnExactPlacesWrongFalsely : Prop := fnExactPlacesRow.holds Try.pinned (OpenSpec.ofChange fnExactPlacesWrong)

/-- 'laws.FnExactLitBefore': WHATEVER THE INPUT: true; the input reads as it did. -/
def fnExactLitBeforeSpec : ChangeSpec := { name := "fnExactLitBefore", fn := fun _ => fun
  | [d1, d2] => { results := [.lit (.bool true)], args := [d1, d2] }
  | _ => none }
def fnExactLitBeforeRow : OpenClaim := { program := "ytfmfflfnkjoopaa", sum := "d22f549b9882b295d814a7c57f8318138a2b533a1b24ebc061626e4b981105e7", func := "loop.example/g00461/laws.FnExactLitBefore", spec := "fnExactLitBefore", recurses := true, loops := true, apart := false }
def FnExactLitBeforeSaid : Prop := fnExactLitBeforeRow.holds Try.pinned (OpenSpec.ofChange fnExactLitBeforeSpec)

/-- ITS FALSE NEIGHBOUR: 'it returns false'. Refute it at one input. -/
def fnExactLitBeforeWrong : ChangeSpec := { name := "fnExactLitBefore", fn := fun _ => fun
  | [d1, d2] => { results := [.lit (.bool false)], args := [d1, d2] }
  | _ => none }
def FnExactLitBeforeWrongFalsely : Prop := fnExactLitBeforeRow.holds Try.pinned (OpenSpec.ofChange fnExactLitBeforeWrong)

/-- 'laws.FnExactAt': WHATEVER THE INPUT: true; the input reads as it did. -/
def fnExactAtSpec : ChangeSpec := { name := "fnExactAt", fn := fun _ => fun
  | [d1, d2] => { results := [.lit (.bool true)], args := [d1, d2] }
  | _ => none }
def fnExactAtRow : OpenClaim := { program := "ytfmfflfnkjoopaa", sum := "d22f549b9882b295d814a7c57f8318138a2b533a1b24ebc061626e4b981105e7", func := "loop.example/g00461/laws.FnExactAt", spec := "fnExactAt", recurses := true, loops := true, apart := false }
def FnExactAtSaid : Prop := fnExactAtRow.holds Try.pinned (OpenSpec.ofChange fnExactAtSpec)

/-- ITS FALSE NEIGHBOUR: 'it returns false'. Refute it at one input. -/
def fnExactAtWrong : ChangeSpec := { name := "fnExactAt", fn := fun _ => fun
  | [d1, d2] => { results := [.lit (.bool false)], args := [d1, d2] }
  | _ => none }
def FnExactAtWrongFalsely : Prop := fnExactAtRow.holds Try.pinned (OpenSpec.ofChange fnExactAtWrong)

/-- 'laws.FnExactClauseSame': WHATEVER THE INPUT: true; the input reads as it did. -/
def fnExactClauseSameSpec : ChangeSpec := { name := "fnExactClauseSame", fn := fun _ => fun
  | [d1, d2] => { results := [.lit (.bool true)], args := [d1, d2] }
  | _ => none }
def fnExactClauseSameRow : OpenClaim := { program := "ytfmfflfnkjoopaa", sum := "d22f549b9882b295d814a7c57f8318138a2b533a1b24ebc061626e4b981105e7", func := "loop.example/g00461/laws.FnExactClauseSame", spec := "fnExactClauseSame", unfollowed := true, recurses := true, loops := true, apart := false }
def FnExactClauseSameSaid : Prop := fnExactClauseSameRow.holds Try.pinned (OpenSpec.ofChange fnExactClauseSameSpec)

/-- ITS FALSE NEIGHBOUR: 'it returns false'. Refute it at one input. -/
def fnExactClauseSameWrong : ChangeSpec := { name := "fnExactClauseSame", fn := fun _ => fun
  | [d1, d2] => { results := [.lit (.bool false)], args := [d1, d2] }
  | _ => none }
def FnExactClauseSameWrongFalsely : Prop := fnExactClauseSameRow.holds Try.pinned (OpenSpec.ofChange fnExactClauseSameWrong)

/-- 'laws.FnExactTrivial': WHATEVER THE INPUT: true; the input reads as it did. -/
def fnExactTrivialSpec : ChangeSpec := { name := "fnExactTrivial", fn := fun _ => fun
  | [d1, d2] => { results := [.lit (.bool true)], args := [d1, d2] }
  | _ => none }
def fnExactTrivialRow : OpenClaim := { program := "ytfmfflfnkjoopaa", sum := "d22f549b9882b295d814a7c57f8318138a2b533a1b24ebc061626e4b981105e7", func := "loop.example/g00461/laws.FnExactTrivial", spec := "fnExactTrivial", unfollowed := true, recurses := true, loops := true, apart := false }
def FnExactTrivialSaid : Prop := fnExactTrivialRow.holds Try.pinned (OpenSpec.ofChange fnExactTrivialSpec)

/-- ITS FALSE NEIGHBOUR: 'it returns false'. Refute it at one input. -/
def fnExactTrivialWrong : ChangeSpec := { name := "fnExactTrivial", fn := fun _ => fun
  | [d1, d2] => { results := [.lit (.bool false)], args := [d1, d2] }
  | _ => none }
def FnExactTrivialWrongFalsely : Prop := fnExactTrivialRow.holds Try.pinned (OpenSpec.ofChange fnExactTrivialWrong)

/- THE SECOND FORM. 'bulk': how many values and letters a reading holds, each counted each time it is reached (what is shared counts as often as it is met; a slice's spare places count too). A statement '..UptoSaid' is the law's where the arguments, and the package variables that the reading takes, are together of bulk at most 1048576: NARROWER than '..Said'. Prove '..Said' where nothing that the law and all that it calls make is longer than what came in: it says more and counts as full. Else prove '..UptoSaid'. A law counts once. -/
mutual
def uptoBulk {H : Type} : DataW H → Nat
  | .lit (.string bytes) => bytes.length + 1
  | .lit _ => 1
  | .nil => 1
  | .ptr d => uptoBulk d + 1
  | .slice elems spare => uptoBulkAll elems + uptoBulkAll spare + 1
  | .agg parts => uptoBulkAll parts + 1
  | .iface _ d => uptoBulk d + 1
  | .map entries => uptoBulkEntries entries + 1
  | .held _ => 1
def uptoBulkAll {H : Type} : List (DataW H) → Nat
  | [] => 0
  | d :: r => uptoBulk d + uptoBulkAll r
def uptoBulkEntries {H : Type} : List (Lit × DataW H) → Nat
  | [] => 0
  | x :: r => uptoBulkEntry x + uptoBulkEntries r
def uptoBulkEntry {H : Type} : Lit × DataW H → Nat
  | (.string bytes, d) => bytes.length + uptoBulk d + 1
  | (_, d) => uptoBulk d + 1
 end
def uptoSmall : (H : Type) → List (DataW H) → Bool := fun _ ds => decide (uptoBulkAll ds ≤ 1048576)
def OpenSpec.upto (s : _root_.Go.ChangeSpec) : _root_.Go.OpenSpec := { _root_.Go.OpenSpec.ofChange s with cond := some uptoSmall }

/-- 'laws.FnExactWords', WHERE WHAT IT READS IS OF BULK AT MOST 1048576: true; the input reads as it did. -/
def fnExactWordsUptoRow : OpenClaim := { program := "ytfmfflfnkjoopaa", sum := "d22f549b9882b295d814a7c57f8318138a2b533a1b24ebc061626e4b981105e7", func := "loop.example/g00461/laws.FnExactWords", spec := "fnExactWords", inPlace := ["internal/bytealg.IndexByteString"], apart := false, narrowed := true }
def FnExactWordsUptoSaid : Prop := fnExactWordsUptoRow.holds Try.pinned (OpenSpec.upto fnExactWordsSpec)

/-- 'laws.FnWords', WHERE WHAT IT READS IS OF BULK AT MOST 1048576: true; the input reads as it did. -/
def fnWordsUptoRow : OpenClaim := { program := "ytfmfflfnkjoopaa", sum := "d22f549b9882b295d814a7c57f8318138a2b533a1b24ebc061626e4b981105e7", func := "loop.example/g00461/laws.FnWords", spec := "fnWords", inPlace := ["internal/bytealg.IndexByteString"], apart := false, narrowed := true }
def FnWordsUptoSaid : Prop := fnWordsUptoRow.holds Try.pinned (OpenSpec.upto fnWordsSpec)

/-- 'laws.FnExactPlaces', WHERE WHAT IT READS IS OF BULK AT MOST 1048576: true; the input reads as it did. -/
def fnExactPlacesUptoRow : OpenClaim := { program := "ytfmfflfnkjoopaa", sum := "d22f549b9882b295d814a7c57f8318138a2b533a1b24ebc061626e4b981105e7", func := "loop.example/g00461/laws.FnExactPlaces", spec := "fnExactPlaces", recurses := true, loops := true, apart := false, narrowed := true }
def FnExactPlacesUptoSaid : Prop := fnExactPlacesUptoRow.holds Try.pinned (OpenSpec.upto fnExactPlacesSpec)

/-- 'laws.FnExactLitBefore', WHERE WHAT IT READS IS OF BULK AT MOST 1048576: true; the input reads as it did. -/
def fnExactLitBeforeUptoRow : OpenClaim := { program := "ytfmfflfnkjoopaa", sum := "d22f549b9882b295d814a7c57f8318138a2b533a1b24ebc061626e4b981105e7", func := "loop.example/g00461/laws.FnExactLitBefore", spec := "fnExactLitBefore", recurses := true, loops := true, apart := false, narrowed := true }
def FnExactLitBeforeUptoSaid : Prop := fnExactLitBeforeUptoRow.holds Try.pinned (OpenSpec.upto fnExactLitBeforeSpec)

/-- 'laws.FnExactAt', WHERE WHAT IT READS IS OF BULK AT MOST 1048576: true; the input reads as it did. -/
def fnExactAtUptoRow : OpenClaim := { program := "ytfmfflfnkjoopaa", sum := "d22f549b9882b295d814a7c57f8318138a2b533a1b24ebc061626e4b981105e7", func := "loop.example/g00461/laws.FnExactAt", spec := "fnExactAt", recurses := true, loops := true, apart := false, narrowed := true }
def FnExactAtUptoSaid : Prop := fnExactAtUptoRow.holds Try.pinned (OpenSpec.upto fnExactAtSpec)

/-- 'laws.FnExactClauseSame', WHERE WHAT IT READS IS OF BULK AT MOST 1048576: true; the input reads as it did. -/
def fnExactClauseSameUptoRow : OpenClaim := { program := "ytfmfflfnkjoopaa", sum := "d22f549b9882b295d814a7c57f8318138a2b533a1b24ebc061626e4b981105e7", func := "loop.example/g00461/laws.FnExactClauseSame", spec := "fnExactClauseSame", unfollowed := true, recurses := true, loops := true, apart := false, narrowed := true }
def FnExactClauseSameUptoSaid : Prop := fnExactClauseSameUptoRow.holds Try.pinned (OpenSpec.upto fnExactClauseSameSpec)

/-- 'laws.FnExactTrivial', WHERE WHAT IT READS IS OF BULK AT MOST 1048576: true; the input reads as it did. -/
def fnExactTrivialUptoRow : OpenClaim := { program := "ytfmfflfnkjoopaa", sum := "d22f549b9882b295d814a7c57f8318138a2b533a1b24ebc061626e4b981105e7", func := "loop.example/g00461/laws.FnExactTrivial", spec := "fnExactTrivial", unfollowed := true, recurses := true, loops := true, apart := false, narrowed := true }
def FnExactTrivialUptoSaid : Prop := fnExactTrivialUptoRow.holds Try.pinned (OpenSpec.upto fnExactTrivialSpec)

end Rows
end Go.Proofs.Ytfmfflfnkjoopaa
