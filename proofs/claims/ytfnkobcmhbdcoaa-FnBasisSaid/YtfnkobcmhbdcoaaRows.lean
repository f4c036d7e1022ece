/-
  NARROWER THAN 'FOR EVERY INPUT', by the rows' own cells (each row's printed sentence says how): FnExactNumeralValue: loops.
  DERIVED. THE GIVEN ROWS OF THIS SEAT. 12 by the template 'for every input the law returns true; each argument reads behind the call as it read before'; 0 by the template 'total and deterministic' (their statements: YtfnkobcmhbdcoaaTotals.lean).
  GIVEN WITH THE SEED: the statements are not yours to turn. If you find one false, say at which input.
  Laid BY PROGRAM, IN A SANDBOX (cutbox-rows.mjs): the forced cells as the released guide's own fill.sh prints them over the translation 3cf2c2d001a560ad… (all of the seat's roots in one cut). By AI agents, Wed Nov 11 2026. No macro, syntax, notation, axiom, sorry.
-/
import Derived.Test.YtfnkobcmhbdcoaaChecked
import GoSem.Claim
import GoSem.ClaimJoined
import GoSem.ClaimMapViews
import Derived.JoinedTies
import Derived.KernelRfl
namespace Go.Proofs.Ytfnkobcmhbdcoaa
/- THE CELL 'sum', in the pinned program and in every row, IS THE sha256 OF THE DUMP (.gsa) THAT YtfnkobcmhbdcoaaProg.lean LOADS. Nothing in Lean hashes anything: it is a label: what it is worth is what the hold of that sum in a sandbox is worth. -/
noncomputable def Try.pinned : Pinned := { name := "ytfnkobcmhbdcoaa", sum := "3cf2c2d001a560ad206e351823d8054016bb01a641fcbba9e0f951a28066317e", checked := Try.checked }
namespace Rows
def none {H : Type} : Left H := { results := [], args := [] }

/-- 'laws.FnExactReverseWord': WHATEVER THE INPUT: true; the input reads as it did. -/
def fnExactReverseWordSpec : ChangeSpec := { name := "fnExactReverseWord", fn := fun _ => fun
  | [d] => { results := [.lit (.bool true)], args := [d] }
  | _ => none }
def fnExactReverseWordRow : OpenClaim := { program := "ytfnkobcmhbdcoaa", sum := "3cf2c2d001a560ad206e351823d8054016bb01a641fcbba9e0f951a28066317e", func := "loop.example/g03107/laws.FnExactReverseWord", spec := "fnExactReverseWord", apart := false }
def FnExactReverseWordSaid : Prop := fnExactReverseWordRow.holds Try.pinned (OpenSpec.ofChange fnExactReverseWordSpec)

/-- ITS FALSE NEIGHBOUR: 'it returns false'. Refute it at one input. -/
def fnExactReverseWordWrong : ChangeSpec := { name := "fnExactReverseWord", fn := fun _ => fun
  | [d] => { results := [.lit (.bool false)], args := [d] }
  | _ => none }
def FnExactReverseWordWrongFalsely : Prop := fnExactReverseWordRow.holds Try.pinned (OpenSpec.ofChange fnExactReverseWordWrong)

/-- 'laws.FnExactIsProblem': WHATEVER THE INPUT: true; the input reads as it did. -/
def fnExactIsProblemSpec : ChangeSpec := { name := "fnExactIsProblem", fn := fun _ => fun
  | [d1, d2] => { results := [.lit (.bool true)], args := [d1, d2] }
  | _ => none }
def fnExactIsProblemRow : OpenClaim := { program := "ytfnkobcmhbdcoaa", sum := "3cf2c2d001a560ad206e351823d8054016bb01a641fcbba9e0f951a28066317e", func := "loop.example/g03107/laws.FnExactIsProblem", spec := "fnExactIsProblem", apart := false }
def FnExactIsProblemSaid : Prop := fnExactIsProblemRow.holds Try.pinned (OpenSpec.ofChange fnExactIsProblemSpec)

/-- ITS FALSE NEIGHBOUR: 'it returns false'. Refute it at one input. -/
def fnExactIsProblemWrong : ChangeSpec := { name := "fnExactIsProblem", fn := fun _ => fun
  | [d1, d2] => { results := [.lit (.bool false)], args := [d1, d2] }
  | _ => none }
def FnExactIsProblemWrongFalsely : Prop := fnExactIsProblemRow.holds Try.pinned (OpenSpec.ofChange fnExactIsProblemWrong)

/-- 'laws.FnExactNextMarkings': WHATEVER THE INPUT: true; the input reads as it did. -/
def fnExactNextMarkingsSpec : ChangeSpec := { name := "fnExactNextMarkings", fn := fun _ => fun
  | [d] => { results := [.lit (.bool true)], args := [d] }
  | _ => none }
def fnExactNextMarkingsRow : OpenClaim := { program := "ytfnkobcmhbdcoaa", sum := "3cf2c2d001a560ad206e351823d8054016bb01a641fcbba9e0f951a28066317e", func := "loop.example/g03107/laws.FnExactNextMarkings", spec := "fnExactNextMarkings", apart := false }
def FnExactNextMarkingsSaid : Prop := fnExactNextMarkingsRow.holds Try.pinned (OpenSpec.ofChange fnExactNextMarkingsSpec)

/-- ITS FALSE NEIGHBOUR: 'it returns false'. Refute it at one input. -/
def fnExactNextMarkingsWrong : ChangeSpec := { name := "fnExactNextMarkings", fn := fun _ => fun
  | [d] => { results := [.lit (.bool false)], args := [d] }
  | _ => none }
def FnExactNextMarkingsWrongFalsely : Prop := fnExactNextMarkingsRow.holds Try.pinned (OpenSpec.ofChange fnExactNextMarkingsWrong)

/-- 'laws.FnExactNumeralTerm': WHATEVER THE INPUT: true; the input reads as it did. -/
def fnExactNumeralTermSpec : ChangeSpec := { name := "fnExactNumeralTerm", fn := fun _ => fun
  | [d] => { results := [.lit (.bool true)], args := [d] }
  | _ => none }
def fnExactNumeralTermRow : OpenClaim := { program := "ytfnkobcmhbdcoaa", sum := "3cf2c2d001a560ad206e351823d8054016bb01a641fcbba9e0f951a28066317e", func := "loop.example/g03107/laws.FnExactNumeralTerm", spec := "fnExactNumeralTerm", recurses := true, apart := false }
def FnExactNumeralTermSaid : Prop := fnExactNumeralTermRow.holds Try.pinned (OpenSpec.ofChange fnExactNumeralTermSpec)

/-- ITS FALSE NEIGHBOUR: 'it returns false'. Refute it at one input. -/
def fnExactNumeralTermWrong : ChangeSpec := { name := "fnExactNumeralTerm", fn := fun _ => fun
  | [d] => { results := [.lit (.bool false)], args := [d] }
  | _ => none }
def FnExactNumeralTermWrongFalsely : Prop := fnExactNumeralTermRow.holds Try.pinned (OpenSpec.ofChange fnExactNumeralTermWrong)

/-- 'laws.FnExactIsSolution': WHATEVER THE INPUT: true; the input reads as it did. -/
def fnExactIsSolutionSpec : ChangeSpec := { name := "fnExactIsSolution", fn := fun _ => fun
  | [d1, d2, d3] => { results := [.lit (.bool true)], args := [d1, d2, d3] }
  | _ => none }
def fnExactIsSolutionRow : OpenClaim := { program := "ytfnkobcmhbdcoaa", sum := "3cf2c2d001a560ad206e351823d8054016bb01a641fcbba9e0f951a28066317e", func := "loop.example/g03107/laws.FnExactIsSolution", spec := "fnExactIsSolution", apart := false }
def FnExactIsSolutionSaid : Prop := fnExactIsSolutionRow.holds Try.pinned (OpenSpec.ofChange fnExactIsSolutionSpec)

/-- ITS FALSE NEIGHBOUR: 'it returns false'. Refute it at one input. -/
def fnExactIsSolutionWrong : ChangeSpec := { name := "fnExactIsSolution", fn := fun _ => fun
  | [d1, d2, d3] => { results := [.lit (.bool false)], args := [d1, d2, d3] }
  | _ => none }
def FnExactIsSolutionWrongFalsely : Prop := fnExactIsSolutionRow.holds Try.pinned (OpenSpec.ofChange fnExactIsSolutionWrong)

/-- 'laws.FnExactComposeMorphisms': WHATEVER THE INPUT: true; the input reads as it did. -/
def fnExactComposeMorphismsSpec : ChangeSpec := { name := "fnExactComposeMorphisms", fn := fun _ => fun
  | [d1, d2] => { results := [.lit (.bool true)], args := [d1, d2] }
  | _ => none }
def fnExactComposeMorphismsRow : OpenClaim := { program := "ytfnkobcmhbdcoaa", sum := "3cf2c2d001a560ad206e351823d8054016bb01a641fcbba9e0f951a28066317e", func := "loop.example/g03107/laws.FnExactComposeMorphisms", spec := "fnExactComposeMorphisms", apart := false }
def FnExactComposeMorphismsSaid : Prop := fnExactComposeMorphismsRow.holds Try.pinned (OpenSpec.ofChange fnExactComposeMorphismsSpec)

/-- ITS FALSE NEIGHBOUR: 'it returns false'. Refute it at one input. -/
def fnExactComposeMorphismsWrong : ChangeSpec := { name := "fnExactComposeMorphisms", fn := fun _ => fun
  | [d1, d2] => { results := [.lit (.bool false)], args := [d1, d2] }
  | _ => none }
def FnExactComposeMorphismsWrongFalsely : Prop := fnExactComposeMorphismsRow.holds Try.pinned (OpenSpec.ofChange fnExactComposeMorphismsWrong)

/-- 'laws.FnExactBagTerm': WHATEVER THE INPUT: true; the input reads as it did. -/
def fnExactBagTermSpec : ChangeSpec := { name := "fnExactBagTerm", fn := fun _ => fun
  | [d] => { results := [.lit (.bool true)], args := [d] }
  | _ => none }
def fnExactBagTermRow : OpenClaim := { program := "ytfnkobcmhbdcoaa", sum := "3cf2c2d001a560ad206e351823d8054016bb01a641fcbba9e0f951a28066317e", func := "loop.example/g03107/laws.FnExactBagTerm", spec := "fnExactBagTerm", recurses := true, apart := false }
def FnExactBagTermSaid : Prop := fnExactBagTermRow.holds Try.pinned (OpenSpec.ofChange fnExactBagTermSpec)

/-- ITS FALSE NEIGHBOUR: 'it returns false'. Refute it at one input. -/
def fnExactBagTermWrong : ChangeSpec := { name := "fnExactBagTerm", fn := fun _ => fun
  | [d] => { results := [.lit (.bool false)], args := [d] }
  | _ => none }
def FnExactBagTermWrongFalsely : Prop := fnExactBagTermRow.holds Try.pinned (OpenSpec.ofChange fnExactBagTermWrong)

/-- 'laws.FnExactNumeralValue': WHATEVER THE INPUT: true; the input reads as it did. -/
def fnExactNumeralValueSpec : ChangeSpec := { name := "fnExactNumeralValue", fn := fun _ => fun
  | [d] => { results := [.lit (.bool true)], args := [d] }
  | _ => none }
def fnExactNumeralValueRow : OpenClaim := { program := "ytfnkobcmhbdcoaa", sum := "3cf2c2d001a560ad206e351823d8054016bb01a641fcbba9e0f951a28066317e", func := "loop.example/g03107/laws.FnExactNumeralValue", spec := "fnExactNumeralValue", inPlace := ["internal/bytealg.abigen_runtime_cmpstring"], unfollowed := true, recurses := true, loops := true, apart := false }
def FnExactNumeralValueSaid : Prop := fnExactNumeralValueRow.holds Try.pinned (OpenSpec.ofChange fnExactNumeralValueSpec)

/-- ITS FALSE NEIGHBOUR: 'it returns false'. Refute it at one input. -/
def fnExactNumeralValueWrong : ChangeSpec := { name := "fnExactNumeralValue", fn := fun _ => fun
  | [d] => { results := [.lit (.bool false)], args := [d] }
  | _ => none }
def FnExactNumeralValueWrongFalsely : Prop := fnExactNumeralValueRow.holds Try.pinned (OpenSpec.ofChange fnExactNumeralValueWrong)

/-- 'laws.FnExactSolutionBasis': WHATEVER THE INPUT: true; the input reads as it did. -/
def fnExactSolutionBasisSpec : ChangeSpec := { name := "fnExactSolutionBasis", fn := fun _ => fun
  | [d1, d2] => { results := [.lit (.bool true)], args := [d1, d2] }
  | _ => none }
def fnExactSolutionBasisRow : OpenClaim := { program := "ytfnkobcmhbdcoaa", sum := "3cf2c2d001a560ad206e351823d8054016bb01a641fcbba9e0f951a28066317e", func := "loop.example/g03107/laws.FnExactSolutionBasis", spec := "fnExactSolutionBasis", recurses := true, apart := false }
def FnExactSolutionBasisSaid : Prop := fnExactSolutionBasisRow.holds Try.pinned (OpenSpec.ofChange fnExactSolutionBasisSpec)

/-- ITS FALSE NEIGHBOUR: 'it returns false'. Refute it at one input. -/
def fnExactSolutionBasisWrong : ChangeSpec := { name := "fnExactSolutionBasis", fn := fun _ => fun
  | [d1, d2] => { results := [.lit (.bool false)], args := [d1, d2] }
  | _ => none }
def FnExactSolutionBasisWrongFalsely : Prop := fnExactSolutionBasisRow.holds Try.pinned (OpenSpec.ofChange fnExactSolutionBasisWrong)

/-- 'laws.FnExactDecompose': WHATEVER THE INPUT: true; the input reads as it did. -/
def fnExactDecomposeSpec : ChangeSpec := { name := "fnExactDecompose", fn := fun _ => fun
  | [d1, d2, d3] => { results := [.lit (.bool true)], args := [d1, d2, d3] }
  | _ => none }
def fnExactDecomposeRow : OpenClaim := { program := "ytfnkobcmhbdcoaa", sum := "3cf2c2d001a560ad206e351823d8054016bb01a641fcbba9e0f951a28066317e", func := "loop.example/g03107/laws.FnExactDecompose", spec := "fnExactDecompose", recurses := true, apart := false }
def FnExactDecomposeSaid : Prop := fnExactDecomposeRow.holds Try.pinned (OpenSpec.ofChange fnExactDecomposeSpec)

/-- ITS FALSE NEIGHBOUR: 'it returns false'. Refute it at one input. -/
def fnExactDecomposeWrong : ChangeSpec := { name := "fnExactDecompose", fn := fun _ => fun
  | [d1, d2, d3] => { results := [.lit (.bool false)], args := [d1, d2, d3] }
  | _ => none }
def FnExactDecomposeWrongFalsely : Prop := fnExactDecomposeRow.holds Try.pinned (OpenSpec.ofChange fnExactDecomposeWrong)

/-- 'laws.FnBasis': WHATEVER THE INPUT: true; the input reads as it did. -/
def fnBasisSpec : ChangeSpec := { name := "fnBasis", fn := fun _ => fun
  | [d] => { results := [.lit (.bool true)], args := [d] }
  | _ => none }
def fnBasisRow : OpenClaim := { program := "ytfnkobcmhbdcoaa", sum := "3cf2c2d001a560ad206e351823d8054016bb01a641fcbba9e0f951a28066317e", func := "loop.example/g03107/laws.FnBasis", spec := "fnBasis", recurses := true, apart := false }
def FnBasisSaid : Prop := fnBasisRow.holds Try.pinned (OpenSpec.ofChange fnBasisSpec)

/-- ITS FALSE NEIGHBOUR: 'it returns false'. Refute it at one input. -/
def fnBasisWrong : ChangeSpec := { name := "fnBasis", fn := fun _ => fun
  | [d] => { results := [.lit (.bool false)], args := [d] }
  | _ => none }
def FnBasisWrongFalsely : Prop := fnBasisRow.holds Try.pinned (OpenSpec.ofChange fnBasisWrong)

/-- 'laws.FnExactSortWord': WHATEVER THE INPUT: true; the input reads as it did. -/
def fnExactSortWordSpec : ChangeSpec := { name := "fnExactSortWord", fn := fun _ => fun
  | [d] => { results := [.lit (.bool true)], args := [d] }
  | _ => none }
def fnExactSortWordRow : OpenClaim := { program := "ytfnkobcmhbdcoaa", sum := "3cf2c2d001a560ad206e351823d8054016bb01a641fcbba9e0f951a28066317e", func := "loop.example/g03107/laws.FnExactSortWord", spec := "fnExactSortWord", recurses := true, apart := false }
def FnExactSortWordSaid : Prop := fnExactSortWordRow.holds Try.pinned (OpenSpec.ofChange fnExactSortWordSpec)

/-- ITS FALSE NEIGHBOUR: 'it returns false'. Refute it at one input. -/
def fnExactSortWordWrong : ChangeSpec := { name := "fnExactSortWord", fn := fun _ => fun
  | [d] => { results := [.lit (.bool false)], args := [d] }
  | _ => none }
def FnExactSortWordWrongFalsely : Prop := fnExactSortWordRow.holds Try.pinned (OpenSpec.ofChange fnExactSortWordWrong)

/- THE SECOND FORM. 'bulk': how many values and letters a reading holds, each counted each time it is reached (what is shared counts as often as it is met; a slice's spare places count too). A statement '..UptoSaid' is the law's where the arguments, and the package variables that the reading takes, are together of bulk at most 1048576: NARROWER than '..Said'. Prove '..Said' where nothing that the law and all that it calls make is longer than what came in: it says more and counts as full. Else prove '..UptoSaid'. A law counts once. -/
mutual
def uptoBulk {H : Type} : DataW H → Nat
  | .lit (.string bytes) => bytes.length + 1
  | .lit _ => 1
  | .nil => 1
  | .ptr d => uptoBulk d + 1
  | .slice elems spare => uptoBulkAll elems + uptoBulkAll spare + 1
  | .agg parts => uptoBulkAll parts + 1
  | .iface _ d => uptoBulk d + 1
  | .map entries => uptoBulkEntries entries + 1
  | .held _ => 1
def uptoBulkAll {H : Type} : List (DataW H) → Nat
  | [] => 0
  | d :: r => uptoBulk d + uptoBulkAll r
def uptoBulkEntries {H : Type} : List (Lit × DataW H) → Nat
  | [] => 0
  | x :: r => uptoBulkEntry x + uptoBulkEntries r
def uptoBulkEntry {H : Type} : Lit × DataW H → Nat
  | (.string bytes, d) => bytes.length + uptoBulk d + 1
  | (_, d) => uptoBulk d + 1
 end
def uptoSmall : (H : Type) → List (DataW H) → Bool := fun _ ds => decide (uptoBulkAll ds ≤ 1048576)
def OpenSpec.upto (s : _root_.Go.ChangeSpec) : _root_.Go.OpenSpec := { _root_.Go.OpenSpec.ofChange s with cond := some uptoSmall }

/-- 'laws.FnExactReverseWord', WHERE WHAT IT READS IS OF BULK AT MOST 1048576: true; the input reads as it did. -/
def fnExactReverseWordUptoRow : OpenClaim := { program := "ytfnkobcmhbdcoaa", sum := "3cf2c2d001a560ad206e351823d8054016bb01a641fcbba9e0f951a28066317e", func := "loop.example/g03107/laws.FnExactReverseWord", spec := "fnExactReverseWord", apart := false, narrowed := true }
def FnExactReverseWordUptoSaid : Prop := fnExactReverseWordUptoRow.holds Try.pinned (OpenSpec.upto fnExactReverseWordSpec)

/-- 'laws.FnExactIsProblem', WHERE WHAT IT READS IS OF BULK AT MOST 1048576: true; the input reads as it did. -/
def fnExactIsProblemUptoRow : OpenClaim := { program := "ytfnkobcmhbdcoaa", sum := "3cf2c2d001a560ad206e351823d8054016bb01a641fcbba9e0f951a28066317e", func := "loop.example/g03107/laws.FnExactIsProblem", spec := "fnExactIsProblem", apart := false, narrowed := true }
def FnExactIsProblemUptoSaid : Prop := fnExactIsProblemUptoRow.holds Try.pinned (OpenSpec.upto fnExactIsProblemSpec)

/-- 'laws.FnExactNextMarkings', WHERE WHAT IT READS IS OF BULK AT MOST 1048576: true; the input reads as it did. -/
def fnExactNextMarkingsUptoRow : OpenClaim := { program := "ytfnkobcmhbdcoaa", sum := "3cf2c2d001a560ad206e351823d8054016bb01a641fcbba9e0f951a28066317e", func := "loop.example/g03107/laws.FnExactNextMarkings", spec := "fnExactNextMarkings", apart := false, narrowed := true }
def FnExactNextMarkingsUptoSaid : Prop := fnExactNextMarkingsUptoRow.holds Try.pinned (OpenSpec.upto fnExactNextMarkingsSpec)

/-- 'laws.FnExactNumeralTerm', WHERE WHAT IT READS IS OF BULK AT MOST 1048576: true; the input reads as it did. -/
def fnExactNumeralTermUptoRow : OpenClaim := { program := "ytfnkobcmhbdcoaa", sum := "3cf2c2d001a560ad206e351823d8054016bb01a641fcbba9e0f951a28066317e", func := "loop.example/g03107/laws.FnExactNumeralTerm", spec := "fnExactNumeralTerm", recurses := true, apart := false, narrowed := true }
def FnExactNumeralTermUptoSaid : Prop := fnExactNumeralTermUptoRow.holds Try.pinned (OpenSpec.upto fnExactNumeralTermSpec)

/-- 'laws.FnExactIsSolution', WHERE WHAT IT READS IS OF BULK AT MOST 1048576: true; the input reads as it did. -/
def fnExactIsSolutionUptoRow : OpenClaim := { program := "ytfnkobcmhbdcoaa", sum := "3cf2c2d001a560ad206e351823d8054016bb01a641fcbba9e0f951a28066317e", func := "loop.example/g03107/laws.FnExactIsSolution", spec := "fnExactIsSolution", apart := false, narrowed := true }
def FnExactIsSolutionUptoSaid : Prop := fnExactIsSolutionUptoRow.holds Try.pinned (OpenSpec.upto fnExactIsSolutionSpec)

/-- 'laws.FnExactComposeMorphisms', WHERE WHAT IT READS IS OF BULK AT MOST 1048576: true; the input reads as it did. -/
def fnExactComposeMorphismsUptoRow : OpenClaim := { program := "ytfnkobcmhbdcoaa", sum := "3cf2c2d001a560ad206e351823d8054016bb01a641fcbba9e0f951a28066317e", func := "loop.example/g03107/laws.FnExactComposeMorphisms", spec := "fnExactComposeMorphisms", apart := false, narrowed := true }
def FnExactComposeMorphismsUptoSaid : Prop := fnExactComposeMorphismsUptoRow.holds Try.pinned (OpenSpec.upto fnExactComposeMorphismsSpec)

/-- 'laws.FnExactBagTerm', WHERE WHAT IT READS IS OF BULK AT MOST 1048576: true; the input reads as it did. -/
def fnExactBagTermUptoRow : OpenClaim := { program := "ytfnkobcmhbdcoaa", sum := "3cf2c2d001a560ad206e351823d8054016bb01a641fcbba9e0f951a28066317e", func := "loop.example/g03107/laws.FnExactBagTerm", spec := "fnExactBagTerm", recurses := true, apart := false, narrowed := true }
def FnExactBagTermUptoSaid : Prop := fnExactBagTermUptoRow.holds Try.pinned (OpenSpec.upto fnExactBagTermSpec)

/-- 'laws.FnExactNumeralValue', WHERE WHAT IT READS IS OF BULK AT MOST 1048576: true; the input reads as it did. -/
def fnExactNumeralValueUptoRow : OpenClaim := { program := "ytfnkobcmhbdcoaa", sum := "3cf2c2d001a560ad206e351823d8054016bb01a641fcbba9e0f951a28066317e", func := "loop.example/g03107/laws.FnExactNumeralValue", spec := "fnExactNumeralValue", inPlace := ["internal/bytealg.abigen_runtime_cmpstring"], unfollowed := true, recurses := true, loops := true, apart := false, narrowed := true }
def FnExactNumeralValueUptoSaid : Prop := fnExactNumeralValueUptoRow.holds Try.pinned (OpenSpec.upto fnExactNumeralValueSpec)

/-- 'laws.FnExactSolutionBasis', WHERE WHAT IT READS IS OF BULK AT MOST 1048576: true; the input reads as it did. -/
def fnExactSolutionBasisUptoRow : OpenClaim := { program := "ytfnkobcmhbdcoaa", sum := "3cf2c2d001a560ad206e351823d8054016bb01a641fcbba9e0f951a28066317e", func := "loop.example/g03107/laws.FnExactSolutionBasis", spec := "fnExactSolutionBasis", recurses := true, apart := false, narrowed := true }
def FnExactSolutionBasisUptoSaid : Prop := fnExactSolutionBasisUptoRow.holds Try.pinned (OpenSpec.upto fnExactSolutionBasisSpec)

/-- 'laws.FnExactDecompose', WHERE WHAT IT READS IS OF BULK AT MOST 1048576: true; the input reads as it did. -/
def fnExactDecomposeUptoRow : OpenClaim := { program := "ytfnkobcmhbdcoaa", sum := "3cf2c2d001a560ad206e351823d8054016bb01a641fcbba9e0f951a28066317e", func := "loop.example/g03107/laws.FnExactDecompose", spec := "fnExactDecompose", recurses := true, apart := false, narrowed := true }
def FnExactDecomposeUptoSaid : Prop := fnExactDecomposeUptoRow.holds Try.pinned (OpenSpec.upto fnExactDecomposeSpec)

/-- 'laws.FnBasis', WHERE WHAT IT READS IS OF BULK AT MOST 1048576: true; the input reads as it did. -/
def fnBasisUptoRow : OpenClaim := { program := "ytfnkobcmhbdcoaa", sum := "3cf2c2d001a560ad206e351823d8054016bb01a641fcbba9e0f951a28066317e", func := "loop.example/g03107/laws.FnBasis", spec := "fnBasis", recurses := true, apart := false, narrowed := true }
def FnBasisUptoSaid : Prop := fnBasisUptoRow.holds Try.pinned (OpenSpec.upto fnBasisSpec)

/-- 'laws.FnExactSortWord', WHERE WHAT IT READS IS OF BULK AT MOST 1048576: true; the input reads as it did. -/
def fnExactSortWordUptoRow : OpenClaim := { program := "ytfnkobcmhbdcoaa", sum := "3cf2c2d001a560ad206e351823d8054016bb01a641fcbba9e0f951a28066317e", func := "loop.example/g03107/laws.FnExactSortWord", spec := "fnExactSortWord", recurses := true, apart := false, narrowed := true }
def FnExactSortWordUptoSaid : Prop := fnExactSortWordUptoRow.holds Try.pinned (OpenSpec.upto fnExactSortWordSpec)

end Rows
end Go.Proofs.Ytfnkobcmhbdcoaa
