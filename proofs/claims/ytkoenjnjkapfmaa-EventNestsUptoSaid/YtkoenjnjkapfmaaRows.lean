/-
  NARROWER THAN 'FOR EVERY INPUT', by the rows' own cells (each row's printed sentence says how): EventBack: loops · ExprParts: loops.
  DERIVED. THE GIVEN ROWS OF THIS SEAT. 11 by the template 'for every input the law returns true; each argument reads behind the call as it read before'; 0 by the template 'total and deterministic' (their statements: YtkoenjnjkapfmaaTotals.lean).
  GIVEN WITH THE SEED: the statements are not yours to turn. If you find one false, say at which input.
  Laid BY PROGRAM, IN A SANDBOX (cutbox-rows.mjs): the forced cells as the released guide's own fill.sh prints them over the translation bfc49e0656ab6487… (all of the seat's roots in one cut). By AI agents, Wed Nov 11 2026. No macro, syntax, notation, axiom, sorry.
-/
import Derived.Test.YtkoenjnjkapfmaaChecked
import GoSem.Claim
import GoSem.ClaimJoined
import GoSem.ClaimMapViews
import Derived.JoinedTies
import Derived.KernelRfl
namespace Go.Proofs.Ytkoenjnjkapfmaa
/- THE CELL 'sum', in the pinned program and in every row, IS THE sha256 OF THE DUMP (.gsa) THAT YtkoenjnjkapfmaaProg.lean LOADS. Nothing in Lean hashes anything: it is a label: what it is worth is what the hold of that sum in a sandbox is worth. -/
noncomputable def Try.pinned : Pinned := { name := "ytkoenjnjkapfmaa", sum := "bfc49e0656ab6487f834ee415020d138e326f9d2c9d4cf90b364093ce79cd185", checked := Try.checked }
namespace Rows
def none {H : Type} : Left H := { results := [], args := [] }

/-- 'chaffkeep.SetAlgebra': WHATEVER THE INPUT: true; the input reads as it did. -/
def setAlgebraSpec : ChangeSpec := { name := "setAlgebra", fn := fun _ => fun
  | [d1, d2, d3] => { results := [.lit (.bool true)], args := [d1, d2, d3] }
  | _ => none }
def setAlgebraRow : OpenClaim := { program := "ytkoenjnjkapfmaa", sum := "bfc49e0656ab6487f834ee415020d138e326f9d2c9d4cf90b364093ce79cd185", func := "chaffcutter/chaffkeep.SetAlgebra", spec := "setAlgebra", unfollowed := true, recurses := true, apart := false }
def SetAlgebraSaid : Prop := setAlgebraRow.holds Try.pinned (OpenSpec.ofChange setAlgebraSpec)

/-- ITS FALSE NEIGHBOUR: 'it returns false'. Refute it at one input. -/
def setAlgebraWrong : ChangeSpec := { name := "setAlgebra", fn := fun _ => fun
  | [d1, d2, d3] => { results := [.lit (.bool false)], args := [d1, d2, d3] }
  | _ => none }
def SetAlgebraWrongFalsely : Prop := setAlgebraRow.holds Try.pinned (OpenSpec.ofChange setAlgebraWrong)

/-- 'chaffkeep.CoverMerge': WHATEVER THE INPUT: true; the input reads as it did. -/
def coverMergeSpec : ChangeSpec := { name := "coverMerge", fn := fun _ => fun
  | [d1, d2, d3] => { results := [.lit (.bool true)], args := [d1, d2, d3] }
  | _ => none }
def coverMergeRow : OpenClaim := { program := "ytkoenjnjkapfmaa", sum := "bfc49e0656ab6487f834ee415020d138e326f9d2c9d4cf90b364093ce79cd185", func := "chaffcutter/chaffkeep.CoverMerge", spec := "coverMerge", apart := false }
def CoverMergeSaid : Prop := coverMergeRow.holds Try.pinned (OpenSpec.ofChange coverMergeSpec)

/-- ITS FALSE NEIGHBOUR: 'it returns false'. Refute it at one input. -/
def coverMergeWrong : ChangeSpec := { name := "coverMerge", fn := fun _ => fun
  | [d1, d2, d3] => { results := [.lit (.bool false)], args := [d1, d2, d3] }
  | _ => none }
def CoverMergeWrongFalsely : Prop := coverMergeRow.holds Try.pinned (OpenSpec.ofChange coverMergeWrong)

/-- 'chaffkeep.CoverOwn': WHATEVER THE INPUT: true; the input reads as it did. -/
def coverOwnSpec : ChangeSpec := { name := "coverOwn", fn := fun _ => fun
  | [d1, d2] => { results := [.lit (.bool true)], args := [d1, d2] }
  | _ => none }
def coverOwnRow : OpenClaim := { program := "ytkoenjnjkapfmaa", sum := "bfc49e0656ab6487f834ee415020d138e326f9d2c9d4cf90b364093ce79cd185", func := "chaffcutter/chaffkeep.CoverOwn", spec := "coverOwn", apart := false }
def CoverOwnSaid : Prop := coverOwnRow.holds Try.pinned (OpenSpec.ofChange coverOwnSpec)

/-- ITS FALSE NEIGHBOUR: 'it returns false'. Refute it at one input. -/
def coverOwnWrong : ChangeSpec := { name := "coverOwn", fn := fun _ => fun
  | [d1, d2] => { results := [.lit (.bool false)], args := [d1, d2] }
  | _ => none }
def CoverOwnWrongFalsely : Prop := coverOwnRow.holds Try.pinned (OpenSpec.ofChange coverOwnWrong)

/-- 'chaffkeep.EventBack': WHATEVER THE INPUT: true; the input reads as it did. -/
def eventBackSpec : ChangeSpec := { name := "eventBack", fn := fun _ => fun
  | [d1, d2] => { results := [.lit (.bool true)], args := [d1, d2] }
  | _ => none }
def eventBackRow : OpenClaim := { program := "ytkoenjnjkapfmaa", sum := "bfc49e0656ab6487f834ee415020d138e326f9d2c9d4cf90b364093ce79cd185", func := "chaffcutter/chaffkeep.EventBack", spec := "eventBack", unfollowed := true, recurses := true, loops := true, apart := false }
def EventBackSaid : Prop := eventBackRow.holds Try.pinned (OpenSpec.ofChange eventBackSpec)

/-- ITS FALSE NEIGHBOUR: 'it returns false'. Refute it at one input. -/
def eventBackWrong : ChangeSpec := { name := "eventBack", fn := fun _ => fun
  | [d1, d2] => { results := [.lit (.bool false)], args := [d1, d2] }
  | _ => none }
def EventBackWrongFalsely : Prop := eventBackRow.holds Try.pinned (OpenSpec.ofChange eventBackWrong)

/-- 'chaffkeep.WalkMany': WHATEVER THE INPUT: true; the input reads as it did. -/
def walkManySpec : ChangeSpec := { name := "walkMany", fn := fun _ => fun
  | [d1, d2, d3] => { results := [.lit (.bool true)], args := [d1, d2, d3] }
  | _ => none }
def walkManyRow : OpenClaim := { program := "ytkoenjnjkapfmaa", sum := "bfc49e0656ab6487f834ee415020d138e326f9d2c9d4cf90b364093ce79cd185", func := "chaffcutter/chaffkeep.WalkMany", spec := "walkMany", inPlace := ["internal/bytealg.IndexByteString"], apart := false }
def WalkManySaid : Prop := walkManyRow.holds Try.pinned (OpenSpec.ofChange walkManySpec)

/-- ITS FALSE NEIGHBOUR: 'it returns false'. Refute it at one input. -/
def walkManyWrong : ChangeSpec := { name := "walkMany", fn := fun _ => fun
  | [d1, d2, d3] => { results := [.lit (.bool false)], args := [d1, d2, d3] }
  | _ => none }
def WalkManyWrongFalsely : Prop := walkManyRow.holds Try.pinned (OpenSpec.ofChange walkManyWrong)

/-- 'chaffkeep.CoverLeft': WHATEVER THE INPUT: true; the input reads as it did. -/
def coverLeftSpec : ChangeSpec := { name := "coverLeft", fn := fun _ => fun
  | [d1, d2] => { results := [.lit (.bool true)], args := [d1, d2] }
  | _ => none }
def coverLeftRow : OpenClaim := { program := "ytkoenjnjkapfmaa", sum := "bfc49e0656ab6487f834ee415020d138e326f9d2c9d4cf90b364093ce79cd185", func := "chaffcutter/chaffkeep.CoverLeft", spec := "coverLeft", apart := false }
def CoverLeftSaid : Prop := coverLeftRow.holds Try.pinned (OpenSpec.ofChange coverLeftSpec)

/-- ITS FALSE NEIGHBOUR: 'it returns false'. Refute it at one input. -/
def coverLeftWrong : ChangeSpec := { name := "coverLeft", fn := fun _ => fun
  | [d1, d2] => { results := [.lit (.bool false)], args := [d1, d2] }
  | _ => none }
def CoverLeftWrongFalsely : Prop := coverLeftRow.holds Try.pinned (OpenSpec.ofChange coverLeftWrong)

/-- 'chaffkeep.EventNests': WHATEVER THE INPUT: true; the input reads as it did. -/
def eventNestsSpec : ChangeSpec := { name := "eventNests", fn := fun _ => fun
  | [d1, d2] => { results := [.lit (.bool true)], args := [d1, d2] }
  | _ => none }
def eventNestsRow : OpenClaim := { program := "ytkoenjnjkapfmaa", sum := "bfc49e0656ab6487f834ee415020d138e326f9d2c9d4cf90b364093ce79cd185", func := "chaffcutter/chaffkeep.EventNests", spec := "eventNests", unfollowed := true, recurses := true, apart := false }
def EventNestsSaid : Prop := eventNestsRow.holds Try.pinned (OpenSpec.ofChange eventNestsSpec)

/-- ITS FALSE NEIGHBOUR: 'it returns false'. Refute it at one input. -/
def eventNestsWrong : ChangeSpec := { name := "eventNests", fn := fun _ => fun
  | [d1, d2] => { results := [.lit (.bool false)], args := [d1, d2] }
  | _ => none }
def EventNestsWrongFalsely : Prop := eventNestsRow.holds Try.pinned (OpenSpec.ofChange eventNestsWrong)

/-- 'chaffkeep.ExprParts': WHATEVER THE INPUT: true; the input reads as it did. -/
def exprPartsSpec : ChangeSpec := { name := "exprParts", fn := fun _ => fun
  | [d] => { results := [.lit (.bool true)], args := [d] }
  | _ => none }
def exprPartsRow : OpenClaim := { program := "ytkoenjnjkapfmaa", sum := "bfc49e0656ab6487f834ee415020d138e326f9d2c9d4cf90b364093ce79cd185", func := "chaffcutter/chaffkeep.ExprParts", spec := "exprParts", recurses := true, loops := true, apart := false }
def ExprPartsSaid : Prop := exprPartsRow.holds Try.pinned (OpenSpec.ofChange exprPartsSpec)

/-- ITS FALSE NEIGHBOUR: 'it returns false'. Refute it at one input. -/
def exprPartsWrong : ChangeSpec := { name := "exprParts", fn := fun _ => fun
  | [d] => { results := [.lit (.bool false)], args := [d] }
  | _ => none }
def ExprPartsWrongFalsely : Prop := exprPartsRow.holds Try.pinned (OpenSpec.ofChange exprPartsWrong)

/-- 'chaffkeep.QuoteBack': WHATEVER THE INPUT: true; the input reads as it did. -/
def quoteBackSpec : ChangeSpec := { name := "quoteBack", fn := fun _ => fun
  | [d1, d2] => { results := [.lit (.bool true)], args := [d1, d2] }
  | _ => none }
def quoteBackRow : OpenClaim := { program := "ytkoenjnjkapfmaa", sum := "bfc49e0656ab6487f834ee415020d138e326f9d2c9d4cf90b364093ce79cd185", func := "chaffcutter/chaffkeep.QuoteBack", spec := "quoteBack", inPlace := ["internal/bytealg.IndexByteString"], apart := false }
def QuoteBackSaid : Prop := quoteBackRow.holds Try.pinned (OpenSpec.ofChange quoteBackSpec)

/-- ITS FALSE NEIGHBOUR: 'it returns false'. Refute it at one input. -/
def quoteBackWrong : ChangeSpec := { name := "quoteBack", fn := fun _ => fun
  | [d1, d2] => { results := [.lit (.bool false)], args := [d1, d2] }
  | _ => none }
def QuoteBackWrongFalsely : Prop := quoteBackRow.holds Try.pinned (OpenSpec.ofChange quoteBackWrong)

/-- 'chaffkeep.WalkOrder': WHATEVER THE INPUT: true; the input reads as it did. -/
def walkOrderSpec : ChangeSpec := { name := "walkOrder", fn := fun _ => fun
  | [d1, d2, d3] => { results := [.lit (.bool true)], args := [d1, d2, d3] }
  | _ => none }
def walkOrderRow : OpenClaim := { program := "ytkoenjnjkapfmaa", sum := "bfc49e0656ab6487f834ee415020d138e326f9d2c9d4cf90b364093ce79cd185", func := "chaffcutter/chaffkeep.WalkOrder", spec := "walkOrder", inPlace := ["internal/bytealg.IndexByteString"], apart := false }
def WalkOrderSaid : Prop := walkOrderRow.holds Try.pinned (OpenSpec.ofChange walkOrderSpec)

/-- ITS FALSE NEIGHBOUR: 'it returns false'. Refute it at one input. -/
def walkOrderWrong : ChangeSpec := { name := "walkOrder", fn := fun _ => fun
  | [d1, d2, d3] => { results := [.lit (.bool false)], args := [d1, d2, d3] }
  | _ => none }
def WalkOrderWrongFalsely : Prop := walkOrderRow.holds Try.pinned (OpenSpec.ofChange walkOrderWrong)

/-- 'chaffkeep.WalkBack': WHATEVER THE INPUT: true; the input reads as it did. -/
def walkBackSpec : ChangeSpec := { name := "walkBack", fn := fun _ => fun
  | [d1, d2, d3] => { results := [.lit (.bool true)], args := [d1, d2, d3] }
  | _ => none }
def walkBackRow : OpenClaim := { program := "ytkoenjnjkapfmaa", sum := "bfc49e0656ab6487f834ee415020d138e326f9d2c9d4cf90b364093ce79cd185", func := "chaffcutter/chaffkeep.WalkBack", spec := "walkBack", inPlace := ["internal/bytealg.IndexByteString"], apart := false }
def WalkBackSaid : Prop := walkBackRow.holds Try.pinned (OpenSpec.ofChange walkBackSpec)

/-- ITS FALSE NEIGHBOUR: 'it returns false'. Refute it at one input. -/
def walkBackWrong : ChangeSpec := { name := "walkBack", fn := fun _ => fun
  | [d1, d2, d3] => { results := [.lit (.bool false)], args := [d1, d2, d3] }
  | _ => none }
def WalkBackWrongFalsely : Prop := walkBackRow.holds Try.pinned (OpenSpec.ofChange walkBackWrong)

/- THE SECOND FORM. 'bulk': how many values and letters a reading holds, each counted each time it is reached (what is shared counts as often as it is met; a slice's spare places count too). A statement '..UptoSaid' is the law's where the arguments, and the package variables that the reading takes, are together of bulk at most 1048576: NARROWER than '..Said'. Prove '..Said' where nothing that the law and all that it calls make is longer than what came in: it says more and counts as full. Else prove '..UptoSaid'. A law counts once. -/
mutual
def uptoBulk {H : Type} : DataW H → Nat
  | .lit (.string bytes) => bytes.length + 1
  | .lit _ => 1
  | .nil => 1
  | .ptr d => uptoBulk d + 1
  | .slice elems spare => uptoBulkAll elems + uptoBulkAll spare + 1
  | .agg parts => uptoBulkAll parts + 1
  | .iface _ d => uptoBulk d + 1
  | .map entries => uptoBulkEntries entries + 1
  | .held _ => 1
def uptoBulkAll {H : Type} : List (DataW H) → Nat
  | [] => 0
  | d :: r => uptoBulk d + uptoBulkAll r
def uptoBulkEntries {H : Type} : List (Lit × DataW H) → Nat
  | [] => 0
  | x :: r => uptoBulkEntry x + uptoBulkEntries r
def uptoBulkEntry {H : Type} : Lit × DataW H → Nat
  | (.string bytes, d) => bytes.length + uptoBulk d + 1
  | (_, d) => uptoBulk d + 1
 end
def uptoSmall : (H : Type) → List (DataW H) → Bool := fun _ ds => decide (uptoBulkAll ds ≤ 1048576)
def OpenSpec.upto (s : _root_.Go.ChangeSpec) : _root_.Go.OpenSpec := { _root_.Go.OpenSpec.ofChange s with cond := some uptoSmall }

/-- 'chaffkeep.SetAlgebra', WHERE WHAT IT READS IS OF BULK AT MOST 1048576: true; the input reads as it did. -/
def setAlgebraUptoRow : OpenClaim := { program := "ytkoenjnjkapfmaa", sum := "bfc49e0656ab6487f834ee415020d138e326f9d2c9d4cf90b364093ce79cd185", func := "chaffcutter/chaffkeep.SetAlgebra", spec := "setAlgebra", unfollowed := true, recurses := true, apart := false, narrowed := true }
def SetAlgebraUptoSaid : Prop := setAlgebraUptoRow.holds Try.pinned (OpenSpec.upto setAlgebraSpec)

/-- 'chaffkeep.CoverMerge', WHERE WHAT IT READS IS OF BULK AT MOST 1048576: true; the input reads as it did. -/
def coverMergeUptoRow : OpenClaim := { program := "ytkoenjnjkapfmaa", sum := "bfc49e0656ab6487f834ee415020d138e326f9d2c9d4cf90b364093ce79cd185", func := "chaffcutter/chaffkeep.CoverMerge", spec := "coverMerge", apart := false, narrowed := true }
def CoverMergeUptoSaid : Prop := coverMergeUptoRow.holds Try.pinned (OpenSpec.upto coverMergeSpec)

/-- 'chaffkeep.CoverOwn', WHERE WHAT IT READS IS OF BULK AT MOST 1048576: true; the input reads as it did. -/
def coverOwnUptoRow : OpenClaim := { program := "ytkoenjnjkapfmaa", sum := "bfc49e0656ab6487f834ee415020d138e326f9d2c9d4cf90b364093ce79cd185", func := "chaffcutter/chaffkeep.CoverOwn", spec := "coverOwn", apart := false, narrowed := true }
def CoverOwnUptoSaid : Prop := coverOwnUptoRow.holds Try.pinned (OpenSpec.upto coverOwnSpec)

/-- 'chaffkeep.EventBack', WHERE WHAT IT READS IS OF BULK AT MOST 1048576: true; the input reads as it did. -/
def eventBackUptoRow : OpenClaim := { program := "ytkoenjnjkapfmaa", sum := "bfc49e0656ab6487f834ee415020d138e326f9d2c9d4cf90b364093ce79cd185", func := "chaffcutter/chaffkeep.EventBack", spec := "eventBack", unfollowed := true, recurses := true, loops := true, apart := false, narrowed := true }
def EventBackUptoSaid : Prop := eventBackUptoRow.holds Try.pinned (OpenSpec.upto eventBackSpec)

/-- 'chaffkeep.WalkMany', WHERE WHAT IT READS IS OF BULK AT MOST 1048576: true; the input reads as it did. -/
def walkManyUptoRow : OpenClaim := { program := "ytkoenjnjkapfmaa", sum := "bfc49e0656ab6487f834ee415020d138e326f9d2c9d4cf90b364093ce79cd185", func := "chaffcutter/chaffkeep.WalkMany", spec := "walkMany", inPlace := ["internal/bytealg.IndexByteString"], apart := false, narrowed := true }
def WalkManyUptoSaid : Prop := walkManyUptoRow.holds Try.pinned (OpenSpec.upto walkManySpec)

/-- 'chaffkeep.CoverLeft', WHERE WHAT IT READS IS OF BULK AT MOST 1048576: true; the input reads as it did. -/
def coverLeftUptoRow : OpenClaim := { program := "ytkoenjnjkapfmaa", sum := "bfc49e0656ab6487f834ee415020d138e326f9d2c9d4cf90b364093ce79cd185", func := "chaffcutter/chaffkeep.CoverLeft", spec := "coverLeft", apart := false, narrowed := true }
def CoverLeftUptoSaid : Prop := coverLeftUptoRow.holds Try.pinned (OpenSpec.upto coverLeftSpec)

/-- 'chaffkeep.EventNests', WHERE WHAT IT READS IS OF BULK AT MOST 1048576: true; the input reads as it did. -/
def eventNestsUptoRow : OpenClaim := { program := "ytkoenjnjkapfmaa", sum := "bfc49e0656ab6487f834ee415020d138e326f9d2c9d4cf90b364093ce79cd185", func := "chaffcutter/chaffkeep.EventNests", spec := "eventNests", unfollowed := true, recurses := true, apart := false, narrowed := true }
def EventNestsUptoSaid : Prop := eventNestsUptoRow.holds Try.pinned (OpenSpec.upto eventNestsSpec)

/-- 'chaffkeep.ExprParts', WHERE WHAT IT READS IS OF BULK AT MOST 1048576: true; the input reads as it did. -/
def exprPartsUptoRow : OpenClaim := { program := "ytkoenjnjkapfmaa", sum := "bfc49e0656ab6487f834ee415020d138e326f9d2c9d4cf90b364093ce79cd185", func := "chaffcutter/chaffkeep.ExprParts", spec := "exprParts", recurses := true, loops := true, apart := false, narrowed := true }
def ExprPartsUptoSaid : Prop := exprPartsUptoRow.holds Try.pinned (OpenSpec.upto exprPartsSpec)

/-- 'chaffkeep.QuoteBack', WHERE WHAT IT READS IS OF BULK AT MOST 1048576: true; the input reads as it did. -/
def quoteBackUptoRow : OpenClaim := { program := "ytkoenjnjkapfmaa", sum := "bfc49e0656ab6487f834ee415020d138e326f9d2c9d4cf90b364093ce79cd185", func := "chaffcutter/chaffkeep.QuoteBack", spec := "quoteBack", inPlace := ["internal/bytealg.IndexByteString"], apart := false, narrowed := true }
def QuoteBackUptoSaid : Prop := quoteBackUptoRow.holds Try.pinned (OpenSpec.upto quoteBackSpec)

/-- 'chaffkeep.WalkOrder', WHERE WHAT IT READS IS OF BULK AT MOST 1048576: true; the input reads as it did. -/
def walkOrderUptoRow : OpenClaim := { program := "ytkoenjnjkapfmaa", sum := "bfc49e0656ab6487f834ee415020d138e326f9d2c9d4cf90b364093ce79cd185", func := "chaffcutter/chaffkeep.WalkOrder", spec := "walkOrder", inPlace := ["internal/bytealg.IndexByteString"], apart := false, narrowed := true }
def WalkOrderUptoSaid : Prop := walkOrderUptoRow.holds Try.pinned (OpenSpec.upto walkOrderSpec)

/-- 'chaffkeep.WalkBack', WHERE WHAT IT READS IS OF BULK AT MOST 1048576: true; the input reads as it did. -/
def walkBackUptoRow : OpenClaim := { program := "ytkoenjnjkapfmaa", sum := "bfc49e0656ab6487f834ee415020d138e326f9d2c9d4cf90b364093ce79cd185", func := "chaffcutter/chaffkeep.WalkBack", spec := "walkBack", inPlace := ["internal/bytealg.IndexByteString"], apart := false, narrowed := true }
def WalkBackUptoSaid : Prop := walkBackUptoRow.holds Try.pinned (OpenSpec.upto walkBackSpec)

end Rows
end Go.Proofs.Ytkoenjnjkapfmaa
