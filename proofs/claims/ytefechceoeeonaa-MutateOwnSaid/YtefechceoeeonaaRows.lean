/-
  NARROWER THAN 'FOR EVERY INPUT', by the rows' own cells (each row's printed sentence says how): KernelOwn: loops · SimpTwice: loops · SimpOwn: loops · MutateWell: loops · MutateOwn: loops · TopSimple: loops · MutateKilled: loops · SimpSame: loops.
  DERIVED. THE GIVEN ROWS OF THIS SEAT. 8 by the template 'for every input the law returns true; each argument reads behind the call as it read before'; 0 by the template 'total and deterministic' (their statements: YtefechceoeeonaaTotals.lean).
  GIVEN WITH THE SEED: the statements are not yours to turn. If you find one false, say at which input.
  Laid BY PROGRAM, IN A SANDBOX (cutbox-rows.mjs): the forced cells as the released guide's own fill.sh prints them over the translation 58334c210fd3048b… (all of the seat's roots in one cut). By AI agents, Wed Nov 11 2026. No macro, syntax, notation, axiom, sorry.
-/
import Derived.Test.YtefechceoeeonaaChecked
import GoSem.Claim
import GoSem.ClaimJoined
import GoSem.ClaimMapViews
import Derived.JoinedTies
import Derived.KernelRfl
namespace Go.Proofs.Ytefechceoeeonaa
/- THE CELL 'sum', in the pinned program and in every row, IS THE sha256 OF THE DUMP (.gsa) THAT YtefechceoeeonaaProg.lean LOADS. Nothing in Lean hashes anything: it is a label: what it is worth is what the hold of that sum in a sandbox is worth. -/
noncomputable def Try.pinned : Pinned := { name := "ytefechceoeeonaa", sum := "58334c210fd3048b05124fcb72293ee9df9515d26338428e32c8d8b90fff9d03", checked := Try.checked }
namespace Rows
def none {H : Type} : Left H := { results := [], args := [] }

/-- 'chaffkeep.KernelOwn': WHATEVER THE INPUT: true; the input reads as it did. -/
def kernelOwnSpec : ChangeSpec := { name := "kernelOwn", fn := fun _ => fun
  | [d] => { results := [.lit (.bool true)], args := [d] }
  | _ => none }
def kernelOwnRow : OpenClaim := { program := "ytefechceoeeonaa", sum := "58334c210fd3048b05124fcb72293ee9df9515d26338428e32c8d8b90fff9d03", func := "chaffcutter/chaffkeep.KernelOwn", spec := "kernelOwn", unfollowed := true, recurses := true, loops := true, plainKeys := false, apart := false }
def KernelOwnSaid : Prop := kernelOwnRow.holds Try.pinned (OpenSpec.ofChange kernelOwnSpec)

/-- ITS FALSE NEIGHBOUR: 'it returns false'. Refute it at one input. -/
def kernelOwnWrong : ChangeSpec := { name := "kernelOwn", fn := fun _ => fun
  | [d] => { results := [.lit (.bool false)], args := [d] }
  | _ => none }
def KernelOwnWrongFalsely : Prop := kernelOwnRow.holds Try.pinned (OpenSpec.ofChange kernelOwnWrong)

/-- 'chaffkeep.SimpTwice': WHATEVER THE INPUT: true; the input reads as it did. -/
def simpTwiceSpec : ChangeSpec := { name := "simpTwice", fn := fun _ => fun
  | [d] => { results := [.lit (.bool true)], args := [d] }
  | _ => none }
def simpTwiceRow : OpenClaim := { program := "ytefechceoeeonaa", sum := "58334c210fd3048b05124fcb72293ee9df9515d26338428e32c8d8b90fff9d03", func := "chaffcutter/chaffkeep.SimpTwice", spec := "simpTwice", unfollowed := true, recurses := true, loops := true, plainKeys := false, apart := false }
def SimpTwiceSaid : Prop := simpTwiceRow.holds Try.pinned (OpenSpec.ofChange simpTwiceSpec)

/-- ITS FALSE NEIGHBOUR: 'it returns false'. Refute it at one input. -/
def simpTwiceWrong : ChangeSpec := { name := "simpTwice", fn := fun _ => fun
  | [d] => { results := [.lit (.bool false)], args := [d] }
  | _ => none }
def SimpTwiceWrongFalsely : Prop := simpTwiceRow.holds Try.pinned (OpenSpec.ofChange simpTwiceWrong)

/-- 'chaffkeep.SimpOwn': WHATEVER THE INPUT: true; the input reads as it did. -/
def simpOwnSpec : ChangeSpec := { name := "simpOwn", fn := fun _ => fun
  | [d] => { results := [.lit (.bool true)], args := [d] }
  | _ => none }
def simpOwnRow : OpenClaim := { program := "ytefechceoeeonaa", sum := "58334c210fd3048b05124fcb72293ee9df9515d26338428e32c8d8b90fff9d03", func := "chaffcutter/chaffkeep.SimpOwn", spec := "simpOwn", unfollowed := true, recurses := true, loops := true, plainKeys := false, apart := false }
def SimpOwnSaid : Prop := simpOwnRow.holds Try.pinned (OpenSpec.ofChange simpOwnSpec)

/-- ITS FALSE NEIGHBOUR: 'it returns false'. Refute it at one input. -/
def simpOwnWrong : ChangeSpec := { name := "simpOwn", fn := fun _ => fun
  | [d] => { results := [.lit (.bool false)], args := [d] }
  | _ => none }
def SimpOwnWrongFalsely : Prop := simpOwnRow.holds Try.pinned (OpenSpec.ofChange simpOwnWrong)

/-- 'chaffkeep.MutateWell': WHATEVER THE INPUT: true; the input reads as it did. -/
def mutateWellSpec : ChangeSpec := { name := "mutateWell", fn := fun _ => fun
  | [d] => { results := [.lit (.bool true)], args := [d] }
  | _ => none }
def mutateWellRow : OpenClaim := { program := "ytefechceoeeonaa", sum := "58334c210fd3048b05124fcb72293ee9df9515d26338428e32c8d8b90fff9d03", func := "chaffcutter/chaffkeep.MutateWell", spec := "mutateWell", unfollowed := true, recurses := true, loops := true, plainKeys := false, apart := false }
def MutateWellSaid : Prop := mutateWellRow.holds Try.pinned (OpenSpec.ofChange mutateWellSpec)

/-- ITS FALSE NEIGHBOUR: 'it returns false'. Refute it at one input. -/
def mutateWellWrong : ChangeSpec := { name := "mutateWell", fn := fun _ => fun
  | [d] => { results := [.lit (.bool false)], args := [d] }
  | _ => none }
def MutateWellWrongFalsely : Prop := mutateWellRow.holds Try.pinned (OpenSpec.ofChange mutateWellWrong)

/-- 'chaffkeep.MutateOwn': WHATEVER THE INPUT: true; the input reads as it did. -/
def mutateOwnSpec : ChangeSpec := { name := "mutateOwn", fn := fun _ => fun
  | [d1, d2] => { results := [.lit (.bool true)], args := [d1, d2] }
  | _ => none }
def mutateOwnRow : OpenClaim := { program := "ytefechceoeeonaa", sum := "58334c210fd3048b05124fcb72293ee9df9515d26338428e32c8d8b90fff9d03", func := "chaffcutter/chaffkeep.MutateOwn", spec := "mutateOwn", unfollowed := true, recurses := true, loops := true, plainKeys := false, apart := false }
def MutateOwnSaid : Prop := mutateOwnRow.holds Try.pinned (OpenSpec.ofChange mutateOwnSpec)

/-- ITS FALSE NEIGHBOUR: 'it returns false'. Refute it at one input. -/
def mutateOwnWrong : ChangeSpec := { name := "mutateOwn", fn := fun _ => fun
  | [d1, d2] => { results := [.lit (.bool false)], args := [d1, d2] }
  | _ => none }
def MutateOwnWrongFalsely : Prop := mutateOwnRow.holds Try.pinned (OpenSpec.ofChange mutateOwnWrong)

/-- 'chafftop.TopSimple': WHATEVER THE INPUT: true; the input reads as it did. -/
def topSimpleSpec : ChangeSpec := { name := "topSimple", fn := fun _ => fun
  | [d1, d2, d3] => { results := [.lit (.bool true)], args := [d1, d2, d3] }
  | _ => none }
def topSimpleRow : OpenClaim := { program := "ytefechceoeeonaa", sum := "58334c210fd3048b05124fcb72293ee9df9515d26338428e32c8d8b90fff9d03", func := "chaffcutter/chafftop.TopSimple", spec := "topSimple", inPlace := ["internal/bytealg.IndexByteString"], unfollowed := true, recurses := true, loops := true, plainKeys := false, apart := false }
def TopSimpleSaid : Prop := topSimpleRow.holds Try.pinned (OpenSpec.ofChange topSimpleSpec)

/-- ITS FALSE NEIGHBOUR: 'it returns false'. Refute it at one input. -/
def topSimpleWrong : ChangeSpec := { name := "topSimple", fn := fun _ => fun
  | [d1, d2, d3] => { results := [.lit (.bool false)], args := [d1, d2, d3] }
  | _ => none }
def TopSimpleWrongFalsely : Prop := topSimpleRow.holds Try.pinned (OpenSpec.ofChange topSimpleWrong)

/-- 'chaffkeep.MutateKilled': WHATEVER THE INPUT: true; the input reads as it did. -/
def mutateKilledSpec : ChangeSpec := { name := "mutateKilled", fn := fun _ => fun
  | [d1, d2, d3, d4] => { results := [.lit (.bool true)], args := [d1, d2, d3, d4] }
  | _ => none }
def mutateKilledRow : OpenClaim := { program := "ytefechceoeeonaa", sum := "58334c210fd3048b05124fcb72293ee9df9515d26338428e32c8d8b90fff9d03", func := "chaffcutter/chaffkeep.MutateKilled", spec := "mutateKilled", unfollowed := true, recurses := true, loops := true, plainKeys := false, apart := false }
def MutateKilledSaid : Prop := mutateKilledRow.holds Try.pinned (OpenSpec.ofChange mutateKilledSpec)

/-- ITS FALSE NEIGHBOUR: 'it returns false'. Refute it at one input. -/
def mutateKilledWrong : ChangeSpec := { name := "mutateKilled", fn := fun _ => fun
  | [d1, d2, d3, d4] => { results := [.lit (.bool false)], args := [d1, d2, d3, d4] }
  | _ => none }
def MutateKilledWrongFalsely : Prop := mutateKilledRow.holds Try.pinned (OpenSpec.ofChange mutateKilledWrong)

/-- 'chaffkeep.SimpSame': WHATEVER THE INPUT: true; the input reads as it did. -/
def simpSameSpec : ChangeSpec := { name := "simpSame", fn := fun _ => fun
  | [d1, d2, d3, d4] => { results := [.lit (.bool true)], args := [d1, d2, d3, d4] }
  | _ => none }
def simpSameRow : OpenClaim := { program := "ytefechceoeeonaa", sum := "58334c210fd3048b05124fcb72293ee9df9515d26338428e32c8d8b90fff9d03", func := "chaffcutter/chaffkeep.SimpSame", spec := "simpSame", unfollowed := true, recurses := true, loops := true, plainKeys := false, apart := false }
def SimpSameSaid : Prop := simpSameRow.holds Try.pinned (OpenSpec.ofChange simpSameSpec)

/-- ITS FALSE NEIGHBOUR: 'it returns false'. Refute it at one input. -/
def simpSameWrong : ChangeSpec := { name := "simpSame", fn := fun _ => fun
  | [d1, d2, d3, d4] => { results := [.lit (.bool false)], args := [d1, d2, d3, d4] }
  | _ => none }
def SimpSameWrongFalsely : Prop := simpSameRow.holds Try.pinned (OpenSpec.ofChange simpSameWrong)

/- THE SECOND FORM. 'bulk': how many values and letters a reading holds, each counted each time it is reached (what is shared counts as often as it is met; a slice's spare places count too). A statement '..UptoSaid' is the law's where the arguments, and the package variables that the reading takes, are together of bulk at most 1048576: NARROWER than '..Said'. Prove '..Said' where nothing that the law and all that it calls make is longer than what came in: it says more and counts as full. Else prove '..UptoSaid'. A law counts once. -/
mutual
def uptoBulk {H : Type} : DataW H → Nat
  | .lit (.string bytes) => bytes.length + 1
  | .lit _ => 1
  | .nil => 1
  | .ptr d => uptoBulk d + 1
  | .slice elems spare => uptoBulkAll elems + uptoBulkAll spare + 1
  | .agg parts => uptoBulkAll parts + 1
  | .iface _ d => uptoBulk d + 1
  | .map entries => uptoBulkEntries entries + 1
  | .held _ => 1
def uptoBulkAll {H : Type} : List (DataW H) → Nat
  | [] => 0
  | d :: r => uptoBulk d + uptoBulkAll r
def uptoBulkEntries {H : Type} : List (Lit × DataW H) → Nat
  | [] => 0
  | x :: r => uptoBulkEntry x + uptoBulkEntries r
def uptoBulkEntry {H : Type} : Lit × DataW H → Nat
  | (.string bytes, d) => bytes.length + uptoBulk d + 1
  | (_, d) => uptoBulk d + 1
 end
def uptoSmall : (H : Type) → List (DataW H) → Bool := fun _ ds => decide (uptoBulkAll ds ≤ 1048576)
def OpenSpec.upto (s : _root_.Go.ChangeSpec) : _root_.Go.OpenSpec := { _root_.Go.OpenSpec.ofChange s with cond := some uptoSmall }

/-- 'chaffkeep.KernelOwn', WHERE WHAT IT READS IS OF BULK AT MOST 1048576: true; the input reads as it did. -/
def kernelOwnUptoRow : OpenClaim := { program := "ytefechceoeeonaa", sum := "58334c210fd3048b05124fcb72293ee9df9515d26338428e32c8d8b90fff9d03", func := "chaffcutter/chaffkeep.KernelOwn", spec := "kernelOwn", unfollowed := true, recurses := true, loops := true, plainKeys := false, apart := false, narrowed := true }
def KernelOwnUptoSaid : Prop := kernelOwnUptoRow.holds Try.pinned (OpenSpec.upto kernelOwnSpec)

/-- 'chaffkeep.SimpTwice', WHERE WHAT IT READS IS OF BULK AT MOST 1048576: true; the input reads as it did. -/
def simpTwiceUptoRow : OpenClaim := { program := "ytefechceoeeonaa", sum := "58334c210fd3048b05124fcb72293ee9df9515d26338428e32c8d8b90fff9d03", func := "chaffcutter/chaffkeep.SimpTwice", spec := "simpTwice", unfollowed := true, recurses := true, loops := true, plainKeys := false, apart := false, narrowed := true }
def SimpTwiceUptoSaid : Prop := simpTwiceUptoRow.holds Try.pinned (OpenSpec.upto simpTwiceSpec)

/-- 'chaffkeep.SimpOwn', WHERE WHAT IT READS IS OF BULK AT MOST 1048576: true; the input reads as it did. -/
def simpOwnUptoRow : OpenClaim := { program := "ytefechceoeeonaa", sum := "58334c210fd3048b05124fcb72293ee9df9515d26338428e32c8d8b90fff9d03", func := "chaffcutter/chaffkeep.SimpOwn", spec := "simpOwn", unfollowed := true, recurses := true, loops := true, plainKeys := false, apart := false, narrowed := true }
def SimpOwnUptoSaid : Prop := simpOwnUptoRow.holds Try.pinned (OpenSpec.upto simpOwnSpec)

/-- 'chaffkeep.MutateWell', WHERE WHAT IT READS IS OF BULK AT MOST 1048576: true; the input reads as it did. -/
def mutateWellUptoRow : OpenClaim := { program := "ytefechceoeeonaa", sum := "58334c210fd3048b05124fcb72293ee9df9515d26338428e32c8d8b90fff9d03", func := "chaffcutter/chaffkeep.MutateWell", spec := "mutateWell", unfollowed := true, recurses := true, loops := true, plainKeys := false, apart := false, narrowed := true }
def MutateWellUptoSaid : Prop := mutateWellUptoRow.holds Try.pinned (OpenSpec.upto mutateWellSpec)

/-- 'chaffkeep.MutateOwn', WHERE WHAT IT READS IS OF BULK AT MOST 1048576: true; the input reads as it did. -/
def mutateOwnUptoRow : OpenClaim := { program := "ytefechceoeeonaa", sum := "58334c210fd3048b05124fcb72293ee9df9515d26338428e32c8d8b90fff9d03", func := "chaffcutter/chaffkeep.MutateOwn", spec := "mutateOwn", unfollowed := true, recurses := true, loops := true, plainKeys := false, apart := false, narrowed := true }
def MutateOwnUptoSaid : Prop := mutateOwnUptoRow.holds Try.pinned (OpenSpec.upto mutateOwnSpec)

/-- 'chafftop.TopSimple', WHERE WHAT IT READS IS OF BULK AT MOST 1048576: true; the input reads as it did. -/
def topSimpleUptoRow : OpenClaim := { program := "ytefechceoeeonaa", sum := "58334c210fd3048b05124fcb72293ee9df9515d26338428e32c8d8b90fff9d03", func := "chaffcutter/chafftop.TopSimple", spec := "topSimple", inPlace := ["internal/bytealg.IndexByteString"], unfollowed := true, recurses := true, loops := true, plainKeys := false, apart := false, narrowed := true }
def TopSimpleUptoSaid : Prop := topSimpleUptoRow.holds Try.pinned (OpenSpec.upto topSimpleSpec)

/-- 'chaffkeep.MutateKilled', WHERE WHAT IT READS IS OF BULK AT MOST 1048576: true; the input reads as it did. -/
def mutateKilledUptoRow : OpenClaim := { program := "ytefechceoeeonaa", sum := "58334c210fd3048b05124fcb72293ee9df9515d26338428e32c8d8b90fff9d03", func := "chaffcutter/chaffkeep.MutateKilled", spec := "mutateKilled", unfollowed := true, recurses := true, loops := true, plainKeys := false, apart := false, narrowed := true }
def MutateKilledUptoSaid : Prop := mutateKilledUptoRow.holds Try.pinned (OpenSpec.upto mutateKilledSpec)

/-- 'chaffkeep.SimpSame', WHERE WHAT IT READS IS OF BULK AT MOST 1048576: true; the input reads as it did. -/
def simpSameUptoRow : OpenClaim := { program := "ytefechceoeeonaa", sum := "58334c210fd3048b05124fcb72293ee9df9515d26338428e32c8d8b90fff9d03", func := "chaffcutter/chaffkeep.SimpSame", spec := "simpSame", unfollowed := true, recurses := true, loops := true, plainKeys := false, apart := false, narrowed := true }
def SimpSameUptoSaid : Prop := simpSameUptoRow.holds Try.pinned (OpenSpec.upto simpSameSpec)

end Rows
end Go.Proofs.Ytefechceoeeonaa
