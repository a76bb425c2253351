/-
  NARROWER THAN 'FOR EVERY INPUT', by the rows' own cells (each row's printed sentence says how): TreeNests: loops · TopTree: loops · CodeMeans: loops · CodeSafe: loops · TopRoads: loops · DiffSelf: loops · WellNames: loops · ListMore: loops.
  DERIVED. THE GIVEN ROWS OF THIS SEAT. 8 by the template 'for every input the law returns true; each argument reads behind the call as it read before'; 0 by the template 'total and deterministic' (their statements: YtkmcnekjimobhaaTotals.lean).
  GIVEN WITH THE SEED: the statements are not yours to turn. If you find one false, say at which input.
  Laid BY PROGRAM, IN A SANDBOX (cutbox-rows.mjs): the forced cells as the released guide's own fill.sh prints them over the translation e5ed15a28b8acb0d… (all of the seat's roots in one cut). By AI agents, Wed Nov 11 2026. No macro, syntax, notation, axiom, sorry.
-/
import Derived.Test.YtkmcnekjimobhaaChecked
import GoSem.Claim
import GoSem.ClaimJoined
import GoSem.ClaimMapViews
import Derived.JoinedTies
import Derived.KernelRfl
namespace Go.Proofs.Ytkmcnekjimobhaa
/- THE CELL 'sum', in the pinned program and in every row, IS THE sha256 OF THE DUMP (.gsa) THAT YtkmcnekjimobhaaProg.lean LOADS. Nothing in Lean hashes anything: it is a label: what it is worth is what the hold of that sum in a sandbox is worth. -/
noncomputable def Try.pinned : Pinned := { name := "ytkmcnekjimobhaa", sum := "e5ed15a28b8acb0d513ada39c08e9e1a8bfafa2657ec01c3078081085cf8a1e7", checked := Try.checked }
namespace Rows
def none {H : Type} : Left H := { results := [], args := [] }

/-- 'chaffkeep.TreeNests': WHATEVER THE INPUT: true; the input reads as it did. -/
def treeNestsSpec : ChangeSpec := { name := "treeNests", fn := fun _ => fun
  | [d1, d2] => { results := [.lit (.bool true)], args := [d1, d2] }
  | _ => none }
def treeNestsRow : OpenClaim := { program := "ytkmcnekjimobhaa", sum := "e5ed15a28b8acb0d513ada39c08e9e1a8bfafa2657ec01c3078081085cf8a1e7", func := "chaffcutter/chaffkeep.TreeNests", spec := "treeNests", unfollowed := true, recurses := true, loops := true, plainKeys := false, apart := false }
def TreeNestsSaid : Prop := treeNestsRow.holds Try.pinned (OpenSpec.ofChange treeNestsSpec)

/-- ITS FALSE NEIGHBOUR: 'it returns false'. Refute it at one input. -/
def treeNestsWrong : ChangeSpec := { name := "treeNests", fn := fun _ => fun
  | [d1, d2] => { results := [.lit (.bool false)], args := [d1, d2] }
  | _ => none }
def TreeNestsWrongFalsely : Prop := treeNestsRow.holds Try.pinned (OpenSpec.ofChange treeNestsWrong)

/-- 'chafftop.TopTree': WHATEVER THE INPUT: true; the input reads as it did. -/
def topTreeSpec : ChangeSpec := { name := "topTree", fn := fun _ => fun
  | [d1, d2] => { results := [.lit (.bool true)], args := [d1, d2] }
  | _ => none }
def topTreeRow : OpenClaim := { program := "ytkmcnekjimobhaa", sum := "e5ed15a28b8acb0d513ada39c08e9e1a8bfafa2657ec01c3078081085cf8a1e7", func := "chaffcutter/chafftop.TopTree", spec := "topTree", unfollowed := true, recurses := true, loops := true, plainKeys := false, apart := false }
def TopTreeSaid : Prop := topTreeRow.holds Try.pinned (OpenSpec.ofChange topTreeSpec)

/-- ITS FALSE NEIGHBOUR: 'it returns false'. Refute it at one input. -/
def topTreeWrong : ChangeSpec := { name := "topTree", fn := fun _ => fun
  | [d1, d2] => { results := [.lit (.bool false)], args := [d1, d2] }
  | _ => none }
def TopTreeWrongFalsely : Prop := topTreeRow.holds Try.pinned (OpenSpec.ofChange topTreeWrong)

/-- 'chaffkeep.CodeMeans': WHATEVER THE INPUT: true; the input reads as it did. -/
def codeMeansSpec : ChangeSpec := { name := "codeMeans", fn := fun _ => fun
  | [d1, d2] => { results := [.lit (.bool true)], args := [d1, d2] }
  | _ => none }
def codeMeansRow : OpenClaim := { program := "ytkmcnekjimobhaa", sum := "e5ed15a28b8acb0d513ada39c08e9e1a8bfafa2657ec01c3078081085cf8a1e7", func := "chaffcutter/chaffkeep.CodeMeans", spec := "codeMeans", unfollowed := true, recurses := true, loops := true, plainKeys := false, apart := false }
def CodeMeansSaid : Prop := codeMeansRow.holds Try.pinned (OpenSpec.ofChange codeMeansSpec)

/-- ITS FALSE NEIGHBOUR: 'it returns false'. Refute it at one input. -/
def codeMeansWrong : ChangeSpec := { name := "codeMeans", fn := fun _ => fun
  | [d1, d2] => { results := [.lit (.bool false)], args := [d1, d2] }
  | _ => none }
def CodeMeansWrongFalsely : Prop := codeMeansRow.holds Try.pinned (OpenSpec.ofChange codeMeansWrong)

/-- 'chaffkeep.CodeSafe': WHATEVER THE INPUT: true; the input reads as it did. -/
def codeSafeSpec : ChangeSpec := { name := "codeSafe", fn := fun _ => fun
  | [d1, d2, d3] => { results := [.lit (.bool true)], args := [d1, d2, d3] }
  | _ => none }
def codeSafeRow : OpenClaim := { program := "ytkmcnekjimobhaa", sum := "e5ed15a28b8acb0d513ada39c08e9e1a8bfafa2657ec01c3078081085cf8a1e7", func := "chaffcutter/chaffkeep.CodeSafe", spec := "codeSafe", unfollowed := true, recurses := true, loops := true, plainKeys := false, apart := false }
def CodeSafeSaid : Prop := codeSafeRow.holds Try.pinned (OpenSpec.ofChange codeSafeSpec)

/-- ITS FALSE NEIGHBOUR: 'it returns false'. Refute it at one input. -/
def codeSafeWrong : ChangeSpec := { name := "codeSafe", fn := fun _ => fun
  | [d1, d2, d3] => { results := [.lit (.bool false)], args := [d1, d2, d3] }
  | _ => none }
def CodeSafeWrongFalsely : Prop := codeSafeRow.holds Try.pinned (OpenSpec.ofChange codeSafeWrong)

/-- 'chafftop.TopRoads': WHATEVER THE INPUT: true; the input reads as it did. -/
def topRoadsSpec : ChangeSpec := { name := "topRoads", fn := fun _ => fun
  | [d1, d2] => { results := [.lit (.bool true)], args := [d1, d2] }
  | _ => none }
def topRoadsRow : OpenClaim := { program := "ytkmcnekjimobhaa", sum := "e5ed15a28b8acb0d513ada39c08e9e1a8bfafa2657ec01c3078081085cf8a1e7", func := "chaffcutter/chafftop.TopRoads", spec := "topRoads", unfollowed := true, recurses := true, loops := true, plainKeys := false, apart := false }
def TopRoadsSaid : Prop := topRoadsRow.holds Try.pinned (OpenSpec.ofChange topRoadsSpec)

/-- ITS FALSE NEIGHBOUR: 'it returns false'. Refute it at one input. -/
def topRoadsWrong : ChangeSpec := { name := "topRoads", fn := fun _ => fun
  | [d1, d2] => { results := [.lit (.bool false)], args := [d1, d2] }
  | _ => none }
def TopRoadsWrongFalsely : Prop := topRoadsRow.holds Try.pinned (OpenSpec.ofChange topRoadsWrong)

/-- 'chaffkeep.DiffSelf': WHATEVER THE INPUT: true; the input reads as it did. -/
def diffSelfSpec : ChangeSpec := { name := "diffSelf", fn := fun _ => fun
  | [d1, d2, d3] => { results := [.lit (.bool true)], args := [d1, d2, d3] }
  | _ => none }
def diffSelfRow : OpenClaim := { program := "ytkmcnekjimobhaa", sum := "e5ed15a28b8acb0d513ada39c08e9e1a8bfafa2657ec01c3078081085cf8a1e7", func := "chaffcutter/chaffkeep.DiffSelf", spec := "diffSelf", inPlace := ["internal/bytealg.IndexByteString", "internal/abi.NoEscape", "internal/bytealg.MakeNoZero"], unfollowed := true, recurses := true, loops := true, plainKeys := false, apart := false }
def DiffSelfSaid : Prop := diffSelfRow.holds Try.pinned (OpenSpec.ofChange diffSelfSpec)

/-- ITS FALSE NEIGHBOUR: 'it returns false'. Refute it at one input. -/
def diffSelfWrong : ChangeSpec := { name := "diffSelf", fn := fun _ => fun
  | [d1, d2, d3] => { results := [.lit (.bool false)], args := [d1, d2, d3] }
  | _ => none }
def DiffSelfWrongFalsely : Prop := diffSelfRow.holds Try.pinned (OpenSpec.ofChange diffSelfWrong)

/-- 'chaffkeep.WellNames': WHATEVER THE INPUT: true; the input reads as it did. -/
def wellNamesSpec : ChangeSpec := { name := "wellNames", fn := fun _ => fun
  | [d1, d2, d3, d4] => { results := [.lit (.bool true)], args := [d1, d2, d3, d4] }
  | _ => none }
def wellNamesRow : OpenClaim := { program := "ytkmcnekjimobhaa", sum := "e5ed15a28b8acb0d513ada39c08e9e1a8bfafa2657ec01c3078081085cf8a1e7", func := "chaffcutter/chaffkeep.WellNames", spec := "wellNames", inPlace := ["internal/abi.NoEscape", "internal/bytealg.MakeNoZero"], unfollowed := true, recurses := true, loops := true, plainKeys := false, apart := false }
def WellNamesSaid : Prop := wellNamesRow.holds Try.pinned (OpenSpec.ofChange wellNamesSpec)

/-- ITS FALSE NEIGHBOUR: 'it returns false'. Refute it at one input. -/
def wellNamesWrong : ChangeSpec := { name := "wellNames", fn := fun _ => fun
  | [d1, d2, d3, d4] => { results := [.lit (.bool false)], args := [d1, d2, d3, d4] }
  | _ => none }
def WellNamesWrongFalsely : Prop := wellNamesRow.holds Try.pinned (OpenSpec.ofChange wellNamesWrong)

/-- 'chaffkeep.ListMore': WHATEVER THE INPUT: true; the input reads as it did. -/
def listMoreSpec : ChangeSpec := { name := "listMore", fn := fun _ => fun
  | [d1, d2, d3] => { results := [.lit (.bool true)], args := [d1, d2, d3] }
  | _ => none }
def listMoreRow : OpenClaim := { program := "ytkmcnekjimobhaa", sum := "e5ed15a28b8acb0d513ada39c08e9e1a8bfafa2657ec01c3078081085cf8a1e7", func := "chaffcutter/chaffkeep.ListMore", spec := "listMore", inPlace := ["internal/bytealg.IndexByteString"], unfollowed := true, recurses := true, loops := true, plainKeys := false, apart := false }
def ListMoreSaid : Prop := listMoreRow.holds Try.pinned (OpenSpec.ofChange listMoreSpec)

/-- ITS FALSE NEIGHBOUR: 'it returns false'. Refute it at one input. -/
def listMoreWrong : ChangeSpec := { name := "listMore", fn := fun _ => fun
  | [d1, d2, d3] => { results := [.lit (.bool false)], args := [d1, d2, d3] }
  | _ => none }
def ListMoreWrongFalsely : Prop := listMoreRow.holds Try.pinned (OpenSpec.ofChange listMoreWrong)

/- THE SECOND FORM. 'bulk': how many values and letters a reading holds, each counted each time it is reached (what is shared counts as often as it is met; a slice's spare places count too). A statement '..UptoSaid' is the law's where the arguments, and the package variables that the reading takes, are together of bulk at most 1048576: NARROWER than '..Said'. Prove '..Said' where nothing that the law and all that it calls make is longer than what came in: it says more and counts as full. Else prove '..UptoSaid'. A law counts once. -/
mutual
def uptoBulk {H : Type} : DataW H → Nat
  | .lit (.string bytes) => bytes.length + 1
  | .lit _ => 1
  | .nil => 1
  | .ptr d => uptoBulk d + 1
  | .slice elems spare => uptoBulkAll elems + uptoBulkAll spare + 1
  | .agg parts => uptoBulkAll parts + 1
  | .iface _ d => uptoBulk d + 1
  | .map entries => uptoBulkEntries entries + 1
  | .held _ => 1
def uptoBulkAll {H : Type} : List (DataW H) → Nat
  | [] => 0
  | d :: r => uptoBulk d + uptoBulkAll r
def uptoBulkEntries {H : Type} : List (Lit × DataW H) → Nat
  | [] => 0
  | x :: r => uptoBulkEntry x + uptoBulkEntries r
def uptoBulkEntry {H : Type} : Lit × DataW H → Nat
  | (.string bytes, d) => bytes.length + uptoBulk d + 1
  | (_, d) => uptoBulk d + 1
 end
def uptoSmall : (H : Type) → List (DataW H) → Bool := fun _ ds => decide (uptoBulkAll ds ≤ 1048576)
def OpenSpec.upto (s : _root_.Go.ChangeSpec) : _root_.Go.OpenSpec := { _root_.Go.OpenSpec.ofChange s with cond := some uptoSmall }

/-- 'chaffkeep.TreeNests', WHERE WHAT IT READS IS OF BULK AT MOST 1048576: true; the input reads as it did. -/
def treeNestsUptoRow : OpenClaim := { program := "ytkmcnekjimobhaa", sum := "e5ed15a28b8acb0d513ada39c08e9e1a8bfafa2657ec01c3078081085cf8a1e7", func := "chaffcutter/chaffkeep.TreeNests", spec := "treeNests", unfollowed := true, recurses := true, loops := true, plainKeys := false, apart := false, narrowed := true }
def TreeNestsUptoSaid : Prop := treeNestsUptoRow.holds Try.pinned (OpenSpec.upto treeNestsSpec)

/-- 'chafftop.TopTree', WHERE WHAT IT READS IS OF BULK AT MOST 1048576: true; the input reads as it did. -/
def topTreeUptoRow : OpenClaim := { program := "ytkmcnekjimobhaa", sum := "e5ed15a28b8acb0d513ada39c08e9e1a8bfafa2657ec01c3078081085cf8a1e7", func := "chaffcutter/chafftop.TopTree", spec := "topTree", unfollowed := true, recurses := true, loops := true, plainKeys := false, apart := false, narrowed := true }
def TopTreeUptoSaid : Prop := topTreeUptoRow.holds Try.pinned (OpenSpec.upto topTreeSpec)

/-- 'chaffkeep.CodeMeans', WHERE WHAT IT READS IS OF BULK AT MOST 1048576: true; the input reads as it did. -/
def codeMeansUptoRow : OpenClaim := { program := "ytkmcnekjimobhaa", sum := "e5ed15a28b8acb0d513ada39c08e9e1a8bfafa2657ec01c3078081085cf8a1e7", func := "chaffcutter/chaffkeep.CodeMeans", spec := "codeMeans", unfollowed := true, recurses := true, loops := true, plainKeys := false, apart := false, narrowed := true }
def CodeMeansUptoSaid : Prop := codeMeansUptoRow.holds Try.pinned (OpenSpec.upto codeMeansSpec)

/-- 'chaffkeep.CodeSafe', WHERE WHAT IT READS IS OF BULK AT MOST 1048576: true; the input reads as it did. -/
def codeSafeUptoRow : OpenClaim := { program := "ytkmcnekjimobhaa", sum := "e5ed15a28b8acb0d513ada39c08e9e1a8bfafa2657ec01c3078081085cf8a1e7", func := "chaffcutter/chaffkeep.CodeSafe", spec := "codeSafe", unfollowed := true, recurses := true, loops := true, plainKeys := false, apart := false, narrowed := true }
def CodeSafeUptoSaid : Prop := codeSafeUptoRow.holds Try.pinned (OpenSpec.upto codeSafeSpec)

/-- 'chafftop.TopRoads', WHERE WHAT IT READS IS OF BULK AT MOST 1048576: true; the input reads as it did. -/
def topRoadsUptoRow : OpenClaim := { program := "ytkmcnekjimobhaa", sum := "e5ed15a28b8acb0d513ada39c08e9e1a8bfafa2657ec01c3078081085cf8a1e7", func := "chaffcutter/chafftop.TopRoads", spec := "topRoads", unfollowed := true, recurses := true, loops := true, plainKeys := false, apart := false, narrowed := true }
def TopRoadsUptoSaid : Prop := topRoadsUptoRow.holds Try.pinned (OpenSpec.upto topRoadsSpec)

/-- 'chaffkeep.DiffSelf', WHERE WHAT IT READS IS OF BULK AT MOST 1048576: true; the input reads as it did. -/
def diffSelfUptoRow : OpenClaim := { program := "ytkmcnekjimobhaa", sum := "e5ed15a28b8acb0d513ada39c08e9e1a8bfafa2657ec01c3078081085cf8a1e7", func := "chaffcutter/chaffkeep.DiffSelf", spec := "diffSelf", inPlace := ["internal/bytealg.IndexByteString", "internal/abi.NoEscape", "internal/bytealg.MakeNoZero"], unfollowed := true, recurses := true, loops := true, plainKeys := false, apart := false, narrowed := true }
def DiffSelfUptoSaid : Prop := diffSelfUptoRow.holds Try.pinned (OpenSpec.upto diffSelfSpec)

/-- 'chaffkeep.WellNames', WHERE WHAT IT READS IS OF BULK AT MOST 1048576: true; the input reads as it did. -/
def wellNamesUptoRow : OpenClaim := { program := "ytkmcnekjimobhaa", sum := "e5ed15a28b8acb0d513ada39c08e9e1a8bfafa2657ec01c3078081085cf8a1e7", func := "chaffcutter/chaffkeep.WellNames", spec := "wellNames", inPlace := ["internal/abi.NoEscape", "internal/bytealg.MakeNoZero"], unfollowed := true, recurses := true, loops := true, plainKeys := false, apart := false, narrowed := true }
def WellNamesUptoSaid : Prop := wellNamesUptoRow.holds Try.pinned (OpenSpec.upto wellNamesSpec)

/-- 'chaffkeep.ListMore', WHERE WHAT IT READS IS OF BULK AT MOST 1048576: true; the input reads as it did. -/
def listMoreUptoRow : OpenClaim := { program := "ytkmcnekjimobhaa", sum := "e5ed15a28b8acb0d513ada39c08e9e1a8bfafa2657ec01c3078081085cf8a1e7", func := "chaffcutter/chaffkeep.ListMore", spec := "listMore", inPlace := ["internal/bytealg.IndexByteString"], unfollowed := true, recurses := true, loops := true, plainKeys := false, apart := false, narrowed := true }
def ListMoreUptoSaid : Prop := listMoreUptoRow.holds Try.pinned (OpenSpec.upto listMoreSpec)

end Rows
end Go.Proofs.Ytkmcnekjimobhaa
