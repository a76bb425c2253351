/-
  NARROWER THAN 'FOR EVERY INPUT', by the rows' own cells (each row's printed sentence says how): GramReaches: loops · TreeNests: loops · TopTree: loops · CoverTells: loops · TopCover: loops · CodeMeans: loops · CodeSafe: loops.
  DERIVED. THE GIVEN ROWS OF THIS SEAT. 11 by the template 'for every input the law returns true; each argument reads behind the call as it read before'; 0 by the template 'total and deterministic' (their statements: YtphfckihdhmhpaaTotals.lean).
  GIVEN WITH THE SEED: the statements are not yours to turn. If you find one false, say at which input.
  Laid BY PROGRAM, IN A SANDBOX (cutbox-rows.mjs): the forced cells as the released guide's own fill.sh prints them over the translation 3835c36fe5c3f76c… (all of the seat's roots in one cut). By AI agents, Wed Nov 11 2026. No macro, syntax, notation, axiom, sorry.
-/
import Derived.Test.YtphfckihdhmhpaaChecked
import GoSem.Claim
import GoSem.ClaimJoined
import GoSem.ClaimMapViews
import Derived.JoinedTies
import Derived.KernelRfl
namespace Go.Proofs.Ytphfckihdhmhpaa
/- THE CELL 'sum', in the pinned program and in every row, IS THE sha256 OF THE DUMP (.gsa) THAT YtphfckihdhmhpaaProg.lean LOADS. Nothing in Lean hashes anything: it is a label: what it is worth is what the hold of that sum in a sandbox is worth. -/
noncomputable def Try.pinned : Pinned := { name := "ytphfckihdhmhpaa", sum := "3835c36fe5c3f76c807740c26c0ce5c7e6a77679c5b697038b03fc137c42ecec", checked := Try.checked }
namespace Rows
def none {H : Type} : Left H := { results := [], args := [] }

/-- 'chaffkeep.GramReaches': WHATEVER THE INPUT: true; the input reads as it did. -/
def gramReachesSpec : ChangeSpec := { name := "gramReaches", fn := fun _ => fun
  | [d] => { results := [.lit (.bool true)], args := [d] }
  | _ => none }
def gramReachesRow : OpenClaim := { program := "ytphfckihdhmhpaa", sum := "3835c36fe5c3f76c807740c26c0ce5c7e6a77679c5b697038b03fc137c42ecec", func := "chaffcutter/chaffkeep.GramReaches", spec := "gramReaches", unfollowed := true, recurses := true, loops := true, plainKeys := false, apart := false }
def GramReachesSaid : Prop := gramReachesRow.holds Try.pinned (OpenSpec.ofChange gramReachesSpec)

/-- ITS FALSE NEIGHBOUR: 'it returns false'. Refute it at one input. -/
def gramReachesWrong : ChangeSpec := { name := "gramReaches", fn := fun _ => fun
  | [d] => { results := [.lit (.bool false)], args := [d] }
  | _ => none }
def GramReachesWrongFalsely : Prop := gramReachesRow.holds Try.pinned (OpenSpec.ofChange gramReachesWrong)

/-- 'chaffkeep.TreeNests': WHATEVER THE INPUT: true; the input reads as it did. -/
def treeNestsSpec : ChangeSpec := { name := "treeNests", fn := fun _ => fun
  | [d1, d2] => { results := [.lit (.bool true)], args := [d1, d2] }
  | _ => none }
def treeNestsRow : OpenClaim := { program := "ytphfckihdhmhpaa", sum := "3835c36fe5c3f76c807740c26c0ce5c7e6a77679c5b697038b03fc137c42ecec", func := "chaffcutter/chaffkeep.TreeNests", spec := "treeNests", unfollowed := true, recurses := true, loops := true, plainKeys := false, apart := false }
def TreeNestsSaid : Prop := treeNestsRow.holds Try.pinned (OpenSpec.ofChange treeNestsSpec)

/-- ITS FALSE NEIGHBOUR: 'it returns false'. Refute it at one input. -/
def treeNestsWrong : ChangeSpec := { name := "treeNests", fn := fun _ => fun
  | [d1, d2] => { results := [.lit (.bool false)], args := [d1, d2] }
  | _ => none }
def TreeNestsWrongFalsely : Prop := treeNestsRow.holds Try.pinned (OpenSpec.ofChange treeNestsWrong)

/-- 'chafftop.TopTree': WHATEVER THE INPUT: true; the input reads as it did. -/
def topTreeSpec : ChangeSpec := { name := "topTree", fn := fun _ => fun
  | [d1, d2] => { results := [.lit (.bool true)], args := [d1, d2] }
  | _ => none }
def topTreeRow : OpenClaim := { program := "ytphfckihdhmhpaa", sum := "3835c36fe5c3f76c807740c26c0ce5c7e6a77679c5b697038b03fc137c42ecec", func := "chaffcutter/chafftop.TopTree", spec := "topTree", unfollowed := true, recurses := true, loops := true, plainKeys := false, apart := false }
def TopTreeSaid : Prop := topTreeRow.holds Try.pinned (OpenSpec.ofChange topTreeSpec)

/-- ITS FALSE NEIGHBOUR: 'it returns false'. Refute it at one input. -/
def topTreeWrong : ChangeSpec := { name := "topTree", fn := fun _ => fun
  | [d1, d2] => { results := [.lit (.bool false)], args := [d1, d2] }
  | _ => none }
def TopTreeWrongFalsely : Prop := topTreeRow.holds Try.pinned (OpenSpec.ofChange topTreeWrong)

/-- 'chaffkeep.CoverTells': WHATEVER THE INPUT: true; the input reads as it did. -/
def coverTellsSpec : ChangeSpec := { name := "coverTells", fn := fun _ => fun
  | [d1, d2] => { results := [.lit (.bool true)], args := [d1, d2] }
  | _ => none }
def coverTellsRow : OpenClaim := { program := "ytphfckihdhmhpaa", sum := "3835c36fe5c3f76c807740c26c0ce5c7e6a77679c5b697038b03fc137c42ecec", func := "chaffcutter/chaffkeep.CoverTells", spec := "coverTells", unfollowed := true, recurses := true, loops := true, plainKeys := false, apart := false }
def CoverTellsSaid : Prop := coverTellsRow.holds Try.pinned (OpenSpec.ofChange coverTellsSpec)

/-- ITS FALSE NEIGHBOUR: 'it returns false'. Refute it at one input. -/
def coverTellsWrong : ChangeSpec := { name := "coverTells", fn := fun _ => fun
  | [d1, d2] => { results := [.lit (.bool false)], args := [d1, d2] }
  | _ => none }
def CoverTellsWrongFalsely : Prop := coverTellsRow.holds Try.pinned (OpenSpec.ofChange coverTellsWrong)

/-- 'chafftop.TopCover': WHATEVER THE INPUT: true; the input reads as it did. -/
def topCoverSpec : ChangeSpec := { name := "topCover", fn := fun _ => fun
  | [d1, d2] => { results := [.lit (.bool true)], args := [d1, d2] }
  | _ => none }
def topCoverRow : OpenClaim := { program := "ytphfckihdhmhpaa", sum := "3835c36fe5c3f76c807740c26c0ce5c7e6a77679c5b697038b03fc137c42ecec", func := "chaffcutter/chafftop.TopCover", spec := "topCover", unfollowed := true, recurses := true, loops := true, plainKeys := false, apart := false }
def TopCoverSaid : Prop := topCoverRow.holds Try.pinned (OpenSpec.ofChange topCoverSpec)

/-- ITS FALSE NEIGHBOUR: 'it returns false'. Refute it at one input. -/
def topCoverWrong : ChangeSpec := { name := "topCover", fn := fun _ => fun
  | [d1, d2] => { results := [.lit (.bool false)], args := [d1, d2] }
  | _ => none }
def TopCoverWrongFalsely : Prop := topCoverRow.holds Try.pinned (OpenSpec.ofChange topCoverWrong)

/-- 'chaffkeep.GreedyAll': WHATEVER THE INPUT: true; the input reads as it did. -/
def greedyAllSpec : ChangeSpec := { name := "greedyAll", fn := fun _ => fun
  | [d] => { results := [.lit (.bool true)], args := [d] }
  | _ => none }
def greedyAllRow : OpenClaim := { program := "ytphfckihdhmhpaa", sum := "3835c36fe5c3f76c807740c26c0ce5c7e6a77679c5b697038b03fc137c42ecec", func := "chaffcutter/chaffkeep.GreedyAll", spec := "greedyAll", plainKeys := false, apart := false }
def GreedyAllSaid : Prop := greedyAllRow.holds Try.pinned (OpenSpec.ofChange greedyAllSpec)

/-- ITS FALSE NEIGHBOUR: 'it returns false'. Refute it at one input. -/
def greedyAllWrong : ChangeSpec := { name := "greedyAll", fn := fun _ => fun
  | [d] => { results := [.lit (.bool false)], args := [d] }
  | _ => none }
def GreedyAllWrongFalsely : Prop := greedyAllRow.holds Try.pinned (OpenSpec.ofChange greedyAllWrong)

/-- 'chaffkeep.GreedyBound': WHATEVER THE INPUT: true; the input reads as it did. -/
def greedyBoundSpec : ChangeSpec := { name := "greedyBound", fn := fun _ => fun
  | [d] => { results := [.lit (.bool true)], args := [d] }
  | _ => none }
def greedyBoundRow : OpenClaim := { program := "ytphfckihdhmhpaa", sum := "3835c36fe5c3f76c807740c26c0ce5c7e6a77679c5b697038b03fc137c42ecec", func := "chaffcutter/chaffkeep.GreedyBound", spec := "greedyBound", plainKeys := false, apart := false }
def GreedyBoundSaid : Prop := greedyBoundRow.holds Try.pinned (OpenSpec.ofChange greedyBoundSpec)

/-- ITS FALSE NEIGHBOUR: 'it returns false'. Refute it at one input. -/
def greedyBoundWrong : ChangeSpec := { name := "greedyBound", fn := fun _ => fun
  | [d] => { results := [.lit (.bool false)], args := [d] }
  | _ => none }
def GreedyBoundWrongFalsely : Prop := greedyBoundRow.holds Try.pinned (OpenSpec.ofChange greedyBoundWrong)

/-- 'chaffkeep.EventOwn': WHATEVER THE INPUT: true; the input reads as it did. -/
def eventOwnSpec : ChangeSpec := { name := "eventOwn", fn := fun _ => fun
  | [d] => { results := [.lit (.bool true)], args := [d] }
  | _ => none }
def eventOwnRow : OpenClaim := { program := "ytphfckihdhmhpaa", sum := "3835c36fe5c3f76c807740c26c0ce5c7e6a77679c5b697038b03fc137c42ecec", func := "chaffcutter/chaffkeep.EventOwn", spec := "eventOwn", inPlace := ["internal/abi.NoEscape", "internal/bytealg.MakeNoZero"], recurses := true, plainKeys := false, apart := false }
def EventOwnSaid : Prop := eventOwnRow.holds Try.pinned (OpenSpec.ofChange eventOwnSpec)

/-- ITS FALSE NEIGHBOUR: 'it returns false'. Refute it at one input. -/
def eventOwnWrong : ChangeSpec := { name := "eventOwn", fn := fun _ => fun
  | [d] => { results := [.lit (.bool false)], args := [d] }
  | _ => none }
def EventOwnWrongFalsely : Prop := eventOwnRow.holds Try.pinned (OpenSpec.ofChange eventOwnWrong)

/-- 'chaffkeep.CodeMore': WHATEVER THE INPUT: true; the input reads as it did. -/
def codeMoreSpec : ChangeSpec := { name := "codeMore", fn := fun _ => fun
  | [d1, d2, d3, d4] => { results := [.lit (.bool true)], args := [d1, d2, d3, d4] }
  | _ => none }
def codeMoreRow : OpenClaim := { program := "ytphfckihdhmhpaa", sum := "3835c36fe5c3f76c807740c26c0ce5c7e6a77679c5b697038b03fc137c42ecec", func := "chaffcutter/chaffkeep.CodeMore", spec := "codeMore", plainKeys := false, apart := false }
def CodeMoreSaid : Prop := codeMoreRow.holds Try.pinned (OpenSpec.ofChange codeMoreSpec)

/-- ITS FALSE NEIGHBOUR: 'it returns false'. Refute it at one input. -/
def codeMoreWrong : ChangeSpec := { name := "codeMore", fn := fun _ => fun
  | [d1, d2, d3, d4] => { results := [.lit (.bool false)], args := [d1, d2, d3, d4] }
  | _ => none }
def CodeMoreWrongFalsely : Prop := codeMoreRow.holds Try.pinned (OpenSpec.ofChange codeMoreWrong)

/-- 'chaffkeep.CodeMeans': WHATEVER THE INPUT: true; the input reads as it did. -/
def codeMeansSpec : ChangeSpec := { name := "codeMeans", fn := fun _ => fun
  | [d1, d2] => { results := [.lit (.bool true)], args := [d1, d2] }
  | _ => none }
def codeMeansRow : OpenClaim := { program := "ytphfckihdhmhpaa", sum := "3835c36fe5c3f76c807740c26c0ce5c7e6a77679c5b697038b03fc137c42ecec", func := "chaffcutter/chaffkeep.CodeMeans", spec := "codeMeans", unfollowed := true, recurses := true, loops := true, plainKeys := false, apart := false }
def CodeMeansSaid : Prop := codeMeansRow.holds Try.pinned (OpenSpec.ofChange codeMeansSpec)

/-- ITS FALSE NEIGHBOUR: 'it returns false'. Refute it at one input. -/
def codeMeansWrong : ChangeSpec := { name := "codeMeans", fn := fun _ => fun
  | [d1, d2] => { results := [.lit (.bool false)], args := [d1, d2] }
  | _ => none }
def CodeMeansWrongFalsely : Prop := codeMeansRow.holds Try.pinned (OpenSpec.ofChange codeMeansWrong)

/-- 'chaffkeep.CodeSafe': WHATEVER THE INPUT: true; the input reads as it did. -/
def codeSafeSpec : ChangeSpec := { name := "codeSafe", fn := fun _ => fun
  | [d1, d2, d3] => { results := [.lit (.bool true)], args := [d1, d2, d3] }
  | _ => none }
def codeSafeRow : OpenClaim := { program := "ytphfckihdhmhpaa", sum := "3835c36fe5c3f76c807740c26c0ce5c7e6a77679c5b697038b03fc137c42ecec", func := "chaffcutter/chaffkeep.CodeSafe", spec := "codeSafe", unfollowed := true, recurses := true, loops := true, plainKeys := false, apart := false }
def CodeSafeSaid : Prop := codeSafeRow.holds Try.pinned (OpenSpec.ofChange codeSafeSpec)

/-- ITS FALSE NEIGHBOUR: 'it returns false'. Refute it at one input. -/
def codeSafeWrong : ChangeSpec := { name := "codeSafe", fn := fun _ => fun
  | [d1, d2, d3] => { results := [.lit (.bool false)], args := [d1, d2, d3] }
  | _ => none }
def CodeSafeWrongFalsely : Prop := codeSafeRow.holds Try.pinned (OpenSpec.ofChange codeSafeWrong)

/- THE SECOND FORM. 'bulk': how many values and letters a reading holds, each counted each time it is reached (what is shared counts as often as it is met; a slice's spare places count too). A statement '..UptoSaid' is the law's where the arguments, and the package variables that the reading takes, are together of bulk at most 1048576: NARROWER than '..Said'. Prove '..Said' where nothing that the law and all that it calls make is longer than what came in: it says more and counts as full. Else prove '..UptoSaid'. A law counts once. -/
mutual
def uptoBulk {H : Type} : DataW H → Nat
  | .lit (.string bytes) => bytes.length + 1
  | .lit _ => 1
  | .nil => 1
  | .ptr d => uptoBulk d + 1
  | .slice elems spare => uptoBulkAll elems + uptoBulkAll spare + 1
  | .agg parts => uptoBulkAll parts + 1
  | .iface _ d => uptoBulk d + 1
  | .map entries => uptoBulkEntries entries + 1
  | .held _ => 1
def uptoBulkAll {H : Type} : List (DataW H) → Nat
  | [] => 0
  | d :: r => uptoBulk d + uptoBulkAll r
def uptoBulkEntries {H : Type} : List (Lit × DataW H) → Nat
  | [] => 0
  | x :: r => uptoBulkEntry x + uptoBulkEntries r
def uptoBulkEntry {H : Type} : Lit × DataW H → Nat
  | (.string bytes, d) => bytes.length + uptoBulk d + 1
  | (_, d) => uptoBulk d + 1
 end
def uptoSmall : (H : Type) → List (DataW H) → Bool := fun _ ds => decide (uptoBulkAll ds ≤ 1048576)
def OpenSpec.upto (s : _root_.Go.ChangeSpec) : _root_.Go.OpenSpec := { _root_.Go.OpenSpec.ofChange s with cond := some uptoSmall }

/-- 'chaffkeep.GramReaches', WHERE WHAT IT READS IS OF BULK AT MOST 1048576: true; the input reads as it did. -/
def gramReachesUptoRow : OpenClaim := { program := "ytphfckihdhmhpaa", sum := "3835c36fe5c3f76c807740c26c0ce5c7e6a77679c5b697038b03fc137c42ecec", func := "chaffcutter/chaffkeep.GramReaches", spec := "gramReaches", unfollowed := true, recurses := true, loops := true, plainKeys := false, apart := false, narrowed := true }
def GramReachesUptoSaid : Prop := gramReachesUptoRow.holds Try.pinned (OpenSpec.upto gramReachesSpec)

/-- 'chaffkeep.TreeNests', WHERE WHAT IT READS IS OF BULK AT MOST 1048576: true; the input reads as it did. -/
def treeNestsUptoRow : OpenClaim := { program := "ytphfckihdhmhpaa", sum := "3835c36fe5c3f76c807740c26c0ce5c7e6a77679c5b697038b03fc137c42ecec", func := "chaffcutter/chaffkeep.TreeNests", spec := "treeNests", unfollowed := true, recurses := true, loops := true, plainKeys := false, apart := false, narrowed := true }
def TreeNestsUptoSaid : Prop := treeNestsUptoRow.holds Try.pinned (OpenSpec.upto treeNestsSpec)

/-- 'chafftop.TopTree', WHERE WHAT IT READS IS OF BULK AT MOST 1048576: true; the input reads as it did. -/
def topTreeUptoRow : OpenClaim := { program := "ytphfckihdhmhpaa", sum := "3835c36fe5c3f76c807740c26c0ce5c7e6a77679c5b697038b03fc137c42ecec", func := "chaffcutter/chafftop.TopTree", spec := "topTree", unfollowed := true, recurses := true, loops := true, plainKeys := false, apart := false, narrowed := true }
def TopTreeUptoSaid : Prop := topTreeUptoRow.holds Try.pinned (OpenSpec.upto topTreeSpec)

/-- 'chaffkeep.CoverTells', WHERE WHAT IT READS IS OF BULK AT MOST 1048576: true; the input reads as it did. -/
def coverTellsUptoRow : OpenClaim := { program := "ytphfckihdhmhpaa", sum := "3835c36fe5c3f76c807740c26c0ce5c7e6a77679c5b697038b03fc137c42ecec", func := "chaffcutter/chaffkeep.CoverTells", spec := "coverTells", unfollowed := true, recurses := true, loops := true, plainKeys := false, apart := false, narrowed := true }
def CoverTellsUptoSaid : Prop := coverTellsUptoRow.holds Try.pinned (OpenSpec.upto coverTellsSpec)

/-- 'chafftop.TopCover', WHERE WHAT IT READS IS OF BULK AT MOST 1048576: true; the input reads as it did. -/
def topCoverUptoRow : OpenClaim := { program := "ytphfckihdhmhpaa", sum := "3835c36fe5c3f76c807740c26c0ce5c7e6a77679c5b697038b03fc137c42ecec", func := "chaffcutter/chafftop.TopCover", spec := "topCover", unfollowed := true, recurses := true, loops := true, plainKeys := false, apart := false, narrowed := true }
def TopCoverUptoSaid : Prop := topCoverUptoRow.holds Try.pinned (OpenSpec.upto topCoverSpec)

/-- 'chaffkeep.GreedyAll', WHERE WHAT IT READS IS OF BULK AT MOST 1048576: true; the input reads as it did. -/
def greedyAllUptoRow : OpenClaim := { program := "ytphfckihdhmhpaa", sum := "3835c36fe5c3f76c807740c26c0ce5c7e6a77679c5b697038b03fc137c42ecec", func := "chaffcutter/chaffkeep.GreedyAll", spec := "greedyAll", plainKeys := false, apart := false, narrowed := true }
def GreedyAllUptoSaid : Prop := greedyAllUptoRow.holds Try.pinned (OpenSpec.upto greedyAllSpec)

/-- 'chaffkeep.GreedyBound', WHERE WHAT IT READS IS OF BULK AT MOST 1048576: true; the input reads as it did. -/
def greedyBoundUptoRow : OpenClaim := { program := "ytphfckihdhmhpaa", sum := "3835c36fe5c3f76c807740c26c0ce5c7e6a77679c5b697038b03fc137c42ecec", func := "chaffcutter/chaffkeep.GreedyBound", spec := "greedyBound", plainKeys := false, apart := false, narrowed := true }
def GreedyBoundUptoSaid : Prop := greedyBoundUptoRow.holds Try.pinned (OpenSpec.upto greedyBoundSpec)

/-- 'chaffkeep.EventOwn', WHERE WHAT IT READS IS OF BULK AT MOST 1048576: true; the input reads as it did. -/
def eventOwnUptoRow : OpenClaim := { program := "ytphfckihdhmhpaa", sum := "3835c36fe5c3f76c807740c26c0ce5c7e6a77679c5b697038b03fc137c42ecec", func := "chaffcutter/chaffkeep.EventOwn", spec := "eventOwn", inPlace := ["internal/abi.NoEscape", "internal/bytealg.MakeNoZero"], recurses := true, plainKeys := false, apart := false, narrowed := true }
def EventOwnUptoSaid : Prop := eventOwnUptoRow.holds Try.pinned (OpenSpec.upto eventOwnSpec)

/-- 'chaffkeep.CodeMore', WHERE WHAT IT READS IS OF BULK AT MOST 1048576: true; the input reads as it did. -/
def codeMoreUptoRow : OpenClaim := { program := "ytphfckihdhmhpaa", sum := "3835c36fe5c3f76c807740c26c0ce5c7e6a77679c5b697038b03fc137c42ecec", func := "chaffcutter/chaffkeep.CodeMore", spec := "codeMore", plainKeys := false, apart := false, narrowed := true }
def CodeMoreUptoSaid : Prop := codeMoreUptoRow.holds Try.pinned (OpenSpec.upto codeMoreSpec)

/-- 'chaffkeep.CodeMeans', WHERE WHAT IT READS IS OF BULK AT MOST 1048576: true; the input reads as it did. -/
def codeMeansUptoRow : OpenClaim := { program := "ytphfckihdhmhpaa", sum := "3835c36fe5c3f76c807740c26c0ce5c7e6a77679c5b697038b03fc137c42ecec", func := "chaffcutter/chaffkeep.CodeMeans", spec := "codeMeans", unfollowed := true, recurses := true, loops := true, plainKeys := false, apart := false, narrowed := true }
def CodeMeansUptoSaid : Prop := codeMeansUptoRow.holds Try.pinned (OpenSpec.upto codeMeansSpec)

/-- 'chaffkeep.CodeSafe', WHERE WHAT IT READS IS OF BULK AT MOST 1048576: true; the input reads as it did. -/
def codeSafeUptoRow : OpenClaim := { program := "ytphfckihdhmhpaa", sum := "3835c36fe5c3f76c807740c26c0ce5c7e6a77679c5b697038b03fc137c42ecec", func := "chaffcutter/chaffkeep.CodeSafe", spec := "codeSafe", unfollowed := true, recurses := true, loops := true, plainKeys := false, apart := false, narrowed := true }
def CodeSafeUptoSaid : Prop := codeSafeUptoRow.holds Try.pinned (OpenSpec.upto codeSafeSpec)

end Rows
end Go.Proofs.Ytphfckihdhmhpaa
