/-
  NARROWER THAN 'FOR EVERY INPUT', by the rows' own cells (each row's printed sentence says how): FirstFacts: loops · FirstTells: loops · MeanMore: loops · MeanSame: loops · PackMisses: loops · WellGuards: loops · KernelPlain: loops · KernelSame: loops · GramReaches: loops · CoverTells: loops · BookTells: loops · TreeNests: loops.
  DERIVED. THE GIVEN ROWS OF THIS SEAT. 12 by the template 'for every input the law returns true; each argument reads behind the call as it read before'; 0 by the template 'total and deterministic' (their statements: YtjmckmjngnmagaaTotals.lean).
  GIVEN WITH THE SEED: the statements are not yours to turn. If you find one false, say at which input.
  Laid BY PROGRAM, IN A SANDBOX (cutbox-rows.mjs): the forced cells as the released guide's own fill.sh prints them over the translation b31bb2d7337f329f… (all of the seat's roots in one cut). By AI agents, Wed Nov 11 2026. No macro, syntax, notation, axiom, sorry.
-/
import Derived.Test.YtjmckmjngnmagaaChecked
import GoSem.Claim
import GoSem.ClaimJoined
import GoSem.ClaimMapViews
import Derived.JoinedTies
import Derived.KernelRfl
namespace Go.Proofs.Ytjmckmjngnmagaa
/- THE CELL 'sum', in the pinned program and in every row, IS THE sha256 OF THE DUMP (.gsa) THAT YtjmckmjngnmagaaProg.lean LOADS. Nothing in Lean hashes anything: it is a label: what it is worth is what the hold of that sum in a sandbox is worth. -/
noncomputable def Try.pinned : Pinned := { name := "ytjmckmjngnmagaa", sum := "b31bb2d7337f329f544f0e3a3a397502a31a290eb96d5f3ac4c6253618c04c51", checked := Try.checked }
namespace Rows
def none {H : Type} : Left H := { results := [], args := [] }

/-- 'chaffkeep.FirstFacts': WHATEVER THE INPUT: true; the input reads as it did. -/
def firstFactsSpec : ChangeSpec := { name := "firstFacts", fn := fun _ => fun
  | [d] => { results := [.lit (.bool true)], args := [d] }
  | _ => none }
def firstFactsRow : OpenClaim := { program := "ytjmckmjngnmagaa", sum := "b31bb2d7337f329f544f0e3a3a397502a31a290eb96d5f3ac4c6253618c04c51", func := "chaffcutter/chaffkeep.FirstFacts", spec := "firstFacts", unfollowed := true, recurses := true, loops := true, plainKeys := false, apart := false }
def FirstFactsSaid : Prop := firstFactsRow.holds Try.pinned (OpenSpec.ofChange firstFactsSpec)

/-- ITS FALSE NEIGHBOUR: 'it returns false'. Refute it at one input. -/
def firstFactsWrong : ChangeSpec := { name := "firstFacts", fn := fun _ => fun
  | [d] => { results := [.lit (.bool false)], args := [d] }
  | _ => none }
def FirstFactsWrongFalsely : Prop := firstFactsRow.holds Try.pinned (OpenSpec.ofChange firstFactsWrong)

/-- 'chaffkeep.FirstTells': WHATEVER THE INPUT: true; the input reads as it did. -/
def firstTellsSpec : ChangeSpec := { name := "firstTells", fn := fun _ => fun
  | [d1, d2, d3, d4] => { results := [.lit (.bool true)], args := [d1, d2, d3, d4] }
  | _ => none }
def firstTellsRow : OpenClaim := { program := "ytjmckmjngnmagaa", sum := "b31bb2d7337f329f544f0e3a3a397502a31a290eb96d5f3ac4c6253618c04c51", func := "chaffcutter/chaffkeep.FirstTells", spec := "firstTells", unfollowed := true, recurses := true, loops := true, plainKeys := false, apart := false }
def FirstTellsSaid : Prop := firstTellsRow.holds Try.pinned (OpenSpec.ofChange firstTellsSpec)

/-- ITS FALSE NEIGHBOUR: 'it returns false'. Refute it at one input. -/
def firstTellsWrong : ChangeSpec := { name := "firstTells", fn := fun _ => fun
  | [d1, d2, d3, d4] => { results := [.lit (.bool false)], args := [d1, d2, d3, d4] }
  | _ => none }
def FirstTellsWrongFalsely : Prop := firstTellsRow.holds Try.pinned (OpenSpec.ofChange firstTellsWrong)

/-- 'chaffkeep.MeanMore': WHATEVER THE INPUT: true; the input reads as it did. -/
def meanMoreSpec : ChangeSpec := { name := "meanMore", fn := fun _ => fun
  | [d1, d2, d3] => { results := [.lit (.bool true)], args := [d1, d2, d3] }
  | _ => none }
def meanMoreRow : OpenClaim := { program := "ytjmckmjngnmagaa", sum := "b31bb2d7337f329f544f0e3a3a397502a31a290eb96d5f3ac4c6253618c04c51", func := "chaffcutter/chaffkeep.MeanMore", spec := "meanMore", unfollowed := true, recurses := true, loops := true, plainKeys := false, apart := false }
def MeanMoreSaid : Prop := meanMoreRow.holds Try.pinned (OpenSpec.ofChange meanMoreSpec)

/-- ITS FALSE NEIGHBOUR: 'it returns false'. Refute it at one input. -/
def meanMoreWrong : ChangeSpec := { name := "meanMore", fn := fun _ => fun
  | [d1, d2, d3] => { results := [.lit (.bool false)], args := [d1, d2, d3] }
  | _ => none }
def MeanMoreWrongFalsely : Prop := meanMoreRow.holds Try.pinned (OpenSpec.ofChange meanMoreWrong)

/-- 'chaffkeep.MeanSame': WHATEVER THE INPUT: true; the input reads as it did. -/
def meanSameSpec : ChangeSpec := { name := "meanSame", fn := fun _ => fun
  | [d1, d2] => { results := [.lit (.bool true)], args := [d1, d2] }
  | _ => none }
def meanSameRow : OpenClaim := { program := "ytjmckmjngnmagaa", sum := "b31bb2d7337f329f544f0e3a3a397502a31a290eb96d5f3ac4c6253618c04c51", func := "chaffcutter/chaffkeep.MeanSame", spec := "meanSame", unfollowed := true, recurses := true, loops := true, plainKeys := false, apart := false }
def MeanSameSaid : Prop := meanSameRow.holds Try.pinned (OpenSpec.ofChange meanSameSpec)

/-- ITS FALSE NEIGHBOUR: 'it returns false'. Refute it at one input. -/
def meanSameWrong : ChangeSpec := { name := "meanSame", fn := fun _ => fun
  | [d1, d2] => { results := [.lit (.bool false)], args := [d1, d2] }
  | _ => none }
def MeanSameWrongFalsely : Prop := meanSameRow.holds Try.pinned (OpenSpec.ofChange meanSameWrong)

/-- 'chaffkeep.PackMisses': WHATEVER THE INPUT: true; the input reads as it did. -/
def packMissesSpec : ChangeSpec := { name := "packMisses", fn := fun _ => fun
  | [d1, d2] => { results := [.lit (.bool true)], args := [d1, d2] }
  | _ => none }
def packMissesRow : OpenClaim := { program := "ytjmckmjngnmagaa", sum := "b31bb2d7337f329f544f0e3a3a397502a31a290eb96d5f3ac4c6253618c04c51", func := "chaffcutter/chaffkeep.PackMisses", spec := "packMisses", unfollowed := true, recurses := true, loops := true, plainKeys := false, apart := false }
def PackMissesSaid : Prop := packMissesRow.holds Try.pinned (OpenSpec.ofChange packMissesSpec)

/-- ITS FALSE NEIGHBOUR: 'it returns false'. Refute it at one input. -/
def packMissesWrong : ChangeSpec := { name := "packMisses", fn := fun _ => fun
  | [d1, d2] => { results := [.lit (.bool false)], args := [d1, d2] }
  | _ => none }
def PackMissesWrongFalsely : Prop := packMissesRow.holds Try.pinned (OpenSpec.ofChange packMissesWrong)

/-- 'chaffkeep.WellGuards': WHATEVER THE INPUT: true; the input reads as it did. -/
def wellGuardsSpec : ChangeSpec := { name := "wellGuards", fn := fun _ => fun
  | [d] => { results := [.lit (.bool true)], args := [d] }
  | _ => none }
def wellGuardsRow : OpenClaim := { program := "ytjmckmjngnmagaa", sum := "b31bb2d7337f329f544f0e3a3a397502a31a290eb96d5f3ac4c6253618c04c51", func := "chaffcutter/chaffkeep.WellGuards", spec := "wellGuards", unfollowed := true, recurses := true, loops := true, plainKeys := false, apart := false }
def WellGuardsSaid : Prop := wellGuardsRow.holds Try.pinned (OpenSpec.ofChange wellGuardsSpec)

/-- ITS FALSE NEIGHBOUR: 'it returns false'. Refute it at one input. -/
def wellGuardsWrong : ChangeSpec := { name := "wellGuards", fn := fun _ => fun
  | [d] => { results := [.lit (.bool false)], args := [d] }
  | _ => none }
def WellGuardsWrongFalsely : Prop := wellGuardsRow.holds Try.pinned (OpenSpec.ofChange wellGuardsWrong)

/-- 'chaffkeep.KernelPlain': WHATEVER THE INPUT: true; the input reads as it did. -/
def kernelPlainSpec : ChangeSpec := { name := "kernelPlain", fn := fun _ => fun
  | [d] => { results := [.lit (.bool true)], args := [d] }
  | _ => none }
def kernelPlainRow : OpenClaim := { program := "ytjmckmjngnmagaa", sum := "b31bb2d7337f329f544f0e3a3a397502a31a290eb96d5f3ac4c6253618c04c51", func := "chaffcutter/chaffkeep.KernelPlain", spec := "kernelPlain", unfollowed := true, recurses := true, loops := true, plainKeys := false, apart := false }
def KernelPlainSaid : Prop := kernelPlainRow.holds Try.pinned (OpenSpec.ofChange kernelPlainSpec)

/-- ITS FALSE NEIGHBOUR: 'it returns false'. Refute it at one input. -/
def kernelPlainWrong : ChangeSpec := { name := "kernelPlain", fn := fun _ => fun
  | [d] => { results := [.lit (.bool false)], args := [d] }
  | _ => none }
def KernelPlainWrongFalsely : Prop := kernelPlainRow.holds Try.pinned (OpenSpec.ofChange kernelPlainWrong)

/-- 'chaffkeep.KernelSame': WHATEVER THE INPUT: true; the input reads as it did. -/
def kernelSameSpec : ChangeSpec := { name := "kernelSame", fn := fun _ => fun
  | [d1, d2, d3, d4] => { results := [.lit (.bool true)], args := [d1, d2, d3, d4] }
  | _ => none }
def kernelSameRow : OpenClaim := { program := "ytjmckmjngnmagaa", sum := "b31bb2d7337f329f544f0e3a3a397502a31a290eb96d5f3ac4c6253618c04c51", func := "chaffcutter/chaffkeep.KernelSame", spec := "kernelSame", unfollowed := true, recurses := true, loops := true, plainKeys := false, apart := false }
def KernelSameSaid : Prop := kernelSameRow.holds Try.pinned (OpenSpec.ofChange kernelSameSpec)

/-- ITS FALSE NEIGHBOUR: 'it returns false'. Refute it at one input. -/
def kernelSameWrong : ChangeSpec := { name := "kernelSame", fn := fun _ => fun
  | [d1, d2, d3, d4] => { results := [.lit (.bool false)], args := [d1, d2, d3, d4] }
  | _ => none }
def KernelSameWrongFalsely : Prop := kernelSameRow.holds Try.pinned (OpenSpec.ofChange kernelSameWrong)

/-- 'chaffkeep.GramReaches': WHATEVER THE INPUT: true; the input reads as it did. -/
def gramReachesSpec : ChangeSpec := { name := "gramReaches", fn := fun _ => fun
  | [d] => { results := [.lit (.bool true)], args := [d] }
  | _ => none }
def gramReachesRow : OpenClaim := { program := "ytjmckmjngnmagaa", sum := "b31bb2d7337f329f544f0e3a3a397502a31a290eb96d5f3ac4c6253618c04c51", func := "chaffcutter/chaffkeep.GramReaches", spec := "gramReaches", unfollowed := true, recurses := true, loops := true, plainKeys := false, apart := false }
def GramReachesSaid : Prop := gramReachesRow.holds Try.pinned (OpenSpec.ofChange gramReachesSpec)

/-- ITS FALSE NEIGHBOUR: 'it returns false'. Refute it at one input. -/
def gramReachesWrong : ChangeSpec := { name := "gramReaches", fn := fun _ => fun
  | [d] => { results := [.lit (.bool false)], args := [d] }
  | _ => none }
def GramReachesWrongFalsely : Prop := gramReachesRow.holds Try.pinned (OpenSpec.ofChange gramReachesWrong)

/-- 'chaffkeep.CoverTells': WHATEVER THE INPUT: true; the input reads as it did. -/
def coverTellsSpec : ChangeSpec := { name := "coverTells", fn := fun _ => fun
  | [d1, d2] => { results := [.lit (.bool true)], args := [d1, d2] }
  | _ => none }
def coverTellsRow : OpenClaim := { program := "ytjmckmjngnmagaa", sum := "b31bb2d7337f329f544f0e3a3a397502a31a290eb96d5f3ac4c6253618c04c51", func := "chaffcutter/chaffkeep.CoverTells", spec := "coverTells", unfollowed := true, recurses := true, loops := true, plainKeys := false, apart := false }
def CoverTellsSaid : Prop := coverTellsRow.holds Try.pinned (OpenSpec.ofChange coverTellsSpec)

/-- ITS FALSE NEIGHBOUR: 'it returns false'. Refute it at one input. -/
def coverTellsWrong : ChangeSpec := { name := "coverTells", fn := fun _ => fun
  | [d1, d2] => { results := [.lit (.bool false)], args := [d1, d2] }
  | _ => none }
def CoverTellsWrongFalsely : Prop := coverTellsRow.holds Try.pinned (OpenSpec.ofChange coverTellsWrong)

/-- 'chaffkeep.BookTells': WHATEVER THE INPUT: true; the input reads as it did. -/
def bookTellsSpec : ChangeSpec := { name := "bookTells", fn := fun _ => fun
  | [d1, d2] => { results := [.lit (.bool true)], args := [d1, d2] }
  | _ => none }
def bookTellsRow : OpenClaim := { program := "ytjmckmjngnmagaa", sum := "b31bb2d7337f329f544f0e3a3a397502a31a290eb96d5f3ac4c6253618c04c51", func := "chaffcutter/chaffkeep.BookTells", spec := "bookTells", unfollowed := true, recurses := true, loops := true, plainKeys := false, apart := false }
def BookTellsSaid : Prop := bookTellsRow.holds Try.pinned (OpenSpec.ofChange bookTellsSpec)

/-- ITS FALSE NEIGHBOUR: 'it returns false'. Refute it at one input. -/
def bookTellsWrong : ChangeSpec := { name := "bookTells", fn := fun _ => fun
  | [d1, d2] => { results := [.lit (.bool false)], args := [d1, d2] }
  | _ => none }
def BookTellsWrongFalsely : Prop := bookTellsRow.holds Try.pinned (OpenSpec.ofChange bookTellsWrong)

/-- 'chaffkeep.TreeNests': WHATEVER THE INPUT: true; the input reads as it did. -/
def treeNestsSpec : ChangeSpec := { name := "treeNests", fn := fun _ => fun
  | [d1, d2] => { results := [.lit (.bool true)], args := [d1, d2] }
  | _ => none }
def treeNestsRow : OpenClaim := { program := "ytjmckmjngnmagaa", sum := "b31bb2d7337f329f544f0e3a3a397502a31a290eb96d5f3ac4c6253618c04c51", func := "chaffcutter/chaffkeep.TreeNests", spec := "treeNests", unfollowed := true, recurses := true, loops := true, plainKeys := false, apart := false }
def TreeNestsSaid : Prop := treeNestsRow.holds Try.pinned (OpenSpec.ofChange treeNestsSpec)

/-- ITS FALSE NEIGHBOUR: 'it returns false'. Refute it at one input. -/
def treeNestsWrong : ChangeSpec := { name := "treeNests", fn := fun _ => fun
  | [d1, d2] => { results := [.lit (.bool false)], args := [d1, d2] }
  | _ => none }
def TreeNestsWrongFalsely : Prop := treeNestsRow.holds Try.pinned (OpenSpec.ofChange treeNestsWrong)

/- THE SECOND FORM. 'bulk': how many values and letters a reading holds, each counted each time it is reached (what is shared counts as often as it is met; a slice's spare places count too). A statement '..UptoSaid' is the law's where the arguments, and the package variables that the reading takes, are together of bulk at most 1048576: NARROWER than '..Said'. Prove '..Said' where nothing that the law and all that it calls make is longer than what came in: it says more and counts as full. Else prove '..UptoSaid'. A law counts once. -/
mutual
def uptoBulk {H : Type} : DataW H → Nat
  | .lit (.string bytes) => bytes.length + 1
  | .lit _ => 1
  | .nil => 1
  | .ptr d => uptoBulk d + 1
  | .slice elems spare => uptoBulkAll elems + uptoBulkAll spare + 1
  | .agg parts => uptoBulkAll parts + 1
  | .iface _ d => uptoBulk d + 1
  | .map entries => uptoBulkEntries entries + 1
  | .held _ => 1
def uptoBulkAll {H : Type} : List (DataW H) → Nat
  | [] => 0
  | d :: r => uptoBulk d + uptoBulkAll r
def uptoBulkEntries {H : Type} : List (Lit × DataW H) → Nat
  | [] => 0
  | x :: r => uptoBulkEntry x + uptoBulkEntries r
def uptoBulkEntry {H : Type} : Lit × DataW H → Nat
  | (.string bytes, d) => bytes.length + uptoBulk d + 1
  | (_, d) => uptoBulk d + 1
 end
def uptoSmall : (H : Type) → List (DataW H) → Bool := fun _ ds => decide (uptoBulkAll ds ≤ 1048576)
def OpenSpec.upto (s : _root_.Go.ChangeSpec) : _root_.Go.OpenSpec := { _root_.Go.OpenSpec.ofChange s with cond := some uptoSmall }

/-- 'chaffkeep.FirstFacts', WHERE WHAT IT READS IS OF BULK AT MOST 1048576: true; the input reads as it did. -/
def firstFactsUptoRow : OpenClaim := { program := "ytjmckmjngnmagaa", sum := "b31bb2d7337f329f544f0e3a3a397502a31a290eb96d5f3ac4c6253618c04c51", func := "chaffcutter/chaffkeep.FirstFacts", spec := "firstFacts", unfollowed := true, recurses := true, loops := true, plainKeys := false, apart := false, narrowed := true }
def FirstFactsUptoSaid : Prop := firstFactsUptoRow.holds Try.pinned (OpenSpec.upto firstFactsSpec)

/-- 'chaffkeep.FirstTells', WHERE WHAT IT READS IS OF BULK AT MOST 1048576: true; the input reads as it did. -/
def firstTellsUptoRow : OpenClaim := { program := "ytjmckmjngnmagaa", sum := "b31bb2d7337f329f544f0e3a3a397502a31a290eb96d5f3ac4c6253618c04c51", func := "chaffcutter/chaffkeep.FirstTells", spec := "firstTells", unfollowed := true, recurses := true, loops := true, plainKeys := false, apart := false, narrowed := true }
def FirstTellsUptoSaid : Prop := firstTellsUptoRow.holds Try.pinned (OpenSpec.upto firstTellsSpec)

/-- 'chaffkeep.MeanMore', WHERE WHAT IT READS IS OF BULK AT MOST 1048576: true; the input reads as it did. -/
def meanMoreUptoRow : OpenClaim := { program := "ytjmckmjngnmagaa", sum := "b31bb2d7337f329f544f0e3a3a397502a31a290eb96d5f3ac4c6253618c04c51", func := "chaffcutter/chaffkeep.MeanMore", spec := "meanMore", unfollowed := true, recurses := true, loops := true, plainKeys := false, apart := false, narrowed := true }
def MeanMoreUptoSaid : Prop := meanMoreUptoRow.holds Try.pinned (OpenSpec.upto meanMoreSpec)

/-- 'chaffkeep.MeanSame', WHERE WHAT IT READS IS OF BULK AT MOST 1048576: true; the input reads as it did. -/
def meanSameUptoRow : OpenClaim := { program := "ytjmckmjngnmagaa", sum := "b31bb2d7337f329f544f0e3a3a397502a31a290eb96d5f3ac4c6253618c04c51", func := "chaffcutter/chaffkeep.MeanSame", spec := "meanSame", unfollowed := true, recurses := true, loops := true, plainKeys := false, apart := false, narrowed := true }
def MeanSameUptoSaid : Prop := meanSameUptoRow.holds Try.pinned (OpenSpec.upto meanSameSpec)

/-- 'chaffkeep.PackMisses', WHERE WHAT IT READS IS OF BULK AT MOST 1048576: true; the input reads as it did. -/
def packMissesUptoRow : OpenClaim := { program := "ytjmckmjngnmagaa", sum := "b31bb2d7337f329f544f0e3a3a397502a31a290eb96d5f3ac4c6253618c04c51", func := "chaffcutter/chaffkeep.PackMisses", spec := "packMisses", unfollowed := true, recurses := true, loops := true, plainKeys := false, apart := false, narrowed := true }
def PackMissesUptoSaid : Prop := packMissesUptoRow.holds Try.pinned (OpenSpec.upto packMissesSpec)

/-- 'chaffkeep.WellGuards', WHERE WHAT IT READS IS OF BULK AT MOST 1048576: true; the input reads as it did. -/
def wellGuardsUptoRow : OpenClaim := { program := "ytjmckmjngnmagaa", sum := "b31bb2d7337f329f544f0e3a3a397502a31a290eb96d5f3ac4c6253618c04c51", func := "chaffcutter/chaffkeep.WellGuards", spec := "wellGuards", unfollowed := true, recurses := true, loops := true, plainKeys := false, apart := false, narrowed := true }
def WellGuardsUptoSaid : Prop := wellGuardsUptoRow.holds Try.pinned (OpenSpec.upto wellGuardsSpec)

/-- 'chaffkeep.KernelPlain', WHERE WHAT IT READS IS OF BULK AT MOST 1048576: true; the input reads as it did. -/
def kernelPlainUptoRow : OpenClaim := { program := "ytjmckmjngnmagaa", sum := "b31bb2d7337f329f544f0e3a3a397502a31a290eb96d5f3ac4c6253618c04c51", func := "chaffcutter/chaffkeep.KernelPlain", spec := "kernelPlain", unfollowed := true, recurses := true, loops := true, plainKeys := false, apart := false, narrowed := true }
def KernelPlainUptoSaid : Prop := kernelPlainUptoRow.holds Try.pinned (OpenSpec.upto kernelPlainSpec)

/-- 'chaffkeep.KernelSame', WHERE WHAT IT READS IS OF BULK AT MOST 1048576: true; the input reads as it did. -/
def kernelSameUptoRow : OpenClaim := { program := "ytjmckmjngnmagaa", sum := "b31bb2d7337f329f544f0e3a3a397502a31a290eb96d5f3ac4c6253618c04c51", func := "chaffcutter/chaffkeep.KernelSame", spec := "kernelSame", unfollowed := true, recurses := true, loops := true, plainKeys := false, apart := false, narrowed := true }
def KernelSameUptoSaid : Prop := kernelSameUptoRow.holds Try.pinned (OpenSpec.upto kernelSameSpec)

/-- 'chaffkeep.GramReaches', WHERE WHAT IT READS IS OF BULK AT MOST 1048576: true; the input reads as it did. -/
def gramReachesUptoRow : OpenClaim := { program := "ytjmckmjngnmagaa", sum := "b31bb2d7337f329f544f0e3a3a397502a31a290eb96d5f3ac4c6253618c04c51", func := "chaffcutter/chaffkeep.GramReaches", spec := "gramReaches", unfollowed := true, recurses := true, loops := true, plainKeys := false, apart := false, narrowed := true }
def GramReachesUptoSaid : Prop := gramReachesUptoRow.holds Try.pinned (OpenSpec.upto gramReachesSpec)

/-- 'chaffkeep.CoverTells', WHERE WHAT IT READS IS OF BULK AT MOST 1048576: true; the input reads as it did. -/
def coverTellsUptoRow : OpenClaim := { program := "ytjmckmjngnmagaa", sum := "b31bb2d7337f329f544f0e3a3a397502a31a290eb96d5f3ac4c6253618c04c51", func := "chaffcutter/chaffkeep.CoverTells", spec := "coverTells", unfollowed := true, recurses := true, loops := true, plainKeys := false, apart := false, narrowed := true }
def CoverTellsUptoSaid : Prop := coverTellsUptoRow.holds Try.pinned (OpenSpec.upto coverTellsSpec)

/-- 'chaffkeep.BookTells', WHERE WHAT IT READS IS OF BULK AT MOST 1048576: true; the input reads as it did. -/
def bookTellsUptoRow : OpenClaim := { program := "ytjmckmjngnmagaa", sum := "b31bb2d7337f329f544f0e3a3a397502a31a290eb96d5f3ac4c6253618c04c51", func := "chaffcutter/chaffkeep.BookTells", spec := "bookTells", unfollowed := true, recurses := true, loops := true, plainKeys := false, apart := false, narrowed := true }
def BookTellsUptoSaid : Prop := bookTellsUptoRow.holds Try.pinned (OpenSpec.upto bookTellsSpec)

/-- 'chaffkeep.TreeNests', WHERE WHAT IT READS IS OF BULK AT MOST 1048576: true; the input reads as it did. -/
def treeNestsUptoRow : OpenClaim := { program := "ytjmckmjngnmagaa", sum := "b31bb2d7337f329f544f0e3a3a397502a31a290eb96d5f3ac4c6253618c04c51", func := "chaffcutter/chaffkeep.TreeNests", spec := "treeNests", unfollowed := true, recurses := true, loops := true, plainKeys := false, apart := false, narrowed := true }
def TreeNestsUptoSaid : Prop := treeNestsUptoRow.holds Try.pinned (OpenSpec.upto treeNestsSpec)

end Rows
end Go.Proofs.Ytjmckmjngnmagaa
