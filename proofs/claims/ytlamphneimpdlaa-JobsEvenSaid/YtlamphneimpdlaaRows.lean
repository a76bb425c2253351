/-
  NARROWER THAN 'FOR EVERY INPUT', by the rows' own cells (each row's printed sentence says how): ListAll: loops · ListParts: loops · ListMore: loops · DiffLeast: loops · DiffSelf: loops · JobsEven: loops · JobsApart: loops · ShrinkLess: loops · MutateKilled: loops · PackMisses: loops · KernelPlain: loops · KernelSame: loops.
  DERIVED. THE GIVEN ROWS OF THIS SEAT. 12 by the template 'for every input the law returns true; each argument reads behind the call as it read before'; 0 by the template 'total and deterministic' (their statements: YtlamphneimpdlaaTotals.lean).
  GIVEN WITH THE SEED: the statements are not yours to turn. If you find one false, say at which input.
  Laid BY PROGRAM, IN A SANDBOX (cutbox-rows.mjs): the forced cells as the released guide's own fill.sh prints them over the translation eed670ebc57aa66a… (all of the seat's roots in one cut). By AI agents, Wed Nov 11 2026. No macro, syntax, notation, axiom, sorry.
-/
import Derived.Test.YtlamphneimpdlaaChecked
import GoSem.Claim
import GoSem.ClaimJoined
import GoSem.ClaimMapViews
import Derived.JoinedTies
import Derived.KernelRfl
namespace Go.Proofs.Ytlamphneimpdlaa
/- THE CELL 'sum', in the pinned program and in every row, IS THE sha256 OF THE DUMP (.gsa) THAT YtlamphneimpdlaaProg.lean LOADS. Nothing in Lean hashes anything: it is a label: what it is worth is what the hold of that sum in a sandbox is worth. -/
noncomputable def Try.pinned : Pinned := { name := "ytlamphneimpdlaa", sum := "eed670ebc57aa66adb8bb9d31a6cc114782c67a70169a24b24258f50b43a7d3b", checked := Try.checked }
namespace Rows
def none {H : Type} : Left H := { results := [], args := [] }

/-- 'chaffkeep.ListAll': WHATEVER THE INPUT: true; the input reads as it did. -/
def listAllSpec : ChangeSpec := { name := "listAll", fn := fun _ => fun
  | [d1, d2, d3, d4] => { results := [.lit (.bool true)], args := [d1, d2, d3, d4] }
  | _ => none }
def listAllRow : OpenClaim := { program := "ytlamphneimpdlaa", sum := "eed670ebc57aa66adb8bb9d31a6cc114782c67a70169a24b24258f50b43a7d3b", func := "chaffcutter/chaffkeep.ListAll", spec := "listAll", inPlace := ["internal/bytealg.IndexByteString"], unfollowed := true, recurses := true, loops := true, plainKeys := false, apart := false }
def ListAllSaid : Prop := listAllRow.holds Try.pinned (OpenSpec.ofChange listAllSpec)

/-- ITS FALSE NEIGHBOUR: 'it returns false'. Refute it at one input. -/
def listAllWrong : ChangeSpec := { name := "listAll", fn := fun _ => fun
  | [d1, d2, d3, d4] => { results := [.lit (.bool false)], args := [d1, d2, d3, d4] }
  | _ => none }
def ListAllWrongFalsely : Prop := listAllRow.holds Try.pinned (OpenSpec.ofChange listAllWrong)

/-- 'chaffkeep.ListParts': WHATEVER THE INPUT: true; the input reads as it did. -/
def listPartsSpec : ChangeSpec := { name := "listParts", fn := fun _ => fun
  | [d1, d2, d3, d4] => { results := [.lit (.bool true)], args := [d1, d2, d3, d4] }
  | _ => none }
def listPartsRow : OpenClaim := { program := "ytlamphneimpdlaa", sum := "eed670ebc57aa66adb8bb9d31a6cc114782c67a70169a24b24258f50b43a7d3b", func := "chaffcutter/chaffkeep.ListParts", spec := "listParts", inPlace := ["internal/bytealg.IndexByteString"], unfollowed := true, recurses := true, loops := true, plainKeys := false, apart := false }
def ListPartsSaid : Prop := listPartsRow.holds Try.pinned (OpenSpec.ofChange listPartsSpec)

/-- ITS FALSE NEIGHBOUR: 'it returns false'. Refute it at one input. -/
def listPartsWrong : ChangeSpec := { name := "listParts", fn := fun _ => fun
  | [d1, d2, d3, d4] => { results := [.lit (.bool false)], args := [d1, d2, d3, d4] }
  | _ => none }
def ListPartsWrongFalsely : Prop := listPartsRow.holds Try.pinned (OpenSpec.ofChange listPartsWrong)

/-- 'chaffkeep.ListMore': WHATEVER THE INPUT: true; the input reads as it did. -/
def listMoreSpec : ChangeSpec := { name := "listMore", fn := fun _ => fun
  | [d1, d2, d3] => { results := [.lit (.bool true)], args := [d1, d2, d3] }
  | _ => none }
def listMoreRow : OpenClaim := { program := "ytlamphneimpdlaa", sum := "eed670ebc57aa66adb8bb9d31a6cc114782c67a70169a24b24258f50b43a7d3b", func := "chaffcutter/chaffkeep.ListMore", spec := "listMore", inPlace := ["internal/bytealg.IndexByteString"], unfollowed := true, recurses := true, loops := true, plainKeys := false, apart := false }
def ListMoreSaid : Prop := listMoreRow.holds Try.pinned (OpenSpec.ofChange listMoreSpec)

/-- ITS FALSE NEIGHBOUR: 'it returns false'. Refute it at one input. -/
def listMoreWrong : ChangeSpec := { name := "listMore", fn := fun _ => fun
  | [d1, d2, d3] => { results := [.lit (.bool false)], args := [d1, d2, d3] }
  | _ => none }
def ListMoreWrongFalsely : Prop := listMoreRow.holds Try.pinned (OpenSpec.ofChange listMoreWrong)

/-- 'chaffkeep.DiffLeast': WHATEVER THE INPUT: true; the input reads as it did. -/
def diffLeastSpec : ChangeSpec := { name := "diffLeast", fn := fun _ => fun
  | [d1, d2, d3, d4] => { results := [.lit (.bool true)], args := [d1, d2, d3, d4] }
  | _ => none }
def diffLeastRow : OpenClaim := { program := "ytlamphneimpdlaa", sum := "eed670ebc57aa66adb8bb9d31a6cc114782c67a70169a24b24258f50b43a7d3b", func := "chaffcutter/chaffkeep.DiffLeast", spec := "diffLeast", inPlace := ["internal/bytealg.IndexByteString"], unfollowed := true, recurses := true, loops := true, plainKeys := false, apart := false }
def DiffLeastSaid : Prop := diffLeastRow.holds Try.pinned (OpenSpec.ofChange diffLeastSpec)

/-- ITS FALSE NEIGHBOUR: 'it returns false'. Refute it at one input. -/
def diffLeastWrong : ChangeSpec := { name := "diffLeast", fn := fun _ => fun
  | [d1, d2, d3, d4] => { results := [.lit (.bool false)], args := [d1, d2, d3, d4] }
  | _ => none }
def DiffLeastWrongFalsely : Prop := diffLeastRow.holds Try.pinned (OpenSpec.ofChange diffLeastWrong)

/-- 'chaffkeep.DiffSelf': WHATEVER THE INPUT: true; the input reads as it did. -/
def diffSelfSpec : ChangeSpec := { name := "diffSelf", fn := fun _ => fun
  | [d1, d2, d3] => { results := [.lit (.bool true)], args := [d1, d2, d3] }
  | _ => none }
def diffSelfRow : OpenClaim := { program := "ytlamphneimpdlaa", sum := "eed670ebc57aa66adb8bb9d31a6cc114782c67a70169a24b24258f50b43a7d3b", func := "chaffcutter/chaffkeep.DiffSelf", spec := "diffSelf", inPlace := ["internal/bytealg.IndexByteString", "internal/abi.NoEscape", "internal/bytealg.MakeNoZero"], unfollowed := true, recurses := true, loops := true, plainKeys := false, apart := false }
def DiffSelfSaid : Prop := diffSelfRow.holds Try.pinned (OpenSpec.ofChange diffSelfSpec)

/-- ITS FALSE NEIGHBOUR: 'it returns false'. Refute it at one input. -/
def diffSelfWrong : ChangeSpec := { name := "diffSelf", fn := fun _ => fun
  | [d1, d2, d3] => { results := [.lit (.bool false)], args := [d1, d2, d3] }
  | _ => none }
def DiffSelfWrongFalsely : Prop := diffSelfRow.holds Try.pinned (OpenSpec.ofChange diffSelfWrong)

/-- 'chaffkeep.JobsEven': WHATEVER THE INPUT: true; the input reads as it did. -/
def jobsEvenSpec : ChangeSpec := { name := "jobsEven", fn := fun _ => fun
  | [d1, d2] => { results := [.lit (.bool true)], args := [d1, d2] }
  | _ => none }
def jobsEvenRow : OpenClaim := { program := "ytlamphneimpdlaa", sum := "eed670ebc57aa66adb8bb9d31a6cc114782c67a70169a24b24258f50b43a7d3b", func := "chaffcutter/chaffkeep.JobsEven", spec := "jobsEven", inPlace := ["internal/bytealg.IndexByteString"], unfollowed := true, recurses := true, loops := true, plainKeys := false, apart := false }
def JobsEvenSaid : Prop := jobsEvenRow.holds Try.pinned (OpenSpec.ofChange jobsEvenSpec)

/-- ITS FALSE NEIGHBOUR: 'it returns false'. Refute it at one input. -/
def jobsEvenWrong : ChangeSpec := { name := "jobsEven", fn := fun _ => fun
  | [d1, d2] => { results := [.lit (.bool false)], args := [d1, d2] }
  | _ => none }
def JobsEvenWrongFalsely : Prop := jobsEvenRow.holds Try.pinned (OpenSpec.ofChange jobsEvenWrong)

/-- 'chaffkeep.JobsApart': WHATEVER THE INPUT: true; the input reads as it did. -/
def jobsApartSpec : ChangeSpec := { name := "jobsApart", fn := fun _ => fun
  | [d1, d2, d3] => { results := [.lit (.bool true)], args := [d1, d2, d3] }
  | _ => none }
def jobsApartRow : OpenClaim := { program := "ytlamphneimpdlaa", sum := "eed670ebc57aa66adb8bb9d31a6cc114782c67a70169a24b24258f50b43a7d3b", func := "chaffcutter/chaffkeep.JobsApart", spec := "jobsApart", inPlace := ["internal/bytealg.IndexByteString"], unfollowed := true, recurses := true, loops := true, plainKeys := false, apart := false }
def JobsApartSaid : Prop := jobsApartRow.holds Try.pinned (OpenSpec.ofChange jobsApartSpec)

/-- ITS FALSE NEIGHBOUR: 'it returns false'. Refute it at one input. -/
def jobsApartWrong : ChangeSpec := { name := "jobsApart", fn := fun _ => fun
  | [d1, d2, d3] => { results := [.lit (.bool false)], args := [d1, d2, d3] }
  | _ => none }
def JobsApartWrongFalsely : Prop := jobsApartRow.holds Try.pinned (OpenSpec.ofChange jobsApartWrong)

/-- 'chaffkeep.ShrinkLess': WHATEVER THE INPUT: true; the input reads as it did. -/
def shrinkLessSpec : ChangeSpec := { name := "shrinkLess", fn := fun _ => fun
  | [d1, d2, d3] => { results := [.lit (.bool true)], args := [d1, d2, d3] }
  | _ => none }
def shrinkLessRow : OpenClaim := { program := "ytlamphneimpdlaa", sum := "eed670ebc57aa66adb8bb9d31a6cc114782c67a70169a24b24258f50b43a7d3b", func := "chaffcutter/chaffkeep.ShrinkLess", spec := "shrinkLess", unfollowed := true, recurses := true, loops := true, plainKeys := false, apart := false }
def ShrinkLessSaid : Prop := shrinkLessRow.holds Try.pinned (OpenSpec.ofChange shrinkLessSpec)

/-- ITS FALSE NEIGHBOUR: 'it returns false'. Refute it at one input. -/
def shrinkLessWrong : ChangeSpec := { name := "shrinkLess", fn := fun _ => fun
  | [d1, d2, d3] => { results := [.lit (.bool false)], args := [d1, d2, d3] }
  | _ => none }
def ShrinkLessWrongFalsely : Prop := shrinkLessRow.holds Try.pinned (OpenSpec.ofChange shrinkLessWrong)

/-- 'chaffkeep.MutateKilled': WHATEVER THE INPUT: true; the input reads as it did. -/
def mutateKilledSpec : ChangeSpec := { name := "mutateKilled", fn := fun _ => fun
  | [d1, d2, d3, d4] => { results := [.lit (.bool true)], args := [d1, d2, d3, d4] }
  | _ => none }
def mutateKilledRow : OpenClaim := { program := "ytlamphneimpdlaa", sum := "eed670ebc57aa66adb8bb9d31a6cc114782c67a70169a24b24258f50b43a7d3b", func := "chaffcutter/chaffkeep.MutateKilled", spec := "mutateKilled", unfollowed := true, recurses := true, loops := true, plainKeys := false, apart := false }
def MutateKilledSaid : Prop := mutateKilledRow.holds Try.pinned (OpenSpec.ofChange mutateKilledSpec)

/-- ITS FALSE NEIGHBOUR: 'it returns false'. Refute it at one input. -/
def mutateKilledWrong : ChangeSpec := { name := "mutateKilled", fn := fun _ => fun
  | [d1, d2, d3, d4] => { results := [.lit (.bool false)], args := [d1, d2, d3, d4] }
  | _ => none }
def MutateKilledWrongFalsely : Prop := mutateKilledRow.holds Try.pinned (OpenSpec.ofChange mutateKilledWrong)

/-- 'chaffkeep.PackMisses': WHATEVER THE INPUT: true; the input reads as it did. -/
def packMissesSpec : ChangeSpec := { name := "packMisses", fn := fun _ => fun
  | [d1, d2] => { results := [.lit (.bool true)], args := [d1, d2] }
  | _ => none }
def packMissesRow : OpenClaim := { program := "ytlamphneimpdlaa", sum := "eed670ebc57aa66adb8bb9d31a6cc114782c67a70169a24b24258f50b43a7d3b", func := "chaffcutter/chaffkeep.PackMisses", spec := "packMisses", unfollowed := true, recurses := true, loops := true, plainKeys := false, apart := false }
def PackMissesSaid : Prop := packMissesRow.holds Try.pinned (OpenSpec.ofChange packMissesSpec)

/-- ITS FALSE NEIGHBOUR: 'it returns false'. Refute it at one input. -/
def packMissesWrong : ChangeSpec := { name := "packMisses", fn := fun _ => fun
  | [d1, d2] => { results := [.lit (.bool false)], args := [d1, d2] }
  | _ => none }
def PackMissesWrongFalsely : Prop := packMissesRow.holds Try.pinned (OpenSpec.ofChange packMissesWrong)

/-- 'chaffkeep.KernelPlain': WHATEVER THE INPUT: true; the input reads as it did. -/
def kernelPlainSpec : ChangeSpec := { name := "kernelPlain", fn := fun _ => fun
  | [d] => { results := [.lit (.bool true)], args := [d] }
  | _ => none }
def kernelPlainRow : OpenClaim := { program := "ytlamphneimpdlaa", sum := "eed670ebc57aa66adb8bb9d31a6cc114782c67a70169a24b24258f50b43a7d3b", func := "chaffcutter/chaffkeep.KernelPlain", spec := "kernelPlain", unfollowed := true, recurses := true, loops := true, plainKeys := false, apart := false }
def KernelPlainSaid : Prop := kernelPlainRow.holds Try.pinned (OpenSpec.ofChange kernelPlainSpec)

/-- ITS FALSE NEIGHBOUR: 'it returns false'. Refute it at one input. -/
def kernelPlainWrong : ChangeSpec := { name := "kernelPlain", fn := fun _ => fun
  | [d] => { results := [.lit (.bool false)], args := [d] }
  | _ => none }
def KernelPlainWrongFalsely : Prop := kernelPlainRow.holds Try.pinned (OpenSpec.ofChange kernelPlainWrong)

/-- 'chaffkeep.KernelSame': WHATEVER THE INPUT: true; the input reads as it did. -/
def kernelSameSpec : ChangeSpec := { name := "kernelSame", fn := fun _ => fun
  | [d1, d2, d3, d4] => { results := [.lit (.bool true)], args := [d1, d2, d3, d4] }
  | _ => none }
def kernelSameRow : OpenClaim := { program := "ytlamphneimpdlaa", sum := "eed670ebc57aa66adb8bb9d31a6cc114782c67a70169a24b24258f50b43a7d3b", func := "chaffcutter/chaffkeep.KernelSame", spec := "kernelSame", unfollowed := true, recurses := true, loops := true, plainKeys := false, apart := false }
def KernelSameSaid : Prop := kernelSameRow.holds Try.pinned (OpenSpec.ofChange kernelSameSpec)

/-- ITS FALSE NEIGHBOUR: 'it returns false'. Refute it at one input. -/
def kernelSameWrong : ChangeSpec := { name := "kernelSame", fn := fun _ => fun
  | [d1, d2, d3, d4] => { results := [.lit (.bool false)], args := [d1, d2, d3, d4] }
  | _ => none }
def KernelSameWrongFalsely : Prop := kernelSameRow.holds Try.pinned (OpenSpec.ofChange kernelSameWrong)

/- THE SECOND FORM. 'bulk': how many values and letters a reading holds, each counted each time it is reached (what is shared counts as often as it is met; a slice's spare places count too). A statement '..UptoSaid' is the law's where the arguments, and the package variables that the reading takes, are together of bulk at most 1048576: NARROWER than '..Said'. Prove '..Said' where nothing that the law and all that it calls make is longer than what came in: it says more and counts as full. Else prove '..UptoSaid'. A law counts once. -/
mutual
def uptoBulk {H : Type} : DataW H → Nat
  | .lit (.string bytes) => bytes.length + 1
  | .lit _ => 1
  | .nil => 1
  | .ptr d => uptoBulk d + 1
  | .slice elems spare => uptoBulkAll elems + uptoBulkAll spare + 1
  | .agg parts => uptoBulkAll parts + 1
  | .iface _ d => uptoBulk d + 1
  | .map entries => uptoBulkEntries entries + 1
  | .held _ => 1
def uptoBulkAll {H : Type} : List (DataW H) → Nat
  | [] => 0
  | d :: r => uptoBulk d + uptoBulkAll r
def uptoBulkEntries {H : Type} : List (Lit × DataW H) → Nat
  | [] => 0
  | x :: r => uptoBulkEntry x + uptoBulkEntries r
def uptoBulkEntry {H : Type} : Lit × DataW H → Nat
  | (.string bytes, d) => bytes.length + uptoBulk d + 1
  | (_, d) => uptoBulk d + 1
 end
def uptoSmall : (H : Type) → List (DataW H) → Bool := fun _ ds => decide (uptoBulkAll ds ≤ 1048576)
def OpenSpec.upto (s : _root_.Go.ChangeSpec) : _root_.Go.OpenSpec := { _root_.Go.OpenSpec.ofChange s with cond := some uptoSmall }

/-- 'chaffkeep.ListAll', WHERE WHAT IT READS IS OF BULK AT MOST 1048576: true; the input reads as it did. -/
def listAllUptoRow : OpenClaim := { program := "ytlamphneimpdlaa", sum := "eed670ebc57aa66adb8bb9d31a6cc114782c67a70169a24b24258f50b43a7d3b", func := "chaffcutter/chaffkeep.ListAll", spec := "listAll", inPlace := ["internal/bytealg.IndexByteString"], unfollowed := true, recurses := true, loops := true, plainKeys := false, apart := false, narrowed := true }
def ListAllUptoSaid : Prop := listAllUptoRow.holds Try.pinned (OpenSpec.upto listAllSpec)

/-- 'chaffkeep.ListParts', WHERE WHAT IT READS IS OF BULK AT MOST 1048576: true; the input reads as it did. -/
def listPartsUptoRow : OpenClaim := { program := "ytlamphneimpdlaa", sum := "eed670ebc57aa66adb8bb9d31a6cc114782c67a70169a24b24258f50b43a7d3b", func := "chaffcutter/chaffkeep.ListParts", spec := "listParts", inPlace := ["internal/bytealg.IndexByteString"], unfollowed := true, recurses := true, loops := true, plainKeys := false, apart := false, narrowed := true }
def ListPartsUptoSaid : Prop := listPartsUptoRow.holds Try.pinned (OpenSpec.upto listPartsSpec)

/-- 'chaffkeep.ListMore', WHERE WHAT IT READS IS OF BULK AT MOST 1048576: true; the input reads as it did. -/
def listMoreUptoRow : OpenClaim := { program := "ytlamphneimpdlaa", sum := "eed670ebc57aa66adb8bb9d31a6cc114782c67a70169a24b24258f50b43a7d3b", func := "chaffcutter/chaffkeep.ListMore", spec := "listMore", inPlace := ["internal/bytealg.IndexByteString"], unfollowed := true, recurses := true, loops := true, plainKeys := false, apart := false, narrowed := true }
def ListMoreUptoSaid : Prop := listMoreUptoRow.holds Try.pinned (OpenSpec.upto listMoreSpec)

/-- 'chaffkeep.DiffLeast', WHERE WHAT IT READS IS OF BULK AT MOST 1048576: true; the input reads as it did. -/
def diffLeastUptoRow : OpenClaim := { program := "ytlamphneimpdlaa", sum := "eed670ebc57aa66adb8bb9d31a6cc114782c67a70169a24b24258f50b43a7d3b", func := "chaffcutter/chaffkeep.DiffLeast", spec := "diffLeast", inPlace := ["internal/bytealg.IndexByteString"], unfollowed := true, recurses := true, loops := true, plainKeys := false, apart := false, narrowed := true }
def DiffLeastUptoSaid : Prop := diffLeastUptoRow.holds Try.pinned (OpenSpec.upto diffLeastSpec)

/-- 'chaffkeep.DiffSelf', WHERE WHAT IT READS IS OF BULK AT MOST 1048576: true; the input reads as it did. -/
def diffSelfUptoRow : OpenClaim := { program := "ytlamphneimpdlaa", sum := "eed670ebc57aa66adb8bb9d31a6cc114782c67a70169a24b24258f50b43a7d3b", func := "chaffcutter/chaffkeep.DiffSelf", spec := "diffSelf", inPlace := ["internal/bytealg.IndexByteString", "internal/abi.NoEscape", "internal/bytealg.MakeNoZero"], unfollowed := true, recurses := true, loops := true, plainKeys := false, apart := false, narrowed := true }
def DiffSelfUptoSaid : Prop := diffSelfUptoRow.holds Try.pinned (OpenSpec.upto diffSelfSpec)

/-- 'chaffkeep.JobsEven', WHERE WHAT IT READS IS OF BULK AT MOST 1048576: true; the input reads as it did. -/
def jobsEvenUptoRow : OpenClaim := { program := "ytlamphneimpdlaa", sum := "eed670ebc57aa66adb8bb9d31a6cc114782c67a70169a24b24258f50b43a7d3b", func := "chaffcutter/chaffkeep.JobsEven", spec := "jobsEven", inPlace := ["internal/bytealg.IndexByteString"], unfollowed := true, recurses := true, loops := true, plainKeys := false, apart := false, narrowed := true }
def JobsEvenUptoSaid : Prop := jobsEvenUptoRow.holds Try.pinned (OpenSpec.upto jobsEvenSpec)

/-- 'chaffkeep.JobsApart', WHERE WHAT IT READS IS OF BULK AT MOST 1048576: true; the input reads as it did. -/
def jobsApartUptoRow : OpenClaim := { program := "ytlamphneimpdlaa", sum := "eed670ebc57aa66adb8bb9d31a6cc114782c67a70169a24b24258f50b43a7d3b", func := "chaffcutter/chaffkeep.JobsApart", spec := "jobsApart", inPlace := ["internal/bytealg.IndexByteString"], unfollowed := true, recurses := true, loops := true, plainKeys := false, apart := false, narrowed := true }
def JobsApartUptoSaid : Prop := jobsApartUptoRow.holds Try.pinned (OpenSpec.upto jobsApartSpec)

/-- 'chaffkeep.ShrinkLess', WHERE WHAT IT READS IS OF BULK AT MOST 1048576: true; the input reads as it did. -/
def shrinkLessUptoRow : OpenClaim := { program := "ytlamphneimpdlaa", sum := "eed670ebc57aa66adb8bb9d31a6cc114782c67a70169a24b24258f50b43a7d3b", func := "chaffcutter/chaffkeep.ShrinkLess", spec := "shrinkLess", unfollowed := true, recurses := true, loops := true, plainKeys := false, apart := false, narrowed := true }
def ShrinkLessUptoSaid : Prop := shrinkLessUptoRow.holds Try.pinned (OpenSpec.upto shrinkLessSpec)

/-- 'chaffkeep.MutateKilled', WHERE WHAT IT READS IS OF BULK AT MOST 1048576: true; the input reads as it did. -/
def mutateKilledUptoRow : OpenClaim := { program := "ytlamphneimpdlaa", sum := "eed670ebc57aa66adb8bb9d31a6cc114782c67a70169a24b24258f50b43a7d3b", func := "chaffcutter/chaffkeep.MutateKilled", spec := "mutateKilled", unfollowed := true, recurses := true, loops := true, plainKeys := false, apart := false, narrowed := true }
def MutateKilledUptoSaid : Prop := mutateKilledUptoRow.holds Try.pinned (OpenSpec.upto mutateKilledSpec)

/-- 'chaffkeep.PackMisses', WHERE WHAT IT READS IS OF BULK AT MOST 1048576: true; the input reads as it did. -/
def packMissesUptoRow : OpenClaim := { program := "ytlamphneimpdlaa", sum := "eed670ebc57aa66adb8bb9d31a6cc114782c67a70169a24b24258f50b43a7d3b", func := "chaffcutter/chaffkeep.PackMisses", spec := "packMisses", unfollowed := true, recurses := true, loops := true, plainKeys := false, apart := false, narrowed := true }
def PackMissesUptoSaid : Prop := packMissesUptoRow.holds Try.pinned (OpenSpec.upto packMissesSpec)

/-- 'chaffkeep.KernelPlain', WHERE WHAT IT READS IS OF BULK AT MOST 1048576: true; the input reads as it did. -/
def kernelPlainUptoRow : OpenClaim := { program := "ytlamphneimpdlaa", sum := "eed670ebc57aa66adb8bb9d31a6cc114782c67a70169a24b24258f50b43a7d3b", func := "chaffcutter/chaffkeep.KernelPlain", spec := "kernelPlain", unfollowed := true, recurses := true, loops := true, plainKeys := false, apart := false, narrowed := true }
def KernelPlainUptoSaid : Prop := kernelPlainUptoRow.holds Try.pinned (OpenSpec.upto kernelPlainSpec)

/-- 'chaffkeep.KernelSame', WHERE WHAT IT READS IS OF BULK AT MOST 1048576: true; the input reads as it did. -/
def kernelSameUptoRow : OpenClaim := { program := "ytlamphneimpdlaa", sum := "eed670ebc57aa66adb8bb9d31a6cc114782c67a70169a24b24258f50b43a7d3b", func := "chaffcutter/chaffkeep.KernelSame", spec := "kernelSame", unfollowed := true, recurses := true, loops := true, plainKeys := false, apart := false, narrowed := true }
def KernelSameUptoSaid : Prop := kernelSameUptoRow.holds Try.pinned (OpenSpec.upto kernelSameSpec)

end Rows
end Go.Proofs.Ytlamphneimpdlaa
