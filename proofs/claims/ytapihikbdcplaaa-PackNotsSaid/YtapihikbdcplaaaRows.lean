/-
  NARROWER THAN 'FOR EVERY INPUT', by the rows' own cells (each row's printed sentence says how): GramReaches: loops · KernelPlain: loops · WellGuards: loops · FirstFacts: loops · WellEnds: loops · PackRest: loops · PackSeqs: loops · PackSpreads: loops · PackNots: loops · PackStars: loops · WellTold: loops · PackOnce: loops.
  DERIVED. THE GIVEN ROWS OF THIS SEAT. 12 by the template 'for every input the law returns true; each argument reads behind the call as it read before'; 0 by the template 'total and deterministic' (their statements: YtapihikbdcplaaaTotals.lean).
  GIVEN WITH THE SEED: the statements are not yours to turn. If you find one false, say at which input.
  Laid BY PROGRAM, IN A SANDBOX (cutbox-rows.mjs): the forced cells as the released guide's own fill.sh prints them over the translation 5e1f5c8e035d1977… (all of the seat's roots in one cut). By AI agents, Wed Nov 11 2026. No macro, syntax, notation, axiom, sorry.
-/
import Derived.Test.YtapihikbdcplaaaChecked
import GoSem.Claim
import GoSem.ClaimJoined
import GoSem.ClaimMapViews
import Derived.JoinedTies
import Derived.KernelRfl
namespace Go.Proofs.Ytapihikbdcplaaa
/- THE CELL 'sum', in the pinned program and in every row, IS THE sha256 OF THE DUMP (.gsa) THAT YtapihikbdcplaaaProg.lean LOADS. Nothing in Lean hashes anything: it is a label: what it is worth is what the hold of that sum in a sandbox is worth. -/
noncomputable def Try.pinned : Pinned := { name := "ytapihikbdcplaaa", sum := "5e1f5c8e035d1977db513dff35376db8fffbee0af054300cc883f78d71bae286", checked := Try.checked }
namespace Rows
def none {H : Type} : Left H := { results := [], args := [] }

/-- 'chaffkeep.GramReaches': WHATEVER THE INPUT: true; the input reads as it did. -/
def gramReachesSpec : ChangeSpec := { name := "gramReaches", fn := fun _ => fun
  | [d] => { results := [.lit (.bool true)], args := [d] }
  | _ => none }
def gramReachesRow : OpenClaim := { program := "ytapihikbdcplaaa", sum := "5e1f5c8e035d1977db513dff35376db8fffbee0af054300cc883f78d71bae286", func := "chaffcutter/chaffkeep.GramReaches", spec := "gramReaches", unfollowed := true, recurses := true, loops := true, plainKeys := false, apart := false }
def GramReachesSaid : Prop := gramReachesRow.holds Try.pinned (OpenSpec.ofChange gramReachesSpec)

/-- ITS FALSE NEIGHBOUR: 'it returns false'. Refute it at one input. -/
def gramReachesWrong : ChangeSpec := { name := "gramReaches", fn := fun _ => fun
  | [d] => { results := [.lit (.bool false)], args := [d] }
  | _ => none }
def GramReachesWrongFalsely : Prop := gramReachesRow.holds Try.pinned (OpenSpec.ofChange gramReachesWrong)

/-- 'chaffkeep.KernelPlain': WHATEVER THE INPUT: true; the input reads as it did. -/
def kernelPlainSpec : ChangeSpec := { name := "kernelPlain", fn := fun _ => fun
  | [d] => { results := [.lit (.bool true)], args := [d] }
  | _ => none }
def kernelPlainRow : OpenClaim := { program := "ytapihikbdcplaaa", sum := "5e1f5c8e035d1977db513dff35376db8fffbee0af054300cc883f78d71bae286", func := "chaffcutter/chaffkeep.KernelPlain", spec := "kernelPlain", unfollowed := true, recurses := true, loops := true, plainKeys := false, apart := false }
def KernelPlainSaid : Prop := kernelPlainRow.holds Try.pinned (OpenSpec.ofChange kernelPlainSpec)

/-- ITS FALSE NEIGHBOUR: 'it returns false'. Refute it at one input. -/
def kernelPlainWrong : ChangeSpec := { name := "kernelPlain", fn := fun _ => fun
  | [d] => { results := [.lit (.bool false)], args := [d] }
  | _ => none }
def KernelPlainWrongFalsely : Prop := kernelPlainRow.holds Try.pinned (OpenSpec.ofChange kernelPlainWrong)

/-- 'chaffkeep.WellGuards': WHATEVER THE INPUT: true; the input reads as it did. -/
def wellGuardsSpec : ChangeSpec := { name := "wellGuards", fn := fun _ => fun
  | [d] => { results := [.lit (.bool true)], args := [d] }
  | _ => none }
def wellGuardsRow : OpenClaim := { program := "ytapihikbdcplaaa", sum := "5e1f5c8e035d1977db513dff35376db8fffbee0af054300cc883f78d71bae286", func := "chaffcutter/chaffkeep.WellGuards", spec := "wellGuards", unfollowed := true, recurses := true, loops := true, plainKeys := false, apart := false }
def WellGuardsSaid : Prop := wellGuardsRow.holds Try.pinned (OpenSpec.ofChange wellGuardsSpec)

/-- ITS FALSE NEIGHBOUR: 'it returns false'. Refute it at one input. -/
def wellGuardsWrong : ChangeSpec := { name := "wellGuards", fn := fun _ => fun
  | [d] => { results := [.lit (.bool false)], args := [d] }
  | _ => none }
def WellGuardsWrongFalsely : Prop := wellGuardsRow.holds Try.pinned (OpenSpec.ofChange wellGuardsWrong)

/-- 'chaffkeep.FirstFacts': WHATEVER THE INPUT: true; the input reads as it did. -/
def firstFactsSpec : ChangeSpec := { name := "firstFacts", fn := fun _ => fun
  | [d] => { results := [.lit (.bool true)], args := [d] }
  | _ => none }
def firstFactsRow : OpenClaim := { program := "ytapihikbdcplaaa", sum := "5e1f5c8e035d1977db513dff35376db8fffbee0af054300cc883f78d71bae286", func := "chaffcutter/chaffkeep.FirstFacts", spec := "firstFacts", unfollowed := true, recurses := true, loops := true, plainKeys := false, apart := false }
def FirstFactsSaid : Prop := firstFactsRow.holds Try.pinned (OpenSpec.ofChange firstFactsSpec)

/-- ITS FALSE NEIGHBOUR: 'it returns false'. Refute it at one input. -/
def firstFactsWrong : ChangeSpec := { name := "firstFacts", fn := fun _ => fun
  | [d] => { results := [.lit (.bool false)], args := [d] }
  | _ => none }
def FirstFactsWrongFalsely : Prop := firstFactsRow.holds Try.pinned (OpenSpec.ofChange firstFactsWrong)

/-- 'chaffkeep.WellEnds': WHATEVER THE INPUT: true; the input reads as it did. -/
def wellEndsSpec : ChangeSpec := { name := "wellEnds", fn := fun _ => fun
  | [d1, d2] => { results := [.lit (.bool true)], args := [d1, d2] }
  | _ => none }
def wellEndsRow : OpenClaim := { program := "ytapihikbdcplaaa", sum := "5e1f5c8e035d1977db513dff35376db8fffbee0af054300cc883f78d71bae286", func := "chaffcutter/chaffkeep.WellEnds", spec := "wellEnds", unfollowed := true, recurses := true, loops := true, plainKeys := false, apart := false }
def WellEndsSaid : Prop := wellEndsRow.holds Try.pinned (OpenSpec.ofChange wellEndsSpec)

/-- ITS FALSE NEIGHBOUR: 'it returns false'. Refute it at one input. -/
def wellEndsWrong : ChangeSpec := { name := "wellEnds", fn := fun _ => fun
  | [d1, d2] => { results := [.lit (.bool false)], args := [d1, d2] }
  | _ => none }
def WellEndsWrongFalsely : Prop := wellEndsRow.holds Try.pinned (OpenSpec.ofChange wellEndsWrong)

/-- 'chaffkeep.PackRest': WHATEVER THE INPUT: true; the input reads as it did. -/
def packRestSpec : ChangeSpec := { name := "packRest", fn := fun _ => fun
  | [d1, d2, d3, d4] => { results := [.lit (.bool true)], args := [d1, d2, d3, d4] }
  | _ => none }
def packRestRow : OpenClaim := { program := "ytapihikbdcplaaa", sum := "5e1f5c8e035d1977db513dff35376db8fffbee0af054300cc883f78d71bae286", func := "chaffcutter/chaffkeep.PackRest", spec := "packRest", unfollowed := true, recurses := true, loops := true, plainKeys := false, apart := false }
def PackRestSaid : Prop := packRestRow.holds Try.pinned (OpenSpec.ofChange packRestSpec)

/-- ITS FALSE NEIGHBOUR: 'it returns false'. Refute it at one input. -/
def packRestWrong : ChangeSpec := { name := "packRest", fn := fun _ => fun
  | [d1, d2, d3, d4] => { results := [.lit (.bool false)], args := [d1, d2, d3, d4] }
  | _ => none }
def PackRestWrongFalsely : Prop := packRestRow.holds Try.pinned (OpenSpec.ofChange packRestWrong)

/-- 'chaffkeep.PackSeqs': WHATEVER THE INPUT: true; the input reads as it did. -/
def packSeqsSpec : ChangeSpec := { name := "packSeqs", fn := fun _ => fun
  | [d1, d2, d3, d4, d5] => { results := [.lit (.bool true)], args := [d1, d2, d3, d4, d5] }
  | _ => none }
def packSeqsRow : OpenClaim := { program := "ytapihikbdcplaaa", sum := "5e1f5c8e035d1977db513dff35376db8fffbee0af054300cc883f78d71bae286", func := "chaffcutter/chaffkeep.PackSeqs", spec := "packSeqs", unfollowed := true, recurses := true, loops := true, plainKeys := false, apart := false }
def PackSeqsSaid : Prop := packSeqsRow.holds Try.pinned (OpenSpec.ofChange packSeqsSpec)

/-- ITS FALSE NEIGHBOUR: 'it returns false'. Refute it at one input. -/
def packSeqsWrong : ChangeSpec := { name := "packSeqs", fn := fun _ => fun
  | [d1, d2, d3, d4, d5] => { results := [.lit (.bool false)], args := [d1, d2, d3, d4, d5] }
  | _ => none }
def PackSeqsWrongFalsely : Prop := packSeqsRow.holds Try.pinned (OpenSpec.ofChange packSeqsWrong)

/-- 'chaffkeep.PackSpreads': WHATEVER THE INPUT: true; the input reads as it did. -/
def packSpreadsSpec : ChangeSpec := { name := "packSpreads", fn := fun _ => fun
  | [d1, d2, d3, d4, d5] => { results := [.lit (.bool true)], args := [d1, d2, d3, d4, d5] }
  | _ => none }
def packSpreadsRow : OpenClaim := { program := "ytapihikbdcplaaa", sum := "5e1f5c8e035d1977db513dff35376db8fffbee0af054300cc883f78d71bae286", func := "chaffcutter/chaffkeep.PackSpreads", spec := "packSpreads", unfollowed := true, recurses := true, loops := true, plainKeys := false, apart := false }
def PackSpreadsSaid : Prop := packSpreadsRow.holds Try.pinned (OpenSpec.ofChange packSpreadsSpec)

/-- ITS FALSE NEIGHBOUR: 'it returns false'. Refute it at one input. -/
def packSpreadsWrong : ChangeSpec := { name := "packSpreads", fn := fun _ => fun
  | [d1, d2, d3, d4, d5] => { results := [.lit (.bool false)], args := [d1, d2, d3, d4, d5] }
  | _ => none }
def PackSpreadsWrongFalsely : Prop := packSpreadsRow.holds Try.pinned (OpenSpec.ofChange packSpreadsWrong)

/-- 'chaffkeep.PackNots': WHATEVER THE INPUT: true; the input reads as it did. -/
def packNotsSpec : ChangeSpec := { name := "packNots", fn := fun _ => fun
  | [d1, d2, d3, d4] => { results := [.lit (.bool true)], args := [d1, d2, d3, d4] }
  | _ => none }
def packNotsRow : OpenClaim := { program := "ytapihikbdcplaaa", sum := "5e1f5c8e035d1977db513dff35376db8fffbee0af054300cc883f78d71bae286", func := "chaffcutter/chaffkeep.PackNots", spec := "packNots", unfollowed := true, recurses := true, loops := true, plainKeys := false, apart := false }
def PackNotsSaid : Prop := packNotsRow.holds Try.pinned (OpenSpec.ofChange packNotsSpec)

/-- ITS FALSE NEIGHBOUR: 'it returns false'. Refute it at one input. -/
def packNotsWrong : ChangeSpec := { name := "packNots", fn := fun _ => fun
  | [d1, d2, d3, d4] => { results := [.lit (.bool false)], args := [d1, d2, d3, d4] }
  | _ => none }
def PackNotsWrongFalsely : Prop := packNotsRow.holds Try.pinned (OpenSpec.ofChange packNotsWrong)

/-- 'chaffkeep.PackStars': WHATEVER THE INPUT: true; the input reads as it did. -/
def packStarsSpec : ChangeSpec := { name := "packStars", fn := fun _ => fun
  | [d1, d2, d3] => { results := [.lit (.bool true)], args := [d1, d2, d3] }
  | _ => none }
def packStarsRow : OpenClaim := { program := "ytapihikbdcplaaa", sum := "5e1f5c8e035d1977db513dff35376db8fffbee0af054300cc883f78d71bae286", func := "chaffcutter/chaffkeep.PackStars", spec := "packStars", unfollowed := true, recurses := true, loops := true, plainKeys := false, apart := false }
def PackStarsSaid : Prop := packStarsRow.holds Try.pinned (OpenSpec.ofChange packStarsSpec)

/-- ITS FALSE NEIGHBOUR: 'it returns false'. Refute it at one input. -/
def packStarsWrong : ChangeSpec := { name := "packStars", fn := fun _ => fun
  | [d1, d2, d3] => { results := [.lit (.bool false)], args := [d1, d2, d3] }
  | _ => none }
def PackStarsWrongFalsely : Prop := packStarsRow.holds Try.pinned (OpenSpec.ofChange packStarsWrong)

/-- 'chaffkeep.WellTold': WHATEVER THE INPUT: true; the input reads as it did. -/
def wellToldSpec : ChangeSpec := { name := "wellTold", fn := fun _ => fun
  | [d1, d2, d3, d4] => { results := [.lit (.bool true)], args := [d1, d2, d3, d4] }
  | _ => none }
def wellToldRow : OpenClaim := { program := "ytapihikbdcplaaa", sum := "5e1f5c8e035d1977db513dff35376db8fffbee0af054300cc883f78d71bae286", func := "chaffcutter/chaffkeep.WellTold", spec := "wellTold", unfollowed := true, recurses := true, loops := true, plainKeys := false, apart := false }
def WellToldSaid : Prop := wellToldRow.holds Try.pinned (OpenSpec.ofChange wellToldSpec)

/-- ITS FALSE NEIGHBOUR: 'it returns false'. Refute it at one input. -/
def wellToldWrong : ChangeSpec := { name := "wellTold", fn := fun _ => fun
  | [d1, d2, d3, d4] => { results := [.lit (.bool false)], args := [d1, d2, d3, d4] }
  | _ => none }
def WellToldWrongFalsely : Prop := wellToldRow.holds Try.pinned (OpenSpec.ofChange wellToldWrong)

/-- 'chaffkeep.PackOnce': WHATEVER THE INPUT: true; the input reads as it did. -/
def packOnceSpec : ChangeSpec := { name := "packOnce", fn := fun _ => fun
  | [d1, d2] => { results := [.lit (.bool true)], args := [d1, d2] }
  | _ => none }
def packOnceRow : OpenClaim := { program := "ytapihikbdcplaaa", sum := "5e1f5c8e035d1977db513dff35376db8fffbee0af054300cc883f78d71bae286", func := "chaffcutter/chaffkeep.PackOnce", spec := "packOnce", unfollowed := true, recurses := true, loops := true, plainKeys := false, apart := false }
def PackOnceSaid : Prop := packOnceRow.holds Try.pinned (OpenSpec.ofChange packOnceSpec)

/-- ITS FALSE NEIGHBOUR: 'it returns false'. Refute it at one input. -/
def packOnceWrong : ChangeSpec := { name := "packOnce", fn := fun _ => fun
  | [d1, d2] => { results := [.lit (.bool false)], args := [d1, d2] }
  | _ => none }
def PackOnceWrongFalsely : Prop := packOnceRow.holds Try.pinned (OpenSpec.ofChange packOnceWrong)

/- THE SECOND FORM. 'bulk': how many values and letters a reading holds, each counted each time it is reached (what is shared counts as often as it is met; a slice's spare places count too). A statement '..UptoSaid' is the law's where the arguments, and the package variables that the reading takes, are together of bulk at most 1048576: NARROWER than '..Said'. Prove '..Said' where nothing that the law and all that it calls make is longer than what came in: it says more and counts as full. Else prove '..UptoSaid'. A law counts once. -/
mutual
def uptoBulk {H : Type} : DataW H → Nat
  | .lit (.string bytes) => bytes.length + 1
  | .lit _ => 1
  | .nil => 1
  | .ptr d => uptoBulk d + 1
  | .slice elems spare => uptoBulkAll elems + uptoBulkAll spare + 1
  | .agg parts => uptoBulkAll parts + 1
  | .iface _ d => uptoBulk d + 1
  | .map entries => uptoBulkEntries entries + 1
  | .held _ => 1
def uptoBulkAll {H : Type} : List (DataW H) → Nat
  | [] => 0
  | d :: r => uptoBulk d + uptoBulkAll r
def uptoBulkEntries {H : Type} : List (Lit × DataW H) → Nat
  | [] => 0
  | x :: r => uptoBulkEntry x + uptoBulkEntries r
def uptoBulkEntry {H : Type} : Lit × DataW H → Nat
  | (.string bytes, d) => bytes.length + uptoBulk d + 1
  | (_, d) => uptoBulk d + 1
 end
def uptoSmall : (H : Type) → List (DataW H) → Bool := fun _ ds => decide (uptoBulkAll ds ≤ 1048576)
def OpenSpec.upto (s : _root_.Go.ChangeSpec) : _root_.Go.OpenSpec := { _root_.Go.OpenSpec.ofChange s with cond := some uptoSmall }

/-- 'chaffkeep.GramReaches', WHERE WHAT IT READS IS OF BULK AT MOST 1048576: true; the input reads as it did. -/
def gramReachesUptoRow : OpenClaim := { program := "ytapihikbdcplaaa", sum := "5e1f5c8e035d1977db513dff35376db8fffbee0af054300cc883f78d71bae286", func := "chaffcutter/chaffkeep.GramReaches", spec := "gramReaches", unfollowed := true, recurses := true, loops := true, plainKeys := false, apart := false, narrowed := true }
def GramReachesUptoSaid : Prop := gramReachesUptoRow.holds Try.pinned (OpenSpec.upto gramReachesSpec)

/-- 'chaffkeep.KernelPlain', WHERE WHAT IT READS IS OF BULK AT MOST 1048576: true; the input reads as it did. -/
def kernelPlainUptoRow : OpenClaim := { program := "ytapihikbdcplaaa", sum := "5e1f5c8e035d1977db513dff35376db8fffbee0af054300cc883f78d71bae286", func := "chaffcutter/chaffkeep.KernelPlain", spec := "kernelPlain", unfollowed := true, recurses := true, loops := true, plainKeys := false, apart := false, narrowed := true }
def KernelPlainUptoSaid : Prop := kernelPlainUptoRow.holds Try.pinned (OpenSpec.upto kernelPlainSpec)

/-- 'chaffkeep.WellGuards', WHERE WHAT IT READS IS OF BULK AT MOST 1048576: true; the input reads as it did. -/
def wellGuardsUptoRow : OpenClaim := { program := "ytapihikbdcplaaa", sum := "5e1f5c8e035d1977db513dff35376db8fffbee0af054300cc883f78d71bae286", func := "chaffcutter/chaffkeep.WellGuards", spec := "wellGuards", unfollowed := true, recurses := true, loops := true, plainKeys := false, apart := false, narrowed := true }
def WellGuardsUptoSaid : Prop := wellGuardsUptoRow.holds Try.pinned (OpenSpec.upto wellGuardsSpec)

/-- 'chaffkeep.FirstFacts', WHERE WHAT IT READS IS OF BULK AT MOST 1048576: true; the input reads as it did. -/
def firstFactsUptoRow : OpenClaim := { program := "ytapihikbdcplaaa", sum := "5e1f5c8e035d1977db513dff35376db8fffbee0af054300cc883f78d71bae286", func := "chaffcutter/chaffkeep.FirstFacts", spec := "firstFacts", unfollowed := true, recurses := true, loops := true, plainKeys := false, apart := false, narrowed := true }
def FirstFactsUptoSaid : Prop := firstFactsUptoRow.holds Try.pinned (OpenSpec.upto firstFactsSpec)

/-- 'chaffkeep.WellEnds', WHERE WHAT IT READS IS OF BULK AT MOST 1048576: true; the input reads as it did. -/
def wellEndsUptoRow : OpenClaim := { program := "ytapihikbdcplaaa", sum := "5e1f5c8e035d1977db513dff35376db8fffbee0af054300cc883f78d71bae286", func := "chaffcutter/chaffkeep.WellEnds", spec := "wellEnds", unfollowed := true, recurses := true, loops := true, plainKeys := false, apart := false, narrowed := true }
def WellEndsUptoSaid : Prop := wellEndsUptoRow.holds Try.pinned (OpenSpec.upto wellEndsSpec)

/-- 'chaffkeep.PackRest', WHERE WHAT IT READS IS OF BULK AT MOST 1048576: true; the input reads as it did. -/
def packRestUptoRow : OpenClaim := { program := "ytapihikbdcplaaa", sum := "5e1f5c8e035d1977db513dff35376db8fffbee0af054300cc883f78d71bae286", func := "chaffcutter/chaffkeep.PackRest", spec := "packRest", unfollowed := true, recurses := true, loops := true, plainKeys := false, apart := false, narrowed := true }
def PackRestUptoSaid : Prop := packRestUptoRow.holds Try.pinned (OpenSpec.upto packRestSpec)

/-- 'chaffkeep.PackSeqs', WHERE WHAT IT READS IS OF BULK AT MOST 1048576: true; the input reads as it did. -/
def packSeqsUptoRow : OpenClaim := { program := "ytapihikbdcplaaa", sum := "5e1f5c8e035d1977db513dff35376db8fffbee0af054300cc883f78d71bae286", func := "chaffcutter/chaffkeep.PackSeqs", spec := "packSeqs", unfollowed := true, recurses := true, loops := true, plainKeys := false, apart := false, narrowed := true }
def PackSeqsUptoSaid : Prop := packSeqsUptoRow.holds Try.pinned (OpenSpec.upto packSeqsSpec)

/-- 'chaffkeep.PackSpreads', WHERE WHAT IT READS IS OF BULK AT MOST 1048576: true; the input reads as it did. -/
def packSpreadsUptoRow : OpenClaim := { program := "ytapihikbdcplaaa", sum := "5e1f5c8e035d1977db513dff35376db8fffbee0af054300cc883f78d71bae286", func := "chaffcutter/chaffkeep.PackSpreads", spec := "packSpreads", unfollowed := true, recurses := true, loops := true, plainKeys := false, apart := false, narrowed := true }
def PackSpreadsUptoSaid : Prop := packSpreadsUptoRow.holds Try.pinned (OpenSpec.upto packSpreadsSpec)

/-- 'chaffkeep.PackNots', WHERE WHAT IT READS IS OF BULK AT MOST 1048576: true; the input reads as it did. -/
def packNotsUptoRow : OpenClaim := { program := "ytapihikbdcplaaa", sum := "5e1f5c8e035d1977db513dff35376db8fffbee0af054300cc883f78d71bae286", func := "chaffcutter/chaffkeep.PackNots", spec := "packNots", unfollowed := true, recurses := true, loops := true, plainKeys := false, apart := false, narrowed := true }
def PackNotsUptoSaid : Prop := packNotsUptoRow.holds Try.pinned (OpenSpec.upto packNotsSpec)

/-- 'chaffkeep.PackStars', WHERE WHAT IT READS IS OF BULK AT MOST 1048576: true; the input reads as it did. -/
def packStarsUptoRow : OpenClaim := { program := "ytapihikbdcplaaa", sum := "5e1f5c8e035d1977db513dff35376db8fffbee0af054300cc883f78d71bae286", func := "chaffcutter/chaffkeep.PackStars", spec := "packStars", unfollowed := true, recurses := true, loops := true, plainKeys := false, apart := false, narrowed := true }
def PackStarsUptoSaid : Prop := packStarsUptoRow.holds Try.pinned (OpenSpec.upto packStarsSpec)

/-- 'chaffkeep.WellTold', WHERE WHAT IT READS IS OF BULK AT MOST 1048576: true; the input reads as it did. -/
def wellToldUptoRow : OpenClaim := { program := "ytapihikbdcplaaa", sum := "5e1f5c8e035d1977db513dff35376db8fffbee0af054300cc883f78d71bae286", func := "chaffcutter/chaffkeep.WellTold", spec := "wellTold", unfollowed := true, recurses := true, loops := true, plainKeys := false, apart := false, narrowed := true }
def WellToldUptoSaid : Prop := wellToldUptoRow.holds Try.pinned (OpenSpec.upto wellToldSpec)

/-- 'chaffkeep.PackOnce', WHERE WHAT IT READS IS OF BULK AT MOST 1048576: true; the input reads as it did. -/
def packOnceUptoRow : OpenClaim := { program := "ytapihikbdcplaaa", sum := "5e1f5c8e035d1977db513dff35376db8fffbee0af054300cc883f78d71bae286", func := "chaffcutter/chaffkeep.PackOnce", spec := "packOnce", unfollowed := true, recurses := true, loops := true, plainKeys := false, apart := false, narrowed := true }
def PackOnceUptoSaid : Prop := packOnceUptoRow.holds Try.pinned (OpenSpec.upto packOnceSpec)

end Rows
end Go.Proofs.Ytapihikbdcplaaa
