/-
  No cell of these rows narrows 'for every input' (looked for: loops, veiled, ifaces, maps, wideKeys, modest, calm, conditions, laid).
  DERIVED. THE GIVEN ROWS OF THIS SEAT. 11 by the template 'for every input the law returns true; each argument reads behind the call as it read before'; 0 by the template 'total and deterministic' (their statements: YtacfchepacfjnaaTotals.lean).
  GIVEN WITH THE SEED: the statements are not yours to turn. If you find one false, say at which input.
  Laid BY PROGRAM, IN A SANDBOX (cutbox-rows.mjs): the forced cells as the released guide's own fill.sh prints them over the translation 6de7c38e8413293a… (all of the seat's roots in one cut). By AI agents, Wed Nov 11 2026. No macro, syntax, notation, axiom, sorry.
-/
import Derived.Test.YtacfchepacfjnaaChecked
import GoSem.Claim
import GoSem.ClaimJoined
import GoSem.ClaimMapViews
import Derived.JoinedTies
import Derived.KernelRfl
namespace Go.Proofs.Ytacfchepacfjnaa
/- THE CELL 'sum', in the pinned program and in every row, IS THE sha256 OF THE DUMP (.gsa) THAT YtacfchepacfjnaaProg.lean LOADS. Nothing in Lean hashes anything: it is a label: what it is worth is what the hold of that sum in a sandbox is worth. -/
noncomputable def Try.pinned : Pinned := { name := "ytacfchepacfjnaa", sum := "6de7c38e8413293a2b83b6e246a9a79f79e7ccc38a7c45d6b1d5585f16b1a8e3", checked := Try.checked }
namespace Rows
def none {H : Type} : Left H := { results := [], args := [] }

/-- 'locklesslaw26.OddsSchedules': WHATEVER THE INPUT: true; the input reads as it did. -/
def oddsSchedulesSpec : ChangeSpec := { name := "oddsSchedules", fn := fun _ => fun
  | [d1, d2, d3] => { results := [.lit (.bool true)], args := [d1, d2, d3] }
  | _ => none }
def oddsSchedulesRow : OpenClaim := { program := "ytacfchepacfjnaa", sum := "6de7c38e8413293a2b83b6e246a9a79f79e7ccc38a7c45d6b1d5585f16b1a8e3", func := "lockless/locklesslaw26.OddsSchedules", spec := "oddsSchedules", unfollowed := true, recurses := true, apart := false }
def OddsSchedulesSaid : Prop := oddsSchedulesRow.holds Try.pinned (OpenSpec.ofChange oddsSchedulesSpec)

/-- ITS FALSE NEIGHBOUR: 'it returns false'. Refute it at one input. -/
def oddsSchedulesWrong : ChangeSpec := { name := "oddsSchedules", fn := fun _ => fun
  | [d1, d2, d3] => { results := [.lit (.bool false)], args := [d1, d2, d3] }
  | _ => none }
def OddsSchedulesWrongFalsely : Prop := oddsSchedulesRow.holds Try.pinned (OpenSpec.ofChange oddsSchedulesWrong)

/-- 'locklesslaw26.OddsLeast': WHATEVER THE INPUT: true; the input reads as it did. -/
def oddsLeastSpec : ChangeSpec := { name := "oddsLeast", fn := fun _ => fun
  | [d1, d2] => { results := [.lit (.bool true)], args := [d1, d2] }
  | _ => none }
def oddsLeastRow : OpenClaim := { program := "ytacfchepacfjnaa", sum := "6de7c38e8413293a2b83b6e246a9a79f79e7ccc38a7c45d6b1d5585f16b1a8e3", func := "lockless/locklesslaw26.OddsLeast", spec := "oddsLeast", unfollowed := true, recurses := true, apart := false }
def OddsLeastSaid : Prop := oddsLeastRow.holds Try.pinned (OpenSpec.ofChange oddsLeastSpec)

/-- ITS FALSE NEIGHBOUR: 'it returns false'. Refute it at one input. -/
def oddsLeastWrong : ChangeSpec := { name := "oddsLeast", fn := fun _ => fun
  | [d1, d2] => { results := [.lit (.bool false)], args := [d1, d2] }
  | _ => none }
def OddsLeastWrongFalsely : Prop := oddsLeastRow.holds Try.pinned (OpenSpec.ofChange oddsLeastWrong)

/-- 'locklesslaw26.OddsFinds': WHATEVER THE INPUT: true; the input reads as it did. -/
def oddsFindsSpec : ChangeSpec := { name := "oddsFinds", fn := fun _ => fun
  | [d1, d2, d3] => { results := [.lit (.bool true)], args := [d1, d2, d3] }
  | _ => none }
def oddsFindsRow : OpenClaim := { program := "ytacfchepacfjnaa", sum := "6de7c38e8413293a2b83b6e246a9a79f79e7ccc38a7c45d6b1d5585f16b1a8e3", func := "lockless/locklesslaw26.OddsFinds", spec := "oddsFinds", unfollowed := true, recurses := true, apart := false }
def OddsFindsSaid : Prop := oddsFindsRow.holds Try.pinned (OpenSpec.ofChange oddsFindsSpec)

/-- ITS FALSE NEIGHBOUR: 'it returns false'. Refute it at one input. -/
def oddsFindsWrong : ChangeSpec := { name := "oddsFinds", fn := fun _ => fun
  | [d1, d2, d3] => { results := [.lit (.bool false)], args := [d1, d2, d3] }
  | _ => none }
def OddsFindsWrongFalsely : Prop := oddsFindsRow.holds Try.pinned (OpenSpec.ofChange oddsFindsWrong)

/-- 'locklesslaw26.OddsOrders': WHATEVER THE INPUT: true; the input reads as it did. -/
def oddsOrdersSpec : ChangeSpec := { name := "oddsOrders", fn := fun _ => fun
  | [d] => { results := [.lit (.bool true)], args := [d] }
  | _ => none }
def oddsOrdersRow : OpenClaim := { program := "ytacfchepacfjnaa", sum := "6de7c38e8413293a2b83b6e246a9a79f79e7ccc38a7c45d6b1d5585f16b1a8e3", func := "lockless/locklesslaw26.OddsOrders", spec := "oddsOrders", unfollowed := true, recurses := true, apart := false }
def OddsOrdersSaid : Prop := oddsOrdersRow.holds Try.pinned (OpenSpec.ofChange oddsOrdersSpec)

/-- ITS FALSE NEIGHBOUR: 'it returns false'. Refute it at one input. -/
def oddsOrdersWrong : ChangeSpec := { name := "oddsOrders", fn := fun _ => fun
  | [d] => { results := [.lit (.bool false)], args := [d] }
  | _ => none }
def OddsOrdersWrongFalsely : Prop := oddsOrdersRow.holds Try.pinned (OpenSpec.ofChange oddsOrdersWrong)

/-- 'locklesslaw26.OddsFirst': WHATEVER THE INPUT: true; the input reads as it did. -/
def oddsFirstSpec : ChangeSpec := { name := "oddsFirst", fn := fun _ => fun
  | [d1, d2] => { results := [.lit (.bool true)], args := [d1, d2] }
  | _ => none }
def oddsFirstRow : OpenClaim := { program := "ytacfchepacfjnaa", sum := "6de7c38e8413293a2b83b6e246a9a79f79e7ccc38a7c45d6b1d5585f16b1a8e3", func := "lockless/locklesslaw26.OddsFirst", spec := "oddsFirst", unfollowed := true, recurses := true, apart := false }
def OddsFirstSaid : Prop := oddsFirstRow.holds Try.pinned (OpenSpec.ofChange oddsFirstSpec)

/-- ITS FALSE NEIGHBOUR: 'it returns false'. Refute it at one input. -/
def oddsFirstWrong : ChangeSpec := { name := "oddsFirst", fn := fun _ => fun
  | [d1, d2] => { results := [.lit (.bool false)], args := [d1, d2] }
  | _ => none }
def OddsFirstWrongFalsely : Prop := oddsFirstRow.holds Try.pinned (OpenSpec.ofChange oddsFirstWrong)

/-- 'locklesslaw26.OddsStop': WHATEVER THE INPUT: true; the input reads as it did. -/
def oddsStopSpec : ChangeSpec := { name := "oddsStop", fn := fun _ => fun
  | [d1, d2, d3] => { results := [.lit (.bool true)], args := [d1, d2, d3] }
  | _ => none }
def oddsStopRow : OpenClaim := { program := "ytacfchepacfjnaa", sum := "6de7c38e8413293a2b83b6e246a9a79f79e7ccc38a7c45d6b1d5585f16b1a8e3", func := "lockless/locklesslaw26.OddsStop", spec := "oddsStop", unfollowed := true, recurses := true, apart := false }
def OddsStopSaid : Prop := oddsStopRow.holds Try.pinned (OpenSpec.ofChange oddsStopSpec)

/-- ITS FALSE NEIGHBOUR: 'it returns false'. Refute it at one input. -/
def oddsStopWrong : ChangeSpec := { name := "oddsStop", fn := fun _ => fun
  | [d1, d2, d3] => { results := [.lit (.bool false)], args := [d1, d2, d3] }
  | _ => none }
def OddsStopWrongFalsely : Prop := oddsStopRow.holds Try.pinned (OpenSpec.ofChange oddsStopWrong)

/-- 'locklesslaw26.OddsSpreads': WHATEVER THE INPUT: true; the input reads as it did. -/
def oddsSpreadsSpec : ChangeSpec := { name := "oddsSpreads", fn := fun _ => fun
  | [d1, d2] => { results := [.lit (.bool true)], args := [d1, d2] }
  | _ => none }
def oddsSpreadsRow : OpenClaim := { program := "ytacfchepacfjnaa", sum := "6de7c38e8413293a2b83b6e246a9a79f79e7ccc38a7c45d6b1d5585f16b1a8e3", func := "lockless/locklesslaw26.OddsSpreads", spec := "oddsSpreads", unfollowed := true, recurses := true, apart := false }
def OddsSpreadsSaid : Prop := oddsSpreadsRow.holds Try.pinned (OpenSpec.ofChange oddsSpreadsSpec)

/-- ITS FALSE NEIGHBOUR: 'it returns false'. Refute it at one input. -/
def oddsSpreadsWrong : ChangeSpec := { name := "oddsSpreads", fn := fun _ => fun
  | [d1, d2] => { results := [.lit (.bool false)], args := [d1, d2] }
  | _ => none }
def OddsSpreadsWrongFalsely : Prop := oddsSpreadsRow.holds Try.pinned (OpenSpec.ofChange oddsSpreadsWrong)

/-- 'locklesslaw26.OddsGood': WHATEVER THE INPUT: true; the input reads as it did. -/
def oddsGoodSpec : ChangeSpec := { name := "oddsGood", fn := fun _ => fun
  | [d1, d2] => { results := [.lit (.bool true)], args := [d1, d2] }
  | _ => none }
def oddsGoodRow : OpenClaim := { program := "ytacfchepacfjnaa", sum := "6de7c38e8413293a2b83b6e246a9a79f79e7ccc38a7c45d6b1d5585f16b1a8e3", func := "lockless/locklesslaw26.OddsGood", spec := "oddsGood", unfollowed := true, recurses := true, apart := false }
def OddsGoodSaid : Prop := oddsGoodRow.holds Try.pinned (OpenSpec.ofChange oddsGoodSpec)

/-- ITS FALSE NEIGHBOUR: 'it returns false'. Refute it at one input. -/
def oddsGoodWrong : ChangeSpec := { name := "oddsGood", fn := fun _ => fun
  | [d1, d2] => { results := [.lit (.bool false)], args := [d1, d2] }
  | _ => none }
def OddsGoodWrongFalsely : Prop := oddsGoodRow.holds Try.pinned (OpenSpec.ofChange oddsGoodWrong)

/-- 'locklesslaw26.OddsHits': WHATEVER THE INPUT: true; the input reads as it did. -/
def oddsHitsSpec : ChangeSpec := { name := "oddsHits", fn := fun _ => fun
  | [d1, d2, d3] => { results := [.lit (.bool true)], args := [d1, d2, d3] }
  | _ => none }
def oddsHitsRow : OpenClaim := { program := "ytacfchepacfjnaa", sum := "6de7c38e8413293a2b83b6e246a9a79f79e7ccc38a7c45d6b1d5585f16b1a8e3", func := "lockless/locklesslaw26.OddsHits", spec := "oddsHits", unfollowed := true, recurses := true, apart := false }
def OddsHitsSaid : Prop := oddsHitsRow.holds Try.pinned (OpenSpec.ofChange oddsHitsSpec)

/-- ITS FALSE NEIGHBOUR: 'it returns false'. Refute it at one input. -/
def oddsHitsWrong : ChangeSpec := { name := "oddsHits", fn := fun _ => fun
  | [d1, d2, d3] => { results := [.lit (.bool false)], args := [d1, d2, d3] }
  | _ => none }
def OddsHitsWrongFalsely : Prop := oddsHitsRow.holds Try.pinned (OpenSpec.ofChange oddsHitsWrong)

/-- 'locklesslaw26.OddsKept': WHATEVER THE INPUT: true; the input reads as it did. -/
def oddsKeptSpec : ChangeSpec := { name := "oddsKept", fn := fun _ => fun
  | [d] => { results := [.lit (.bool true)], args := [d] }
  | _ => none }
def oddsKeptRow : OpenClaim := { program := "ytacfchepacfjnaa", sum := "6de7c38e8413293a2b83b6e246a9a79f79e7ccc38a7c45d6b1d5585f16b1a8e3", func := "lockless/locklesslaw26.OddsKept", spec := "oddsKept", unfollowed := true, recurses := true, apart := false }
def OddsKeptSaid : Prop := oddsKeptRow.holds Try.pinned (OpenSpec.ofChange oddsKeptSpec)

/-- ITS FALSE NEIGHBOUR: 'it returns false'. Refute it at one input. -/
def oddsKeptWrong : ChangeSpec := { name := "oddsKept", fn := fun _ => fun
  | [d] => { results := [.lit (.bool false)], args := [d] }
  | _ => none }
def OddsKeptWrongFalsely : Prop := oddsKeptRow.holds Try.pinned (OpenSpec.ofChange oddsKeptWrong)

/-- 'locklesslaw26.OddsBoth': WHATEVER THE INPUT: true; the input reads as it did. -/
def oddsBothSpec : ChangeSpec := { name := "oddsBoth", fn := fun _ => fun
  | [d] => { results := [.lit (.bool true)], args := [d] }
  | _ => none }
def oddsBothRow : OpenClaim := { program := "ytacfchepacfjnaa", sum := "6de7c38e8413293a2b83b6e246a9a79f79e7ccc38a7c45d6b1d5585f16b1a8e3", func := "lockless/locklesslaw26.OddsBoth", spec := "oddsBoth", unfollowed := true, recurses := true, apart := false }
def OddsBothSaid : Prop := oddsBothRow.holds Try.pinned (OpenSpec.ofChange oddsBothSpec)

/-- ITS FALSE NEIGHBOUR: 'it returns false'. Refute it at one input. -/
def oddsBothWrong : ChangeSpec := { name := "oddsBoth", fn := fun _ => fun
  | [d] => { results := [.lit (.bool false)], args := [d] }
  | _ => none }
def OddsBothWrongFalsely : Prop := oddsBothRow.holds Try.pinned (OpenSpec.ofChange oddsBothWrong)

/- THE SECOND FORM. 'bulk': how many values and letters a reading holds, each counted each time it is reached (what is shared counts as often as it is met; a slice's spare places count too). A statement '..UptoSaid' is the law's where the arguments, and the package variables that the reading takes, are together of bulk at most 1048576: NARROWER than '..Said'. Prove '..Said' where nothing that the law and all that it calls make is longer than what came in: it says more and counts as full. Else prove '..UptoSaid'. A law counts once. -/
mutual
def uptoBulk {H : Type} : DataW H → Nat
  | .lit (.string bytes) => bytes.length + 1
  | .lit _ => 1
  | .nil => 1
  | .ptr d => uptoBulk d + 1
  | .slice elems spare => uptoBulkAll elems + uptoBulkAll spare + 1
  | .agg parts => uptoBulkAll parts + 1
  | .iface _ d => uptoBulk d + 1
  | .map entries => uptoBulkEntries entries + 1
  | .held _ => 1
def uptoBulkAll {H : Type} : List (DataW H) → Nat
  | [] => 0
  | d :: r => uptoBulk d + uptoBulkAll r
def uptoBulkEntries {H : Type} : List (Lit × DataW H) → Nat
  | [] => 0
  | x :: r => uptoBulkEntry x + uptoBulkEntries r
def uptoBulkEntry {H : Type} : Lit × DataW H → Nat
  | (.string bytes, d) => bytes.length + uptoBulk d + 1
  | (_, d) => uptoBulk d + 1
 end
def uptoSmall : (H : Type) → List (DataW H) → Bool := fun _ ds => decide (uptoBulkAll ds ≤ 1048576)
def OpenSpec.upto (s : _root_.Go.ChangeSpec) : _root_.Go.OpenSpec := { _root_.Go.OpenSpec.ofChange s with cond := some uptoSmall }

/-- 'locklesslaw26.OddsSchedules', WHERE WHAT IT READS IS OF BULK AT MOST 1048576: true; the input reads as it did. -/
def oddsSchedulesUptoRow : OpenClaim := { program := "ytacfchepacfjnaa", sum := "6de7c38e8413293a2b83b6e246a9a79f79e7ccc38a7c45d6b1d5585f16b1a8e3", func := "lockless/locklesslaw26.OddsSchedules", spec := "oddsSchedules", unfollowed := true, recurses := true, apart := false, narrowed := true }
def OddsSchedulesUptoSaid : Prop := oddsSchedulesUptoRow.holds Try.pinned (OpenSpec.upto oddsSchedulesSpec)

/-- 'locklesslaw26.OddsLeast', WHERE WHAT IT READS IS OF BULK AT MOST 1048576: true; the input reads as it did. -/
def oddsLeastUptoRow : OpenClaim := { program := "ytacfchepacfjnaa", sum := "6de7c38e8413293a2b83b6e246a9a79f79e7ccc38a7c45d6b1d5585f16b1a8e3", func := "lockless/locklesslaw26.OddsLeast", spec := "oddsLeast", unfollowed := true, recurses := true, apart := false, narrowed := true }
def OddsLeastUptoSaid : Prop := oddsLeastUptoRow.holds Try.pinned (OpenSpec.upto oddsLeastSpec)

/-- 'locklesslaw26.OddsFinds', WHERE WHAT IT READS IS OF BULK AT MOST 1048576: true; the input reads as it did. -/
def oddsFindsUptoRow : OpenClaim := { program := "ytacfchepacfjnaa", sum := "6de7c38e8413293a2b83b6e246a9a79f79e7ccc38a7c45d6b1d5585f16b1a8e3", func := "lockless/locklesslaw26.OddsFinds", spec := "oddsFinds", unfollowed := true, recurses := true, apart := false, narrowed := true }
def OddsFindsUptoSaid : Prop := oddsFindsUptoRow.holds Try.pinned (OpenSpec.upto oddsFindsSpec)

/-- 'locklesslaw26.OddsOrders', WHERE WHAT IT READS IS OF BULK AT MOST 1048576: true; the input reads as it did. -/
def oddsOrdersUptoRow : OpenClaim := { program := "ytacfchepacfjnaa", sum := "6de7c38e8413293a2b83b6e246a9a79f79e7ccc38a7c45d6b1d5585f16b1a8e3", func := "lockless/locklesslaw26.OddsOrders", spec := "oddsOrders", unfollowed := true, recurses := true, apart := false, narrowed := true }
def OddsOrdersUptoSaid : Prop := oddsOrdersUptoRow.holds Try.pinned (OpenSpec.upto oddsOrdersSpec)

/-- 'locklesslaw26.OddsFirst', WHERE WHAT IT READS IS OF BULK AT MOST 1048576: true; the input reads as it did. -/
def oddsFirstUptoRow : OpenClaim := { program := "ytacfchepacfjnaa", sum := "6de7c38e8413293a2b83b6e246a9a79f79e7ccc38a7c45d6b1d5585f16b1a8e3", func := "lockless/locklesslaw26.OddsFirst", spec := "oddsFirst", unfollowed := true, recurses := true, apart := false, narrowed := true }
def OddsFirstUptoSaid : Prop := oddsFirstUptoRow.holds Try.pinned (OpenSpec.upto oddsFirstSpec)

/-- 'locklesslaw26.OddsStop', WHERE WHAT IT READS IS OF BULK AT MOST 1048576: true; the input reads as it did. -/
def oddsStopUptoRow : OpenClaim := { program := "ytacfchepacfjnaa", sum := "6de7c38e8413293a2b83b6e246a9a79f79e7ccc38a7c45d6b1d5585f16b1a8e3", func := "lockless/locklesslaw26.OddsStop", spec := "oddsStop", unfollowed := true, recurses := true, apart := false, narrowed := true }
def OddsStopUptoSaid : Prop := oddsStopUptoRow.holds Try.pinned (OpenSpec.upto oddsStopSpec)

/-- 'locklesslaw26.OddsSpreads', WHERE WHAT IT READS IS OF BULK AT MOST 1048576: true; the input reads as it did. -/
def oddsSpreadsUptoRow : OpenClaim := { program := "ytacfchepacfjnaa", sum := "6de7c38e8413293a2b83b6e246a9a79f79e7ccc38a7c45d6b1d5585f16b1a8e3", func := "lockless/locklesslaw26.OddsSpreads", spec := "oddsSpreads", unfollowed := true, recurses := true, apart := false, narrowed := true }
def OddsSpreadsUptoSaid : Prop := oddsSpreadsUptoRow.holds Try.pinned (OpenSpec.upto oddsSpreadsSpec)

/-- 'locklesslaw26.OddsGood', WHERE WHAT IT READS IS OF BULK AT MOST 1048576: true; the input reads as it did. -/
def oddsGoodUptoRow : OpenClaim := { program := "ytacfchepacfjnaa", sum := "6de7c38e8413293a2b83b6e246a9a79f79e7ccc38a7c45d6b1d5585f16b1a8e3", func := "lockless/locklesslaw26.OddsGood", spec := "oddsGood", unfollowed := true, recurses := true, apart := false, narrowed := true }
def OddsGoodUptoSaid : Prop := oddsGoodUptoRow.holds Try.pinned (OpenSpec.upto oddsGoodSpec)

/-- 'locklesslaw26.OddsHits', WHERE WHAT IT READS IS OF BULK AT MOST 1048576: true; the input reads as it did. -/
def oddsHitsUptoRow : OpenClaim := { program := "ytacfchepacfjnaa", sum := "6de7c38e8413293a2b83b6e246a9a79f79e7ccc38a7c45d6b1d5585f16b1a8e3", func := "lockless/locklesslaw26.OddsHits", spec := "oddsHits", unfollowed := true, recurses := true, apart := false, narrowed := true }
def OddsHitsUptoSaid : Prop := oddsHitsUptoRow.holds Try.pinned (OpenSpec.upto oddsHitsSpec)

/-- 'locklesslaw26.OddsKept', WHERE WHAT IT READS IS OF BULK AT MOST 1048576: true; the input reads as it did. -/
def oddsKeptUptoRow : OpenClaim := { program := "ytacfchepacfjnaa", sum := "6de7c38e8413293a2b83b6e246a9a79f79e7ccc38a7c45d6b1d5585f16b1a8e3", func := "lockless/locklesslaw26.OddsKept", spec := "oddsKept", unfollowed := true, recurses := true, apart := false, narrowed := true }
def OddsKeptUptoSaid : Prop := oddsKeptUptoRow.holds Try.pinned (OpenSpec.upto oddsKeptSpec)

/-- 'locklesslaw26.OddsBoth', WHERE WHAT IT READS IS OF BULK AT MOST 1048576: true; the input reads as it did. -/
def oddsBothUptoRow : OpenClaim := { program := "ytacfchepacfjnaa", sum := "6de7c38e8413293a2b83b6e246a9a79f79e7ccc38a7c45d6b1d5585f16b1a8e3", func := "lockless/locklesslaw26.OddsBoth", spec := "oddsBoth", unfollowed := true, recurses := true, apart := false, narrowed := true }
def OddsBothUptoSaid : Prop := oddsBothUptoRow.holds Try.pinned (OpenSpec.upto oddsBothSpec)

end Rows
end Go.Proofs.Ytacfchepacfjnaa
