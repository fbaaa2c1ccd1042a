/-
  No cell of these rows narrows 'for every input' (looked for: loops, veiled, ifaces, maps, wideKeys, modest, calm, conditions, laid).
  DERIVED. THE GIVEN ROWS OF THIS SEAT. 6 by the template 'for every input the law returns true; each argument reads behind the call as it read before'; 0 by the template 'total and deterministic' (their statements: YtabplbalacldfaaTotals.lean).
  GIVEN WITH THE SEED: the statements are not yours to turn. If you find one false, say at which input.
  Laid BY PROGRAM, IN A SANDBOX (cutbox-rows.mjs): the forced cells as the released guide's own fill.sh prints them over the translation 651d834e05311105… (all of the seat's roots in one cut). By AI agents, Wed Nov 11 2026. No macro, syntax, notation, axiom, sorry.
-/
import Derived.Test.YtabplbalacldfaaChecked
import GoSem.Claim
import GoSem.ClaimJoined
import GoSem.ClaimMapViews
import Derived.JoinedTies
import Derived.KernelRfl
namespace Go.Proofs.Ytabplbalacldfaa
/- THE CELL 'sum', in the pinned program and in every row, IS THE sha256 OF THE DUMP (.gsa) THAT YtabplbalacldfaaProg.lean LOADS. Nothing in Lean hashes anything: it is a label: what it is worth is what the hold of that sum in a sandbox is worth. -/
noncomputable def Try.pinned : Pinned := { name := "ytabplbalacldfaa", sum := "651d834e053111055647689995b33079ea9c98c3934b176589320bc7713038ca", checked := Try.checked }
namespace Rows
def none {H : Type} : Left H := { results := [], args := [] }

/-- 'locklesslaw29.LineAlone': WHATEVER THE INPUT: true; the input reads as it did. -/
def lineAloneSpec : ChangeSpec := { name := "lineAlone", fn := fun _ => fun
  | [d1, d2, d3] => { results := [.lit (.bool true)], args := [d1, d2, d3] }
  | _ => none }
def lineAloneRow : OpenClaim := { program := "ytabplbalacldfaa", sum := "651d834e053111055647689995b33079ea9c98c3934b176589320bc7713038ca", func := "lockless/locklesslaw29.LineAlone", spec := "lineAlone", unfollowed := true, recurses := true, apart := false }
def LineAloneSaid : Prop := lineAloneRow.holds Try.pinned (OpenSpec.ofChange lineAloneSpec)

/-- ITS FALSE NEIGHBOUR: 'it returns false'. Refute it at one input. -/
def lineAloneWrong : ChangeSpec := { name := "lineAlone", fn := fun _ => fun
  | [d1, d2, d3] => { results := [.lit (.bool false)], args := [d1, d2, d3] }
  | _ => none }
def LineAloneWrongFalsely : Prop := lineAloneRow.holds Try.pinned (OpenSpec.ofChange lineAloneWrong)

/-- 'locklesslaw29.LineCounts': WHATEVER THE INPUT: true; the input reads as it did. -/
def lineCountsSpec : ChangeSpec := { name := "lineCounts", fn := fun _ => fun
  | [d1, d2] => { results := [.lit (.bool true)], args := [d1, d2] }
  | _ => none }
def lineCountsRow : OpenClaim := { program := "ytabplbalacldfaa", sum := "651d834e053111055647689995b33079ea9c98c3934b176589320bc7713038ca", func := "lockless/locklesslaw29.LineCounts", spec := "lineCounts", unfollowed := true, recurses := true, apart := false }
def LineCountsSaid : Prop := lineCountsRow.holds Try.pinned (OpenSpec.ofChange lineCountsSpec)

/-- ITS FALSE NEIGHBOUR: 'it returns false'. Refute it at one input. -/
def lineCountsWrong : ChangeSpec := { name := "lineCounts", fn := fun _ => fun
  | [d1, d2] => { results := [.lit (.bool false)], args := [d1, d2] }
  | _ => none }
def LineCountsWrongFalsely : Prop := lineCountsRow.holds Try.pinned (OpenSpec.ofChange lineCountsWrong)

/-- 'locklesslaw29.LineLarger': WHATEVER THE INPUT: true; the input reads as it did. -/
def lineLargerSpec : ChangeSpec := { name := "lineLarger", fn := fun _ => fun
  | [d1, d2, d3] => { results := [.lit (.bool true)], args := [d1, d2, d3] }
  | _ => none }
def lineLargerRow : OpenClaim := { program := "ytabplbalacldfaa", sum := "651d834e053111055647689995b33079ea9c98c3934b176589320bc7713038ca", func := "lockless/locklesslaw29.LineLarger", spec := "lineLarger", unfollowed := true, recurses := true, apart := false }
def LineLargerSaid : Prop := lineLargerRow.holds Try.pinned (OpenSpec.ofChange lineLargerSpec)

/-- ITS FALSE NEIGHBOUR: 'it returns false'. Refute it at one input. -/
def lineLargerWrong : ChangeSpec := { name := "lineLarger", fn := fun _ => fun
  | [d1, d2, d3] => { results := [.lit (.bool false)], args := [d1, d2, d3] }
  | _ => none }
def LineLargerWrongFalsely : Prop := lineLargerRow.holds Try.pinned (OpenSpec.ofChange lineLargerWrong)

/-- 'locklesslaw29.LinePads': WHATEVER THE INPUT: true; the input reads as it did. -/
def linePadsSpec : ChangeSpec := { name := "linePads", fn := fun _ => fun
  | [d1, d2, d3] => { results := [.lit (.bool true)], args := [d1, d2, d3] }
  | _ => none }
def linePadsRow : OpenClaim := { program := "ytabplbalacldfaa", sum := "651d834e053111055647689995b33079ea9c98c3934b176589320bc7713038ca", func := "lockless/locklesslaw29.LinePads", spec := "linePads", unfollowed := true, recurses := true, apart := false }
def LinePadsSaid : Prop := linePadsRow.holds Try.pinned (OpenSpec.ofChange linePadsSpec)

/-- ITS FALSE NEIGHBOUR: 'it returns false'. Refute it at one input. -/
def linePadsWrong : ChangeSpec := { name := "linePads", fn := fun _ => fun
  | [d1, d2, d3] => { results := [.lit (.bool false)], args := [d1, d2, d3] }
  | _ => none }
def LinePadsWrongFalsely : Prop := linePadsRow.holds Try.pinned (OpenSpec.ofChange linePadsWrong)

/-- 'locklesslaw29.LineLines': WHATEVER THE INPUT: true; the input reads as it did. -/
def lineLinesSpec : ChangeSpec := { name := "lineLines", fn := fun _ => fun
  | [d1, d2] => { results := [.lit (.bool true)], args := [d1, d2] }
  | _ => none }
def lineLinesRow : OpenClaim := { program := "ytabplbalacldfaa", sum := "651d834e053111055647689995b33079ea9c98c3934b176589320bc7713038ca", func := "lockless/locklesslaw29.LineLines", spec := "lineLines", unfollowed := true, recurses := true, apart := false }
def LineLinesSaid : Prop := lineLinesRow.holds Try.pinned (OpenSpec.ofChange lineLinesSpec)

/-- ITS FALSE NEIGHBOUR: 'it returns false'. Refute it at one input. -/
def lineLinesWrong : ChangeSpec := { name := "lineLines", fn := fun _ => fun
  | [d1, d2] => { results := [.lit (.bool false)], args := [d1, d2] }
  | _ => none }
def LineLinesWrongFalsely : Prop := lineLinesRow.holds Try.pinned (OpenSpec.ofChange lineLinesWrong)

/-- 'locklesslaw29.LineTrue': WHATEVER THE INPUT: true; the input reads as it did. -/
def lineTrueSpec : ChangeSpec := { name := "lineTrue", fn := fun _ => fun
  | [d1, d2] => { results := [.lit (.bool true)], args := [d1, d2] }
  | _ => none }
def lineTrueRow : OpenClaim := { program := "ytabplbalacldfaa", sum := "651d834e053111055647689995b33079ea9c98c3934b176589320bc7713038ca", func := "lockless/locklesslaw29.LineTrue", spec := "lineTrue", unfollowed := true, recurses := true, apart := false }
def LineTrueSaid : Prop := lineTrueRow.holds Try.pinned (OpenSpec.ofChange lineTrueSpec)

/-- ITS FALSE NEIGHBOUR: 'it returns false'. Refute it at one input. -/
def lineTrueWrong : ChangeSpec := { name := "lineTrue", fn := fun _ => fun
  | [d1, d2] => { results := [.lit (.bool false)], args := [d1, d2] }
  | _ => none }
def LineTrueWrongFalsely : Prop := lineTrueRow.holds Try.pinned (OpenSpec.ofChange lineTrueWrong)

/- THE SECOND FORM. 'bulk': how many values and letters a reading holds, each counted each time it is reached (what is shared counts as often as it is met; a slice's spare places count too). A statement '..UptoSaid' is the law's where the arguments, and the package variables that the reading takes, are together of bulk at most 1048576: NARROWER than '..Said'. Prove '..Said' where nothing that the law and all that it calls make is longer than what came in: it says more and counts as full. Else prove '..UptoSaid'. A law counts once. -/
mutual
def uptoBulk {H : Type} : DataW H → Nat
  | .lit (.string bytes) => bytes.length + 1
  | .lit _ => 1
  | .nil => 1
  | .ptr d => uptoBulk d + 1
  | .slice elems spare => uptoBulkAll elems + uptoBulkAll spare + 1
  | .agg parts => uptoBulkAll parts + 1
  | .iface _ d => uptoBulk d + 1
  | .map entries => uptoBulkEntries entries + 1
  | .held _ => 1
def uptoBulkAll {H : Type} : List (DataW H) → Nat
  | [] => 0
  | d :: r => uptoBulk d + uptoBulkAll r
def uptoBulkEntries {H : Type} : List (Lit × DataW H) → Nat
  | [] => 0
  | x :: r => uptoBulkEntry x + uptoBulkEntries r
def uptoBulkEntry {H : Type} : Lit × DataW H → Nat
  | (.string bytes, d) => bytes.length + uptoBulk d + 1
  | (_, d) => uptoBulk d + 1
 end
def uptoSmall : (H : Type) → List (DataW H) → Bool := fun _ ds => decide (uptoBulkAll ds ≤ 1048576)
def OpenSpec.upto (s : _root_.Go.ChangeSpec) : _root_.Go.OpenSpec := { _root_.Go.OpenSpec.ofChange s with cond := some uptoSmall }

/-- 'locklesslaw29.LineAlone', WHERE WHAT IT READS IS OF BULK AT MOST 1048576: true; the input reads as it did. -/
def lineAloneUptoRow : OpenClaim := { program := "ytabplbalacldfaa", sum := "651d834e053111055647689995b33079ea9c98c3934b176589320bc7713038ca", func := "lockless/locklesslaw29.LineAlone", spec := "lineAlone", unfollowed := true, recurses := true, apart := false, narrowed := true }
def LineAloneUptoSaid : Prop := lineAloneUptoRow.holds Try.pinned (OpenSpec.upto lineAloneSpec)

/-- 'locklesslaw29.LineCounts', WHERE WHAT IT READS IS OF BULK AT MOST 1048576: true; the input reads as it did. -/
def lineCountsUptoRow : OpenClaim := { program := "ytabplbalacldfaa", sum := "651d834e053111055647689995b33079ea9c98c3934b176589320bc7713038ca", func := "lockless/locklesslaw29.LineCounts", spec := "lineCounts", unfollowed := true, recurses := true, apart := false, narrowed := true }
def LineCountsUptoSaid : Prop := lineCountsUptoRow.holds Try.pinned (OpenSpec.upto lineCountsSpec)

/-- 'locklesslaw29.LineLarger', WHERE WHAT IT READS IS OF BULK AT MOST 1048576: true; the input reads as it did. -/
def lineLargerUptoRow : OpenClaim := { program := "ytabplbalacldfaa", sum := "651d834e053111055647689995b33079ea9c98c3934b176589320bc7713038ca", func := "lockless/locklesslaw29.LineLarger", spec := "lineLarger", unfollowed := true, recurses := true, apart := false, narrowed := true }
def LineLargerUptoSaid : Prop := lineLargerUptoRow.holds Try.pinned (OpenSpec.upto lineLargerSpec)

/-- 'locklesslaw29.LinePads', WHERE WHAT IT READS IS OF BULK AT MOST 1048576: true; the input reads as it did. -/
def linePadsUptoRow : OpenClaim := { program := "ytabplbalacldfaa", sum := "651d834e053111055647689995b33079ea9c98c3934b176589320bc7713038ca", func := "lockless/locklesslaw29.LinePads", spec := "linePads", unfollowed := true, recurses := true, apart := false, narrowed := true }
def LinePadsUptoSaid : Prop := linePadsUptoRow.holds Try.pinned (OpenSpec.upto linePadsSpec)

/-- 'locklesslaw29.LineLines', WHERE WHAT IT READS IS OF BULK AT MOST 1048576: true; the input reads as it did. -/
def lineLinesUptoRow : OpenClaim := { program := "ytabplbalacldfaa", sum := "651d834e053111055647689995b33079ea9c98c3934b176589320bc7713038ca", func := "lockless/locklesslaw29.LineLines", spec := "lineLines", unfollowed := true, recurses := true, apart := false, narrowed := true }
def LineLinesUptoSaid : Prop := lineLinesUptoRow.holds Try.pinned (OpenSpec.upto lineLinesSpec)

/-- 'locklesslaw29.LineTrue', WHERE WHAT IT READS IS OF BULK AT MOST 1048576: true; the input reads as it did. -/
def lineTrueUptoRow : OpenClaim := { program := "ytabplbalacldfaa", sum := "651d834e053111055647689995b33079ea9c98c3934b176589320bc7713038ca", func := "lockless/locklesslaw29.LineTrue", spec := "lineTrue", unfollowed := true, recurses := true, apart := false, narrowed := true }
def LineTrueUptoSaid : Prop := lineTrueUptoRow.holds Try.pinned (OpenSpec.upto lineTrueSpec)

end Rows
end Go.Proofs.Ytabplbalacldfaa
