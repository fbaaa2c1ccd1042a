/-
  No cell of these rows narrows 'for every input' (looked for: loops, veiled, ifaces, maps, wideKeys, modest, calm, conditions, laid).
  DERIVED. THE GIVEN ROWS OF THIS SEAT. 10 by the template 'for every input the law returns true; each argument reads behind the call as it read before'; 0 by the template 'total and deterministic' (their statements: YtcgcljmnnjalpaaGreatTotals.lean).
  GIVEN WITH THE SEED: the statements are not yours to turn. If you find one false, say at which input.
  Laid BY PROGRAM, IN A SANDBOX (cutbox-rows.mjs): the forced cells as the released guide's own fill.sh prints them over the translation f20c0835afb8581d… (all of the seat's roots in one cut). By AI agents, Wed Nov 11 2026. No macro, syntax, notation, axiom, sorry.
-/
import Derived.Test.YtcgcljmnnjalpaaGreatChecked
import GoSem.Claim
import GoSem.ClaimJoined
import GoSem.ClaimMapViews
import Derived.JoinedTies
import Derived.KernelRfl
namespace Go.Proofs.YtcgcljmnnjalpaaGreat
/- THE CELL 'sum', in the pinned program and in every row, IS THE sha256 OF THE DUMP (.gsa) THAT YtcgcljmnnjalpaaGreatProg.lean LOADS. Nothing in Lean hashes anything: it is a label: what it is worth is what the hold of that sum in a sandbox is worth. -/
noncomputable def Tryz.pinned : Pinned := { name := "ytcgcljmnnjalpaagreat", sum := "f20c0835afb8581db1bb7a26b4862448a97866eeea92d9d240f524e1616b70d2", checked := Tryz.checked }
namespace Rows
def none {H : Type} : Left H := { results := [], args := [] }

/-- 'locklesslaw14.GuardPlays': WHATEVER THE INPUT: true; the input reads as it did. -/
def guardPlaysSpec : ChangeSpec := { name := "guardPlays", fn := fun _ => fun
  | [d1, d2, d3] => { results := [.lit (.bool true)], args := [d1, d2, d3] }
  | _ => none }
def guardPlaysRow : OpenClaim := { program := "ytcgcljmnnjalpaagreat", sum := "f20c0835afb8581db1bb7a26b4862448a97866eeea92d9d240f524e1616b70d2", func := "lockless/locklesslaw14.GuardPlays", spec := "guardPlays", unfollowed := true, recurses := true, apart := false }
def GuardPlaysSaid : Prop := guardPlaysRow.holds Tryz.pinned (OpenSpec.ofChange guardPlaysSpec)

/-- ITS FALSE NEIGHBOUR: 'it returns false'. Refute it at one input. -/
def guardPlaysWrong : ChangeSpec := { name := "guardPlays", fn := fun _ => fun
  | [d1, d2, d3] => { results := [.lit (.bool false)], args := [d1, d2, d3] }
  | _ => none }
def GuardPlaysWrongFalsely : Prop := guardPlaysRow.holds Tryz.pinned (OpenSpec.ofChange guardPlaysWrong)

/-- 'locklesslaw14.GuardSame': WHATEVER THE INPUT: true; the input reads as it did. -/
def guardSameSpec : ChangeSpec := { name := "guardSame", fn := fun _ => fun
  | [d1, d2, d3] => { results := [.lit (.bool true)], args := [d1, d2, d3] }
  | _ => none }
def guardSameRow : OpenClaim := { program := "ytcgcljmnnjalpaagreat", sum := "f20c0835afb8581db1bb7a26b4862448a97866eeea92d9d240f524e1616b70d2", func := "lockless/locklesslaw14.GuardSame", spec := "guardSame", unfollowed := true, recurses := true, apart := false }
def GuardSameSaid : Prop := guardSameRow.holds Tryz.pinned (OpenSpec.ofChange guardSameSpec)

/-- ITS FALSE NEIGHBOUR: 'it returns false'. Refute it at one input. -/
def guardSameWrong : ChangeSpec := { name := "guardSame", fn := fun _ => fun
  | [d1, d2, d3] => { results := [.lit (.bool false)], args := [d1, d2, d3] }
  | _ => none }
def GuardSameWrongFalsely : Prop := guardSameRow.holds Tryz.pinned (OpenSpec.ofChange guardSameWrong)

/-- 'locklesslaw14.GuardKeeps': WHATEVER THE INPUT: true; the input reads as it did. -/
def guardKeepsSpec : ChangeSpec := { name := "guardKeeps", fn := fun _ => fun
  | [d] => { results := [.lit (.bool true)], args := [d] }
  | _ => none }
def guardKeepsRow : OpenClaim := { program := "ytcgcljmnnjalpaagreat", sum := "f20c0835afb8581db1bb7a26b4862448a97866eeea92d9d240f524e1616b70d2", func := "lockless/locklesslaw14.GuardKeeps", spec := "guardKeeps", unfollowed := true, recurses := true, apart := false }
def GuardKeepsSaid : Prop := guardKeepsRow.holds Tryz.pinned (OpenSpec.ofChange guardKeepsSpec)

/-- ITS FALSE NEIGHBOUR: 'it returns false'. Refute it at one input. -/
def guardKeepsWrong : ChangeSpec := { name := "guardKeeps", fn := fun _ => fun
  | [d] => { results := [.lit (.bool false)], args := [d] }
  | _ => none }
def GuardKeepsWrongFalsely : Prop := guardKeepsRow.holds Tryz.pinned (OpenSpec.ofChange guardKeepsWrong)

/-- 'locklesslaw14.GuardOnce': WHATEVER THE INPUT: true; the input reads as it did. -/
def guardOnceSpec : ChangeSpec := { name := "guardOnce", fn := fun _ => fun
  | [d1, d2, d3] => { results := [.lit (.bool true)], args := [d1, d2, d3] }
  | _ => none }
def guardOnceRow : OpenClaim := { program := "ytcgcljmnnjalpaagreat", sum := "f20c0835afb8581db1bb7a26b4862448a97866eeea92d9d240f524e1616b70d2", func := "lockless/locklesslaw14.GuardOnce", spec := "guardOnce", unfollowed := true, recurses := true, apart := false }
def GuardOnceSaid : Prop := guardOnceRow.holds Tryz.pinned (OpenSpec.ofChange guardOnceSpec)

/-- ITS FALSE NEIGHBOUR: 'it returns false'. Refute it at one input. -/
def guardOnceWrong : ChangeSpec := { name := "guardOnce", fn := fun _ => fun
  | [d1, d2, d3] => { results := [.lit (.bool false)], args := [d1, d2, d3] }
  | _ => none }
def GuardOnceWrongFalsely : Prop := guardOnceRow.holds Tryz.pinned (OpenSpec.ofChange guardOnceWrong)

/-- 'locklesslaw14.GuardRests': WHATEVER THE INPUT: true; the input reads as it did. -/
def guardRestsSpec : ChangeSpec := { name := "guardRests", fn := fun _ => fun
  | [d1, d2, d3] => { results := [.lit (.bool true)], args := [d1, d2, d3] }
  | _ => none }
def guardRestsRow : OpenClaim := { program := "ytcgcljmnnjalpaagreat", sum := "f20c0835afb8581db1bb7a26b4862448a97866eeea92d9d240f524e1616b70d2", func := "lockless/locklesslaw14.GuardRests", spec := "guardRests", unfollowed := true, recurses := true, apart := false }
def GuardRestsSaid : Prop := guardRestsRow.holds Tryz.pinned (OpenSpec.ofChange guardRestsSpec)

/-- ITS FALSE NEIGHBOUR: 'it returns false'. Refute it at one input. -/
def guardRestsWrong : ChangeSpec := { name := "guardRests", fn := fun _ => fun
  | [d1, d2, d3] => { results := [.lit (.bool false)], args := [d1, d2, d3] }
  | _ => none }
def GuardRestsWrongFalsely : Prop := guardRestsRow.holds Tryz.pinned (OpenSpec.ofChange guardRestsWrong)

/-- 'locklesslaw14.GuardScripts': WHATEVER THE INPUT: true; the input reads as it did. -/
def guardScriptsSpec : ChangeSpec := { name := "guardScripts", fn := fun _ => fun
  | [d1, d2, d3] => { results := [.lit (.bool true)], args := [d1, d2, d3] }
  | _ => none }
def guardScriptsRow : OpenClaim := { program := "ytcgcljmnnjalpaagreat", sum := "f20c0835afb8581db1bb7a26b4862448a97866eeea92d9d240f524e1616b70d2", func := "lockless/locklesslaw14.GuardScripts", spec := "guardScripts", unfollowed := true, recurses := true, apart := false }
def GuardScriptsSaid : Prop := guardScriptsRow.holds Tryz.pinned (OpenSpec.ofChange guardScriptsSpec)

/-- ITS FALSE NEIGHBOUR: 'it returns false'. Refute it at one input. -/
def guardScriptsWrong : ChangeSpec := { name := "guardScripts", fn := fun _ => fun
  | [d1, d2, d3] => { results := [.lit (.bool false)], args := [d1, d2, d3] }
  | _ => none }
def GuardScriptsWrongFalsely : Prop := guardScriptsRow.holds Tryz.pinned (OpenSpec.ofChange guardScriptsWrong)

/-- 'locklesslaw14.GuardNames': WHATEVER THE INPUT: true; the input reads as it did. -/
def guardNamesSpec : ChangeSpec := { name := "guardNames", fn := fun _ => fun
  | [d1, d2, d3] => { results := [.lit (.bool true)], args := [d1, d2, d3] }
  | _ => none }
def guardNamesRow : OpenClaim := { program := "ytcgcljmnnjalpaagreat", sum := "f20c0835afb8581db1bb7a26b4862448a97866eeea92d9d240f524e1616b70d2", func := "lockless/locklesslaw14.GuardNames", spec := "guardNames", unfollowed := true, recurses := true, apart := false }
def GuardNamesSaid : Prop := guardNamesRow.holds Tryz.pinned (OpenSpec.ofChange guardNamesSpec)

/-- ITS FALSE NEIGHBOUR: 'it returns false'. Refute it at one input. -/
def guardNamesWrong : ChangeSpec := { name := "guardNames", fn := fun _ => fun
  | [d1, d2, d3] => { results := [.lit (.bool false)], args := [d1, d2, d3] }
  | _ => none }
def GuardNamesWrongFalsely : Prop := guardNamesRow.holds Tryz.pinned (OpenSpec.ofChange guardNamesWrong)

/-- 'locklesslaw14.GuardBounds': WHATEVER THE INPUT: true; the input reads as it did. -/
def guardBoundsSpec : ChangeSpec := { name := "guardBounds", fn := fun _ => fun
  | [d1, d2, d3] => { results := [.lit (.bool true)], args := [d1, d2, d3] }
  | _ => none }
def guardBoundsRow : OpenClaim := { program := "ytcgcljmnnjalpaagreat", sum := "f20c0835afb8581db1bb7a26b4862448a97866eeea92d9d240f524e1616b70d2", func := "lockless/locklesslaw14.GuardBounds", spec := "guardBounds", unfollowed := true, recurses := true, apart := false }
def GuardBoundsSaid : Prop := guardBoundsRow.holds Tryz.pinned (OpenSpec.ofChange guardBoundsSpec)

/-- ITS FALSE NEIGHBOUR: 'it returns false'. Refute it at one input. -/
def guardBoundsWrong : ChangeSpec := { name := "guardBounds", fn := fun _ => fun
  | [d1, d2, d3] => { results := [.lit (.bool false)], args := [d1, d2, d3] }
  | _ => none }
def GuardBoundsWrongFalsely : Prop := guardBoundsRow.holds Tryz.pinned (OpenSpec.ofChange guardBoundsWrong)

/-- 'locklesslaw14.GuardNil': WHATEVER THE INPUT: true; the input reads as it did. -/
def guardNilSpec : ChangeSpec := { name := "guardNil", fn := fun _ => fun
  | [d] => { results := [.lit (.bool true)], args := [d] }
  | _ => none }
def guardNilRow : OpenClaim := { program := "ytcgcljmnnjalpaagreat", sum := "f20c0835afb8581db1bb7a26b4862448a97866eeea92d9d240f524e1616b70d2", func := "lockless/locklesslaw14.GuardNil", spec := "guardNil", inPlace := ["maps.clone"], unfollowed := true, recurses := true, apart := false }
def GuardNilSaid : Prop := guardNilRow.holds Tryz.pinned (OpenSpec.ofChange guardNilSpec)

/-- ITS FALSE NEIGHBOUR: 'it returns false'. Refute it at one input. -/
def guardNilWrong : ChangeSpec := { name := "guardNil", fn := fun _ => fun
  | [d] => { results := [.lit (.bool false)], args := [d] }
  | _ => none }
def GuardNilWrongFalsely : Prop := guardNilRow.holds Tryz.pinned (OpenSpec.ofChange guardNilWrong)

/-- 'locklesslaw14.GuardCopies': WHATEVER THE INPUT: true; the input reads as it did. -/
def guardCopiesSpec : ChangeSpec := { name := "guardCopies", fn := fun _ => fun
  | [d] => { results := [.lit (.bool true)], args := [d] }
  | _ => none }
def guardCopiesRow : OpenClaim := { program := "ytcgcljmnnjalpaagreat", sum := "f20c0835afb8581db1bb7a26b4862448a97866eeea92d9d240f524e1616b70d2", func := "lockless/locklesslaw14.GuardCopies", spec := "guardCopies", inPlace := ["maps.clone"], unfollowed := true, recurses := true, apart := false }
def GuardCopiesSaid : Prop := guardCopiesRow.holds Tryz.pinned (OpenSpec.ofChange guardCopiesSpec)

/-- ITS FALSE NEIGHBOUR: 'it returns false'. Refute it at one input. -/
def guardCopiesWrong : ChangeSpec := { name := "guardCopies", fn := fun _ => fun
  | [d] => { results := [.lit (.bool false)], args := [d] }
  | _ => none }
def GuardCopiesWrongFalsely : Prop := guardCopiesRow.holds Tryz.pinned (OpenSpec.ofChange guardCopiesWrong)

/- THE SECOND FORM. 'bulk': how many values and letters a reading holds, each counted each time it is reached (what is shared counts as often as it is met; a slice's spare places count too). A statement '..UptoSaid' is the law's where the arguments, and the package variables that the reading takes, are together of bulk at most 1048576: NARROWER than '..Said'. Prove '..Said' where nothing that the law and all that it calls make is longer than what came in: it says more and counts as full. Else prove '..UptoSaid'. A law counts once. -/
mutual
def uptoBulk {H : Type} : DataW H → Nat
  | .lit (.string bytes) => bytes.length + 1
  | .lit _ => 1
  | .nil => 1
  | .ptr d => uptoBulk d + 1
  | .slice elems spare => uptoBulkAll elems + uptoBulkAll spare + 1
  | .agg parts => uptoBulkAll parts + 1
  | .iface _ d => uptoBulk d + 1
  | .map entries => uptoBulkEntries entries + 1
  | .held _ => 1
def uptoBulkAll {H : Type} : List (DataW H) → Nat
  | [] => 0
  | d :: r => uptoBulk d + uptoBulkAll r
def uptoBulkEntries {H : Type} : List (Lit × DataW H) → Nat
  | [] => 0
  | x :: r => uptoBulkEntry x + uptoBulkEntries r
def uptoBulkEntry {H : Type} : Lit × DataW H → Nat
  | (.string bytes, d) => bytes.length + uptoBulk d + 1
  | (_, d) => uptoBulk d + 1
 end
def uptoSmall : (H : Type) → List (DataW H) → Bool := fun _ ds => decide (uptoBulkAll ds ≤ 1048576)
def OpenSpec.upto (s : _root_.Go.ChangeSpec) : _root_.Go.OpenSpec := { _root_.Go.OpenSpec.ofChange s with cond := some uptoSmall }

/-- 'locklesslaw14.GuardPlays', WHERE WHAT IT READS IS OF BULK AT MOST 1048576: true; the input reads as it did. -/
def guardPlaysUptoRow : OpenClaim := { program := "ytcgcljmnnjalpaagreat", sum := "f20c0835afb8581db1bb7a26b4862448a97866eeea92d9d240f524e1616b70d2", func := "lockless/locklesslaw14.GuardPlays", spec := "guardPlays", unfollowed := true, recurses := true, apart := false, narrowed := true }
def GuardPlaysUptoSaid : Prop := guardPlaysUptoRow.holds Tryz.pinned (OpenSpec.upto guardPlaysSpec)

/-- 'locklesslaw14.GuardSame', WHERE WHAT IT READS IS OF BULK AT MOST 1048576: true; the input reads as it did. -/
def guardSameUptoRow : OpenClaim := { program := "ytcgcljmnnjalpaagreat", sum := "f20c0835afb8581db1bb7a26b4862448a97866eeea92d9d240f524e1616b70d2", func := "lockless/locklesslaw14.GuardSame", spec := "guardSame", unfollowed := true, recurses := true, apart := false, narrowed := true }
def GuardSameUptoSaid : Prop := guardSameUptoRow.holds Tryz.pinned (OpenSpec.upto guardSameSpec)

/-- 'locklesslaw14.GuardKeeps', WHERE WHAT IT READS IS OF BULK AT MOST 1048576: true; the input reads as it did. -/
def guardKeepsUptoRow : OpenClaim := { program := "ytcgcljmnnjalpaagreat", sum := "f20c0835afb8581db1bb7a26b4862448a97866eeea92d9d240f524e1616b70d2", func := "lockless/locklesslaw14.GuardKeeps", spec := "guardKeeps", unfollowed := true, recurses := true, apart := false, narrowed := true }
def GuardKeepsUptoSaid : Prop := guardKeepsUptoRow.holds Tryz.pinned (OpenSpec.upto guardKeepsSpec)

/-- 'locklesslaw14.GuardOnce', WHERE WHAT IT READS IS OF BULK AT MOST 1048576: true; the input reads as it did. -/
def guardOnceUptoRow : OpenClaim := { program := "ytcgcljmnnjalpaagreat", sum := "f20c0835afb8581db1bb7a26b4862448a97866eeea92d9d240f524e1616b70d2", func := "lockless/locklesslaw14.GuardOnce", spec := "guardOnce", unfollowed := true, recurses := true, apart := false, narrowed := true }
def GuardOnceUptoSaid : Prop := guardOnceUptoRow.holds Tryz.pinned (OpenSpec.upto guardOnceSpec)

/-- 'locklesslaw14.GuardRests', WHERE WHAT IT READS IS OF BULK AT MOST 1048576: true; the input reads as it did. -/
def guardRestsUptoRow : OpenClaim := { program := "ytcgcljmnnjalpaagreat", sum := "f20c0835afb8581db1bb7a26b4862448a97866eeea92d9d240f524e1616b70d2", func := "lockless/locklesslaw14.GuardRests", spec := "guardRests", unfollowed := true, recurses := true, apart := false, narrowed := true }
def GuardRestsUptoSaid : Prop := guardRestsUptoRow.holds Tryz.pinned (OpenSpec.upto guardRestsSpec)

/-- 'locklesslaw14.GuardScripts', WHERE WHAT IT READS IS OF BULK AT MOST 1048576: true; the input reads as it did. -/
def guardScriptsUptoRow : OpenClaim := { program := "ytcgcljmnnjalpaagreat", sum := "f20c0835afb8581db1bb7a26b4862448a97866eeea92d9d240f524e1616b70d2", func := "lockless/locklesslaw14.GuardScripts", spec := "guardScripts", unfollowed := true, recurses := true, apart := false, narrowed := true }
def GuardScriptsUptoSaid : Prop := guardScriptsUptoRow.holds Tryz.pinned (OpenSpec.upto guardScriptsSpec)

/-- 'locklesslaw14.GuardNames', WHERE WHAT IT READS IS OF BULK AT MOST 1048576: true; the input reads as it did. -/
def guardNamesUptoRow : OpenClaim := { program := "ytcgcljmnnjalpaagreat", sum := "f20c0835afb8581db1bb7a26b4862448a97866eeea92d9d240f524e1616b70d2", func := "lockless/locklesslaw14.GuardNames", spec := "guardNames", unfollowed := true, recurses := true, apart := false, narrowed := true }
def GuardNamesUptoSaid : Prop := guardNamesUptoRow.holds Tryz.pinned (OpenSpec.upto guardNamesSpec)

/-- 'locklesslaw14.GuardBounds', WHERE WHAT IT READS IS OF BULK AT MOST 1048576: true; the input reads as it did. -/
def guardBoundsUptoRow : OpenClaim := { program := "ytcgcljmnnjalpaagreat", sum := "f20c0835afb8581db1bb7a26b4862448a97866eeea92d9d240f524e1616b70d2", func := "lockless/locklesslaw14.GuardBounds", spec := "guardBounds", unfollowed := true, recurses := true, apart := false, narrowed := true }
def GuardBoundsUptoSaid : Prop := guardBoundsUptoRow.holds Tryz.pinned (OpenSpec.upto guardBoundsSpec)

/-- 'locklesslaw14.GuardNil', WHERE WHAT IT READS IS OF BULK AT MOST 1048576: true; the input reads as it did. -/
def guardNilUptoRow : OpenClaim := { program := "ytcgcljmnnjalpaagreat", sum := "f20c0835afb8581db1bb7a26b4862448a97866eeea92d9d240f524e1616b70d2", func := "lockless/locklesslaw14.GuardNil", spec := "guardNil", inPlace := ["maps.clone"], unfollowed := true, recurses := true, apart := false, narrowed := true }
def GuardNilUptoSaid : Prop := guardNilUptoRow.holds Tryz.pinned (OpenSpec.upto guardNilSpec)

/-- 'locklesslaw14.GuardCopies', WHERE WHAT IT READS IS OF BULK AT MOST 1048576: true; the input reads as it did. -/
def guardCopiesUptoRow : OpenClaim := { program := "ytcgcljmnnjalpaagreat", sum := "f20c0835afb8581db1bb7a26b4862448a97866eeea92d9d240f524e1616b70d2", func := "lockless/locklesslaw14.GuardCopies", spec := "guardCopies", inPlace := ["maps.clone"], unfollowed := true, recurses := true, apart := false, narrowed := true }
def GuardCopiesUptoSaid : Prop := guardCopiesUptoRow.holds Tryz.pinned (OpenSpec.upto guardCopiesSpec)

end Rows
end Go.Proofs.YtcgcljmnnjalpaaGreat
