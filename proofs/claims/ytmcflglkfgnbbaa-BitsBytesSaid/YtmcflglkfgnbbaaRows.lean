/-
  No cell of these rows narrows 'for every input' (looked for: loops, veiled, ifaces, maps, wideKeys, modest, calm, conditions, laid).
  DERIVED. THE GIVEN ROWS OF THIS SEAT. 6 by the template 'for every input the law returns true; each argument reads behind the call as it read before'; 0 by the template 'total and deterministic' (their statements: YtmcflglkfgnbbaaTotals.lean).
  GIVEN WITH THE SEED: the statements are not yours to turn. If you find one false, say at which input.
  Laid BY PROGRAM, IN A SANDBOX (cutbox-rows.mjs): the forced cells as the released guide's own fill.sh prints them over the translation 799cab26a8de7de7… (all of the seat's roots in one cut). By AI agents, Wed Nov 11 2026. No macro, syntax, notation, axiom, sorry.
-/
import Derived.Test.YtmcflglkfgnbbaaChecked
import GoSem.Claim
import GoSem.ClaimJoined
import GoSem.ClaimMapViews
import Derived.JoinedTies
import Derived.KernelRfl
namespace Go.Proofs.Ytmcflglkfgnbbaa
/- THE CELL 'sum', in the pinned program and in every row, IS THE sha256 OF THE DUMP (.gsa) THAT YtmcflglkfgnbbaaProg.lean LOADS. Nothing in Lean hashes anything: it is a label: what it is worth is what the hold of that sum in a sandbox is worth. -/
noncomputable def Try.pinned : Pinned := { name := "ytmcflglkfgnbbaa", sum := "799cab26a8de7de7f038b524c2c43152a3a0d7d8b3e4b9a1c1cc00ab236df7f3", checked := Try.checked }
namespace Rows
def none {H : Type} : Left H := { results := [], args := [] }

/-- 'keywaylaw09.NodeSets': WHATEVER THE INPUT: true; the input reads as it did. -/
def nodeSetsSpec : ChangeSpec := { name := "nodeSets", fn := fun _ => fun
  | [d1, d2] => { results := [.lit (.bool true)], args := [d1, d2] }
  | _ => none }
def nodeSetsRow : OpenClaim := { program := "ytmcflglkfgnbbaa", sum := "799cab26a8de7de7f038b524c2c43152a3a0d7d8b3e4b9a1c1cc00ab236df7f3", func := "keyway/keywaylaw09.NodeSets", spec := "nodeSets", inPlace := ["slices.overlaps[string]", "slices.overlaps[keyway/api.Val]"], plainKeys := false, apart := false }
def NodeSetsSaid : Prop := nodeSetsRow.holds Try.pinned (OpenSpec.ofChange nodeSetsSpec)

/-- ITS FALSE NEIGHBOUR: 'it returns false'. Refute it at one input. -/
def nodeSetsWrong : ChangeSpec := { name := "nodeSets", fn := fun _ => fun
  | [d1, d2] => { results := [.lit (.bool false)], args := [d1, d2] }
  | _ => none }
def NodeSetsWrongFalsely : Prop := nodeSetsRow.holds Try.pinned (OpenSpec.ofChange nodeSetsWrong)

/-- 'keywaylaw09.NodeFits': WHATEVER THE INPUT: true; the input reads as it did. -/
def nodeFitsSpec : ChangeSpec := { name := "nodeFits", fn := fun _ => fun
  | [d1, d2] => { results := [.lit (.bool true)], args := [d1, d2] }
  | _ => none }
def nodeFitsRow : OpenClaim := { program := "ytmcflglkfgnbbaa", sum := "799cab26a8de7de7f038b524c2c43152a3a0d7d8b3e4b9a1c1cc00ab236df7f3", func := "keyway/keywaylaw09.NodeFits", spec := "nodeFits", inPlace := ["slices.overlaps[string]", "slices.overlaps[keyway/api.Val]"], plainKeys := false, apart := false }
def NodeFitsSaid : Prop := nodeFitsRow.holds Try.pinned (OpenSpec.ofChange nodeFitsSpec)

/-- ITS FALSE NEIGHBOUR: 'it returns false'. Refute it at one input. -/
def nodeFitsWrong : ChangeSpec := { name := "nodeFits", fn := fun _ => fun
  | [d1, d2] => { results := [.lit (.bool false)], args := [d1, d2] }
  | _ => none }
def NodeFitsWrongFalsely : Prop := nodeFitsRow.holds Try.pinned (OpenSpec.ofChange nodeFitsWrong)

/-- 'keywaylaw09.NodeParts': WHATEVER THE INPUT: true; the input reads as it did. -/
def nodePartsSpec : ChangeSpec := { name := "nodeParts", fn := fun _ => fun
  | [d1, d2] => { results := [.lit (.bool true)], args := [d1, d2] }
  | _ => none }
def nodePartsRow : OpenClaim := { program := "ytmcflglkfgnbbaa", sum := "799cab26a8de7de7f038b524c2c43152a3a0d7d8b3e4b9a1c1cc00ab236df7f3", func := "keyway/keywaylaw09.NodeParts", spec := "nodeParts", inPlace := ["slices.overlaps[string]", "slices.overlaps[keyway/api.Val]"], recurses := true, plainKeys := false, apart := false }
def NodePartsSaid : Prop := nodePartsRow.holds Try.pinned (OpenSpec.ofChange nodePartsSpec)

/-- ITS FALSE NEIGHBOUR: 'it returns false'. Refute it at one input. -/
def nodePartsWrong : ChangeSpec := { name := "nodeParts", fn := fun _ => fun
  | [d1, d2] => { results := [.lit (.bool false)], args := [d1, d2] }
  | _ => none }
def NodePartsWrongFalsely : Prop := nodePartsRow.holds Try.pinned (OpenSpec.ofChange nodePartsWrong)

/-- 'keywaylaw09.NodePuts': WHATEVER THE INPUT: true; the input reads as it did. -/
def nodePutsSpec : ChangeSpec := { name := "nodePuts", fn := fun _ => fun
  | [d1, d2] => { results := [.lit (.bool true)], args := [d1, d2] }
  | _ => none }
def nodePutsRow : OpenClaim := { program := "ytmcflglkfgnbbaa", sum := "799cab26a8de7de7f038b524c2c43152a3a0d7d8b3e4b9a1c1cc00ab236df7f3", func := "keyway/keywaylaw09.NodePuts", spec := "nodePuts", inPlace := ["slices.overlaps[string]", "slices.overlaps[keyway/api.Val]"], recurses := true, plainKeys := false, apart := false }
def NodePutsSaid : Prop := nodePutsRow.holds Try.pinned (OpenSpec.ofChange nodePutsSpec)

/-- ITS FALSE NEIGHBOUR: 'it returns false'. Refute it at one input. -/
def nodePutsWrong : ChangeSpec := { name := "nodePuts", fn := fun _ => fun
  | [d1, d2] => { results := [.lit (.bool false)], args := [d1, d2] }
  | _ => none }
def NodePutsWrongFalsely : Prop := nodePutsRow.holds Try.pinned (OpenSpec.ofChange nodePutsWrong)

/-- 'keywaylaw14.BitsBytes': WHATEVER THE INPUT: true; the input reads as it did. -/
def bitsBytesSpec : ChangeSpec := { name := "bitsBytes", fn := fun _ => fun
  | [d] => { results := [.lit (.bool true)], args := [d] }
  | _ => none }
def bitsBytesRow : OpenClaim := { program := "ytmcflglkfgnbbaa", sum := "799cab26a8de7de7f038b524c2c43152a3a0d7d8b3e4b9a1c1cc00ab236df7f3", func := "keyway/keywaylaw14.BitsBytes", spec := "bitsBytes", inPlace := ["slices.overlaps[keyway/bits.part]"], unfollowed := true, recurses := true, plainKeys := false, apart := false }
def BitsBytesSaid : Prop := bitsBytesRow.holds Try.pinned (OpenSpec.ofChange bitsBytesSpec)

/-- ITS FALSE NEIGHBOUR: 'it returns false'. Refute it at one input. -/
def bitsBytesWrong : ChangeSpec := { name := "bitsBytes", fn := fun _ => fun
  | [d] => { results := [.lit (.bool false)], args := [d] }
  | _ => none }
def BitsBytesWrongFalsely : Prop := bitsBytesRow.holds Try.pinned (OpenSpec.ofChange bitsBytesWrong)

/-- 'keywaylaw25.ConsNone': WHATEVER THE INPUT: true; the input reads as it did. -/
def consNoneSpec : ChangeSpec := { name := "consNone", fn := fun _ => fun
  | [d1, d2] => { results := [.lit (.bool true)], args := [d1, d2] }
  | _ => none }
def consNoneRow : OpenClaim := { program := "ytmcflglkfgnbbaa", sum := "799cab26a8de7de7f038b524c2c43152a3a0d7d8b3e4b9a1c1cc00ab236df7f3", func := "keyway/keywaylaw25.ConsNone", spec := "consNone", inPlace := ["slices.overlaps[keyway/bits.part]"], unfollowed := true, recurses := true, plainKeys := false, apart := false }
def ConsNoneSaid : Prop := consNoneRow.holds Try.pinned (OpenSpec.ofChange consNoneSpec)

/-- ITS FALSE NEIGHBOUR: 'it returns false'. Refute it at one input. -/
def consNoneWrong : ChangeSpec := { name := "consNone", fn := fun _ => fun
  | [d1, d2] => { results := [.lit (.bool false)], args := [d1, d2] }
  | _ => none }
def ConsNoneWrongFalsely : Prop := consNoneRow.holds Try.pinned (OpenSpec.ofChange consNoneWrong)

/- THE SECOND FORM. 'bulk': how many values and letters a reading holds, each counted each time it is reached (what is shared counts as often as it is met; a slice's spare places count too). A statement '..UptoSaid' is the law's where the arguments, and the package variables that the reading takes, are together of bulk at most 1048576: NARROWER than '..Said'. Prove '..Said' where nothing that the law and all that it calls make is longer than what came in: it says more and counts as full. Else prove '..UptoSaid'. A law counts once. -/
mutual
def uptoBulk {H : Type} : DataW H → Nat
  | .lit (.string bytes) => bytes.length + 1
  | .lit _ => 1
  | .nil => 1
  | .ptr d => uptoBulk d + 1
  | .slice elems spare => uptoBulkAll elems + uptoBulkAll spare + 1
  | .agg parts => uptoBulkAll parts + 1
  | .iface _ d => uptoBulk d + 1
  | .map entries => uptoBulkEntries entries + 1
  | .held _ => 1
def uptoBulkAll {H : Type} : List (DataW H) → Nat
  | [] => 0
  | d :: r => uptoBulk d + uptoBulkAll r
def uptoBulkEntries {H : Type} : List (Lit × DataW H) → Nat
  | [] => 0
  | x :: r => uptoBulkEntry x + uptoBulkEntries r
def uptoBulkEntry {H : Type} : Lit × DataW H → Nat
  | (.string bytes, d) => bytes.length + uptoBulk d + 1
  | (_, d) => uptoBulk d + 1
 end
def uptoSmall : (H : Type) → List (DataW H) → Bool := fun _ ds => decide (uptoBulkAll ds ≤ 1048576)
def OpenSpec.upto (s : _root_.Go.ChangeSpec) : _root_.Go.OpenSpec := { _root_.Go.OpenSpec.ofChange s with cond := some uptoSmall }

/-- 'keywaylaw09.NodeSets', WHERE WHAT IT READS IS OF BULK AT MOST 1048576: true; the input reads as it did. -/
def nodeSetsUptoRow : OpenClaim := { program := "ytmcflglkfgnbbaa", sum := "799cab26a8de7de7f038b524c2c43152a3a0d7d8b3e4b9a1c1cc00ab236df7f3", func := "keyway/keywaylaw09.NodeSets", spec := "nodeSets", inPlace := ["slices.overlaps[string]", "slices.overlaps[keyway/api.Val]"], plainKeys := false, apart := false, narrowed := true }
def NodeSetsUptoSaid : Prop := nodeSetsUptoRow.holds Try.pinned (OpenSpec.upto nodeSetsSpec)

/-- 'keywaylaw09.NodeFits', WHERE WHAT IT READS IS OF BULK AT MOST 1048576: true; the input reads as it did. -/
def nodeFitsUptoRow : OpenClaim := { program := "ytmcflglkfgnbbaa", sum := "799cab26a8de7de7f038b524c2c43152a3a0d7d8b3e4b9a1c1cc00ab236df7f3", func := "keyway/keywaylaw09.NodeFits", spec := "nodeFits", inPlace := ["slices.overlaps[string]", "slices.overlaps[keyway/api.Val]"], plainKeys := false, apart := false, narrowed := true }
def NodeFitsUptoSaid : Prop := nodeFitsUptoRow.holds Try.pinned (OpenSpec.upto nodeFitsSpec)

/-- 'keywaylaw09.NodeParts', WHERE WHAT IT READS IS OF BULK AT MOST 1048576: true; the input reads as it did. -/
def nodePartsUptoRow : OpenClaim := { program := "ytmcflglkfgnbbaa", sum := "799cab26a8de7de7f038b524c2c43152a3a0d7d8b3e4b9a1c1cc00ab236df7f3", func := "keyway/keywaylaw09.NodeParts", spec := "nodeParts", inPlace := ["slices.overlaps[string]", "slices.overlaps[keyway/api.Val]"], recurses := true, plainKeys := false, apart := false, narrowed := true }
def NodePartsUptoSaid : Prop := nodePartsUptoRow.holds Try.pinned (OpenSpec.upto nodePartsSpec)

/-- 'keywaylaw09.NodePuts', WHERE WHAT IT READS IS OF BULK AT MOST 1048576: true; the input reads as it did. -/
def nodePutsUptoRow : OpenClaim := { program := "ytmcflglkfgnbbaa", sum := "799cab26a8de7de7f038b524c2c43152a3a0d7d8b3e4b9a1c1cc00ab236df7f3", func := "keyway/keywaylaw09.NodePuts", spec := "nodePuts", inPlace := ["slices.overlaps[string]", "slices.overlaps[keyway/api.Val]"], recurses := true, plainKeys := false, apart := false, narrowed := true }
def NodePutsUptoSaid : Prop := nodePutsUptoRow.holds Try.pinned (OpenSpec.upto nodePutsSpec)

/-- 'keywaylaw14.BitsBytes', WHERE WHAT IT READS IS OF BULK AT MOST 1048576: true; the input reads as it did. -/
def bitsBytesUptoRow : OpenClaim := { program := "ytmcflglkfgnbbaa", sum := "799cab26a8de7de7f038b524c2c43152a3a0d7d8b3e4b9a1c1cc00ab236df7f3", func := "keyway/keywaylaw14.BitsBytes", spec := "bitsBytes", inPlace := ["slices.overlaps[keyway/bits.part]"], unfollowed := true, recurses := true, plainKeys := false, apart := false, narrowed := true }
def BitsBytesUptoSaid : Prop := bitsBytesUptoRow.holds Try.pinned (OpenSpec.upto bitsBytesSpec)

/-- 'keywaylaw25.ConsNone', WHERE WHAT IT READS IS OF BULK AT MOST 1048576: true; the input reads as it did. -/
def consNoneUptoRow : OpenClaim := { program := "ytmcflglkfgnbbaa", sum := "799cab26a8de7de7f038b524c2c43152a3a0d7d8b3e4b9a1c1cc00ab236df7f3", func := "keyway/keywaylaw25.ConsNone", spec := "consNone", inPlace := ["slices.overlaps[keyway/bits.part]"], unfollowed := true, recurses := true, plainKeys := false, apart := false, narrowed := true }
def ConsNoneUptoSaid : Prop := consNoneUptoRow.holds Try.pinned (OpenSpec.upto consNoneSpec)

end Rows
end Go.Proofs.Ytmcflglkfgnbbaa
