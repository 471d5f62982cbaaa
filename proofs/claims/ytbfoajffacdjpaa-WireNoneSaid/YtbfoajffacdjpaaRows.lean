/-
  No cell of these rows narrows 'for every input' (looked for: loops, veiled, ifaces, maps, wideKeys, modest, calm, conditions, laid).
  DERIVED. THE GIVEN ROWS OF THIS SEAT. 7 by the template 'for every input the law returns true; each argument reads behind the call as it read before'; 0 by the template 'total and deterministic' (their statements: YtbfoajffacdjpaaTotals.lean).
  GIVEN WITH THE SEED: the statements are not yours to turn. If you find one false, say at which input.
  Laid BY PROGRAM, IN A SANDBOX (cutbox-rows.mjs): the forced cells as the released guide's own fill.sh prints them over the translation 64cf35f2f508219e… (all of the seat's roots in one cut). By AI agents, Wed Nov 11 2026. No macro, syntax, notation, axiom, sorry.
-/
import Derived.Test.YtbfoajffacdjpaaChecked
import GoSem.Claim
import GoSem.ClaimJoined
import GoSem.ClaimMapViews
import Derived.JoinedTies
import Derived.KernelRfl
namespace Go.Proofs.Ytbfoajffacdjpaa
/- THE CELL 'sum', in the pinned program and in every row, IS THE sha256 OF THE DUMP (.gsa) THAT YtbfoajffacdjpaaProg.lean LOADS. Nothing in Lean hashes anything: it is a label: what it is worth is what the hold of that sum in a sandbox is worth. -/
noncomputable def Try.pinned : Pinned := { name := "ytbfoajffacdjpaa", sum := "64cf35f2f508219eaeb6e749e4f7d4d716595dc89cca0d0d7bbbcc4e5fac8e87", checked := Try.checked }
namespace Rows
def none {H : Type} : Left H := { results := [], args := [] }

/-- 'keywaylaw03.WireKeys': WHATEVER THE INPUT: true; the input reads as it did. -/
def wireKeysSpec : ChangeSpec := { name := "wireKeys", fn := fun _ => fun
  | [d1, d2, d3] => { results := [.lit (.bool true)], args := [d1, d2, d3] }
  | _ => none }
def wireKeysRow : OpenClaim := { program := "ytbfoajffacdjpaa", sum := "64cf35f2f508219eaeb6e749e4f7d4d716595dc89cca0d0d7bbbcc4e5fac8e87", func := "keyway/keywaylaw03.WireKeys", spec := "wireKeys", apart := false }
def WireKeysSaid : Prop := wireKeysRow.holds Try.pinned (OpenSpec.ofChange wireKeysSpec)

/-- ITS FALSE NEIGHBOUR: 'it returns false'. Refute it at one input. -/
def wireKeysWrong : ChangeSpec := { name := "wireKeys", fn := fun _ => fun
  | [d1, d2, d3] => { results := [.lit (.bool false)], args := [d1, d2, d3] }
  | _ => none }
def WireKeysWrongFalsely : Prop := wireKeysRow.holds Try.pinned (OpenSpec.ofChange wireKeysWrong)

/-- 'keywaylaw03.WireUnkeys': WHATEVER THE INPUT: true; the input reads as it did. -/
def wireUnkeysSpec : ChangeSpec := { name := "wireUnkeys", fn := fun _ => fun
  | [d] => { results := [.lit (.bool true)], args := [d] }
  | _ => none }
def wireUnkeysRow : OpenClaim := { program := "ytbfoajffacdjpaa", sum := "64cf35f2f508219eaeb6e749e4f7d4d716595dc89cca0d0d7bbbcc4e5fac8e87", func := "keyway/keywaylaw03.WireUnkeys", spec := "wireUnkeys", apart := false }
def WireUnkeysSaid : Prop := wireUnkeysRow.holds Try.pinned (OpenSpec.ofChange wireUnkeysSpec)

/-- ITS FALSE NEIGHBOUR: 'it returns false'. Refute it at one input. -/
def wireUnkeysWrong : ChangeSpec := { name := "wireUnkeys", fn := fun _ => fun
  | [d] => { results := [.lit (.bool false)], args := [d] }
  | _ => none }
def WireUnkeysWrongFalsely : Prop := wireUnkeysRow.holds Try.pinned (OpenSpec.ofChange wireUnkeysWrong)

/-- 'keywaylaw03.WireNums': WHATEVER THE INPUT: true; the input reads as it did. -/
def wireNumsSpec : ChangeSpec := { name := "wireNums", fn := fun _ => fun
  | [d1, d2] => { results := [.lit (.bool true)], args := [d1, d2] }
  | _ => none }
def wireNumsRow : OpenClaim := { program := "ytbfoajffacdjpaa", sum := "64cf35f2f508219eaeb6e749e4f7d4d716595dc89cca0d0d7bbbcc4e5fac8e87", func := "keyway/keywaylaw03.WireNums", spec := "wireNums", recurses := true, apart := false }
def WireNumsSaid : Prop := wireNumsRow.holds Try.pinned (OpenSpec.ofChange wireNumsSpec)

/-- ITS FALSE NEIGHBOUR: 'it returns false'. Refute it at one input. -/
def wireNumsWrong : ChangeSpec := { name := "wireNums", fn := fun _ => fun
  | [d1, d2] => { results := [.lit (.bool false)], args := [d1, d2] }
  | _ => none }
def WireNumsWrongFalsely : Prop := wireNumsRow.holds Try.pinned (OpenSpec.ofChange wireNumsWrong)

/-- 'keywaylaw17.PhaseTexts': WHATEVER THE INPUT: true; the input reads as it did. -/
def phaseTextsSpec : ChangeSpec := { name := "phaseTexts", fn := fun _ => fun
  | [d] => { results := [.lit (.bool true)], args := [d] }
  | _ => none }
def phaseTextsRow : OpenClaim := { program := "ytbfoajffacdjpaa", sum := "64cf35f2f508219eaeb6e749e4f7d4d716595dc89cca0d0d7bbbcc4e5fac8e87", func := "keyway/keywaylaw17.PhaseTexts", spec := "phaseTexts", recurses := true, apart := false }
def PhaseTextsSaid : Prop := phaseTextsRow.holds Try.pinned (OpenSpec.ofChange phaseTextsSpec)

/-- ITS FALSE NEIGHBOUR: 'it returns false'. Refute it at one input. -/
def phaseTextsWrong : ChangeSpec := { name := "phaseTexts", fn := fun _ => fun
  | [d] => { results := [.lit (.bool false)], args := [d] }
  | _ => none }
def PhaseTextsWrongFalsely : Prop := phaseTextsRow.holds Try.pinned (OpenSpec.ofChange phaseTextsWrong)

/-- 'keywaylaw17.PhaseReads': WHATEVER THE INPUT: true; the input reads as it did. -/
def phaseReadsSpec : ChangeSpec := { name := "phaseReads", fn := fun _ => fun
  | [d] => { results := [.lit (.bool true)], args := [d] }
  | _ => none }
def phaseReadsRow : OpenClaim := { program := "ytbfoajffacdjpaa", sum := "64cf35f2f508219eaeb6e749e4f7d4d716595dc89cca0d0d7bbbcc4e5fac8e87", func := "keyway/keywaylaw17.PhaseReads", spec := "phaseReads", apart := false }
def PhaseReadsSaid : Prop := phaseReadsRow.holds Try.pinned (OpenSpec.ofChange phaseReadsSpec)

/-- ITS FALSE NEIGHBOUR: 'it returns false'. Refute it at one input. -/
def phaseReadsWrong : ChangeSpec := { name := "phaseReads", fn := fun _ => fun
  | [d] => { results := [.lit (.bool false)], args := [d] }
  | _ => none }
def PhaseReadsWrongFalsely : Prop := phaseReadsRow.holds Try.pinned (OpenSpec.ofChange phaseReadsWrong)

/-- 'keywaylaw03.WireNone': WHATEVER THE INPUT: true; the input reads as it did. -/
def wireNoneSpec : ChangeSpec := { name := "wireNone", fn := fun _ => fun
  | [d] => { results := [.lit (.bool true)], args := [d] }
  | _ => none }
def wireNoneRow : OpenClaim := { program := "ytbfoajffacdjpaa", sum := "64cf35f2f508219eaeb6e749e4f7d4d716595dc89cca0d0d7bbbcc4e5fac8e87", func := "keyway/keywaylaw03.WireNone", spec := "wireNone", apart := false }
def WireNoneSaid : Prop := wireNoneRow.holds Try.pinned (OpenSpec.ofChange wireNoneSpec)

/-- ITS FALSE NEIGHBOUR: 'it returns false'. Refute it at one input. -/
def wireNoneWrong : ChangeSpec := { name := "wireNone", fn := fun _ => fun
  | [d] => { results := [.lit (.bool false)], args := [d] }
  | _ => none }
def WireNoneWrongFalsely : Prop := wireNoneRow.holds Try.pinned (OpenSpec.ofChange wireNoneWrong)

/-- 'keywaylaw03.WireTexts': WHATEVER THE INPUT: true; the input reads as it did. -/
def wireTextsSpec : ChangeSpec := { name := "wireTexts", fn := fun _ => fun
  | [d1, d2, d3] => { results := [.lit (.bool true)], args := [d1, d2, d3] }
  | _ => none }
def wireTextsRow : OpenClaim := { program := "ytbfoajffacdjpaa", sum := "64cf35f2f508219eaeb6e749e4f7d4d716595dc89cca0d0d7bbbcc4e5fac8e87", func := "keyway/keywaylaw03.WireTexts", spec := "wireTexts", recurses := true, apart := false }
def WireTextsSaid : Prop := wireTextsRow.holds Try.pinned (OpenSpec.ofChange wireTextsSpec)

/-- ITS FALSE NEIGHBOUR: 'it returns false'. Refute it at one input. -/
def wireTextsWrong : ChangeSpec := { name := "wireTexts", fn := fun _ => fun
  | [d1, d2, d3] => { results := [.lit (.bool false)], args := [d1, d2, d3] }
  | _ => none }
def WireTextsWrongFalsely : Prop := wireTextsRow.holds Try.pinned (OpenSpec.ofChange wireTextsWrong)

/- THE SECOND FORM. 'bulk': how many values and letters a reading holds, each counted each time it is reached (what is shared counts as often as it is met; a slice's spare places count too). A statement '..UptoSaid' is the law's where the arguments, and the package variables that the reading takes, are together of bulk at most 1048576: NARROWER than '..Said'. Prove '..Said' where nothing that the law and all that it calls make is longer than what came in: it says more and counts as full. Else prove '..UptoSaid'. A law counts once. -/
mutual
def uptoBulk {H : Type} : DataW H → Nat
  | .lit (.string bytes) => bytes.length + 1
  | .lit _ => 1
  | .nil => 1
  | .ptr d => uptoBulk d + 1
  | .slice elems spare => uptoBulkAll elems + uptoBulkAll spare + 1
  | .agg parts => uptoBulkAll parts + 1
  | .iface _ d => uptoBulk d + 1
  | .map entries => uptoBulkEntries entries + 1
  | .held _ => 1
def uptoBulkAll {H : Type} : List (DataW H) → Nat
  | [] => 0
  | d :: r => uptoBulk d + uptoBulkAll r
def uptoBulkEntries {H : Type} : List (Lit × DataW H) → Nat
  | [] => 0
  | x :: r => uptoBulkEntry x + uptoBulkEntries r
def uptoBulkEntry {H : Type} : Lit × DataW H → Nat
  | (.string bytes, d) => bytes.length + uptoBulk d + 1
  | (_, d) => uptoBulk d + 1
 end
def uptoSmall : (H : Type) → List (DataW H) → Bool := fun _ ds => decide (uptoBulkAll ds ≤ 1048576)
def OpenSpec.upto (s : _root_.Go.ChangeSpec) : _root_.Go.OpenSpec := { _root_.Go.OpenSpec.ofChange s with cond := some uptoSmall }

/-- 'keywaylaw03.WireKeys', WHERE WHAT IT READS IS OF BULK AT MOST 1048576: true; the input reads as it did. -/
def wireKeysUptoRow : OpenClaim := { program := "ytbfoajffacdjpaa", sum := "64cf35f2f508219eaeb6e749e4f7d4d716595dc89cca0d0d7bbbcc4e5fac8e87", func := "keyway/keywaylaw03.WireKeys", spec := "wireKeys", apart := false, narrowed := true }
def WireKeysUptoSaid : Prop := wireKeysUptoRow.holds Try.pinned (OpenSpec.upto wireKeysSpec)

/-- 'keywaylaw03.WireUnkeys', WHERE WHAT IT READS IS OF BULK AT MOST 1048576: true; the input reads as it did. -/
def wireUnkeysUptoRow : OpenClaim := { program := "ytbfoajffacdjpaa", sum := "64cf35f2f508219eaeb6e749e4f7d4d716595dc89cca0d0d7bbbcc4e5fac8e87", func := "keyway/keywaylaw03.WireUnkeys", spec := "wireUnkeys", apart := false, narrowed := true }
def WireUnkeysUptoSaid : Prop := wireUnkeysUptoRow.holds Try.pinned (OpenSpec.upto wireUnkeysSpec)

/-- 'keywaylaw03.WireNums', WHERE WHAT IT READS IS OF BULK AT MOST 1048576: true; the input reads as it did. -/
def wireNumsUptoRow : OpenClaim := { program := "ytbfoajffacdjpaa", sum := "64cf35f2f508219eaeb6e749e4f7d4d716595dc89cca0d0d7bbbcc4e5fac8e87", func := "keyway/keywaylaw03.WireNums", spec := "wireNums", recurses := true, apart := false, narrowed := true }
def WireNumsUptoSaid : Prop := wireNumsUptoRow.holds Try.pinned (OpenSpec.upto wireNumsSpec)

/-- 'keywaylaw17.PhaseTexts', WHERE WHAT IT READS IS OF BULK AT MOST 1048576: true; the input reads as it did. -/
def phaseTextsUptoRow : OpenClaim := { program := "ytbfoajffacdjpaa", sum := "64cf35f2f508219eaeb6e749e4f7d4d716595dc89cca0d0d7bbbcc4e5fac8e87", func := "keyway/keywaylaw17.PhaseTexts", spec := "phaseTexts", recurses := true, apart := false, narrowed := true }
def PhaseTextsUptoSaid : Prop := phaseTextsUptoRow.holds Try.pinned (OpenSpec.upto phaseTextsSpec)

/-- 'keywaylaw17.PhaseReads', WHERE WHAT IT READS IS OF BULK AT MOST 1048576: true; the input reads as it did. -/
def phaseReadsUptoRow : OpenClaim := { program := "ytbfoajffacdjpaa", sum := "64cf35f2f508219eaeb6e749e4f7d4d716595dc89cca0d0d7bbbcc4e5fac8e87", func := "keyway/keywaylaw17.PhaseReads", spec := "phaseReads", apart := false, narrowed := true }
def PhaseReadsUptoSaid : Prop := phaseReadsUptoRow.holds Try.pinned (OpenSpec.upto phaseReadsSpec)

/-- 'keywaylaw03.WireNone', WHERE WHAT IT READS IS OF BULK AT MOST 1048576: true; the input reads as it did. -/
def wireNoneUptoRow : OpenClaim := { program := "ytbfoajffacdjpaa", sum := "64cf35f2f508219eaeb6e749e4f7d4d716595dc89cca0d0d7bbbcc4e5fac8e87", func := "keyway/keywaylaw03.WireNone", spec := "wireNone", apart := false, narrowed := true }
def WireNoneUptoSaid : Prop := wireNoneUptoRow.holds Try.pinned (OpenSpec.upto wireNoneSpec)

/-- 'keywaylaw03.WireTexts', WHERE WHAT IT READS IS OF BULK AT MOST 1048576: true; the input reads as it did. -/
def wireTextsUptoRow : OpenClaim := { program := "ytbfoajffacdjpaa", sum := "64cf35f2f508219eaeb6e749e4f7d4d716595dc89cca0d0d7bbbcc4e5fac8e87", func := "keyway/keywaylaw03.WireTexts", spec := "wireTexts", recurses := true, apart := false, narrowed := true }
def WireTextsUptoSaid : Prop := wireTextsUptoRow.holds Try.pinned (OpenSpec.upto wireTextsSpec)

end Rows
end Go.Proofs.Ytbfoajffacdjpaa
