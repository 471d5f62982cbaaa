/-
  No cell of these rows narrows 'for every input' (looked for: loops, veiled, ifaces, maps, wideKeys, modest, calm, conditions, laid).
  DERIVED. THE GIVEN ROWS OF THIS SEAT. 6 by the template 'for every input the law returns true; each argument reads behind the call as it read before'; 0 by the template 'total and deterministic' (their statements: YtpkgikchphgfaaaTotals.lean).
  GIVEN WITH THE SEED: the statements are not yours to turn. If you find one false, say at which input.
  Laid BY PROGRAM, IN A SANDBOX (cutbox-rows.mjs): the forced cells as the released guide's own fill.sh prints them over the translation 1020cf739ece884e… (all of the seat's roots in one cut). By AI agents, Wed Nov 11 2026. No macro, syntax, notation, axiom, sorry.
-/
import Derived.Test.YtpkgikchphgfaaaChecked
import GoSem.Claim
import GoSem.ClaimJoined
import GoSem.ClaimMapViews
import Derived.JoinedTies
import Derived.KernelRfl
namespace Go.Proofs.Ytpkgikchphgfaaa
/- THE CELL 'sum', in the pinned program and in every row, IS THE sha256 OF THE DUMP (.gsa) THAT YtpkgikchphgfaaaProg.lean LOADS. Nothing in Lean hashes anything: it is a label: what it is worth is what the hold of that sum in a sandbox is worth. -/
noncomputable def Try.pinned : Pinned := { name := "ytpkgikchphgfaaa", sum := "1020cf739ece884e7b55970a2d3b6d4a9237da219013d5fadcaf29b68c39a24c", checked := Try.checked }
namespace Rows
def none {H : Type} : Left H := { results := [], args := [] }

/-- 'keywaylaw24.FlowFinds': WHATEVER THE INPUT: true; the input reads as it did. -/
def flowFindsSpec : ChangeSpec := { name := "flowFinds", fn := fun _ => fun
  | [d] => { results := [.lit (.bool true)], args := [d] }
  | _ => none }
def flowFindsRow : OpenClaim := { program := "ytpkgikchphgfaaa", sum := "1020cf739ece884e7b55970a2d3b6d4a9237da219013d5fadcaf29b68c39a24c", func := "keyway/keywaylaw24.FlowFinds", spec := "flowFinds", recurses := true, apart := false }
def FlowFindsSaid : Prop := flowFindsRow.holds Try.pinned (OpenSpec.ofChange flowFindsSpec)

/-- ITS FALSE NEIGHBOUR: 'it returns false'. Refute it at one input. -/
def flowFindsWrong : ChangeSpec := { name := "flowFinds", fn := fun _ => fun
  | [d] => { results := [.lit (.bool false)], args := [d] }
  | _ => none }
def FlowFindsWrongFalsely : Prop := flowFindsRow.holds Try.pinned (OpenSpec.ofChange flowFindsWrong)

/-- 'keywaylaw23.IrcodeSame': WHATEVER THE INPUT: true; the input reads as it did. -/
def ircodeSameSpec : ChangeSpec := { name := "ircodeSame", fn := fun _ => fun
  | [d1, d2] => { results := [.lit (.bool true)], args := [d1, d2] }
  | _ => none }
def ircodeSameRow : OpenClaim := { program := "ytpkgikchphgfaaa", sum := "1020cf739ece884e7b55970a2d3b6d4a9237da219013d5fadcaf29b68c39a24c", func := "keyway/keywaylaw23.IrcodeSame", spec := "ircodeSame", recurses := true, apart := false }
def IrcodeSameSaid : Prop := ircodeSameRow.holds Try.pinned (OpenSpec.ofChange ircodeSameSpec)

/-- ITS FALSE NEIGHBOUR: 'it returns false'. Refute it at one input. -/
def ircodeSameWrong : ChangeSpec := { name := "ircodeSame", fn := fun _ => fun
  | [d1, d2] => { results := [.lit (.bool false)], args := [d1, d2] }
  | _ => none }
def IrcodeSameWrongFalsely : Prop := ircodeSameRow.holds Try.pinned (OpenSpec.ofChange ircodeSameWrong)

/-- 'keywaylaw21.CheckStays': WHATEVER THE INPUT: true; the input reads as it did. -/
def checkStaysSpec : ChangeSpec := { name := "checkStays", fn := fun _ => fun
  | [d] => { results := [.lit (.bool true)], args := [d] }
  | _ => none }
def checkStaysRow : OpenClaim := { program := "ytpkgikchphgfaaa", sum := "1020cf739ece884e7b55970a2d3b6d4a9237da219013d5fadcaf29b68c39a24c", func := "keyway/keywaylaw21.CheckStays", spec := "checkStays", recurses := true, apart := false }
def CheckStaysSaid : Prop := checkStaysRow.holds Try.pinned (OpenSpec.ofChange checkStaysSpec)

/-- ITS FALSE NEIGHBOUR: 'it returns false'. Refute it at one input. -/
def checkStaysWrong : ChangeSpec := { name := "checkStays", fn := fun _ => fun
  | [d] => { results := [.lit (.bool false)], args := [d] }
  | _ => none }
def CheckStaysWrongFalsely : Prop := checkStaysRow.holds Try.pinned (OpenSpec.ofChange checkStaysWrong)

/-- 'keywaylaw22.LowerMakes': WHATEVER THE INPUT: true; the input reads as it did. -/
def lowerMakesSpec : ChangeSpec := { name := "lowerMakes", fn := fun _ => fun
  | [d] => { results := [.lit (.bool true)], args := [d] }
  | _ => none }
def lowerMakesRow : OpenClaim := { program := "ytpkgikchphgfaaa", sum := "1020cf739ece884e7b55970a2d3b6d4a9237da219013d5fadcaf29b68c39a24c", func := "keyway/keywaylaw22.LowerMakes", spec := "lowerMakes", recurses := true, apart := false }
def LowerMakesSaid : Prop := lowerMakesRow.holds Try.pinned (OpenSpec.ofChange lowerMakesSpec)

/-- ITS FALSE NEIGHBOUR: 'it returns false'. Refute it at one input. -/
def lowerMakesWrong : ChangeSpec := { name := "lowerMakes", fn := fun _ => fun
  | [d] => { results := [.lit (.bool false)], args := [d] }
  | _ => none }
def LowerMakesWrongFalsely : Prop := lowerMakesRow.holds Try.pinned (OpenSpec.ofChange lowerMakesWrong)

/-- 'keywaylaw22.LowerWays': WHATEVER THE INPUT: true; the input reads as it did. -/
def lowerWaysSpec : ChangeSpec := { name := "lowerWays", fn := fun _ => fun
  | [d] => { results := [.lit (.bool true)], args := [d] }
  | _ => none }
def lowerWaysRow : OpenClaim := { program := "ytpkgikchphgfaaa", sum := "1020cf739ece884e7b55970a2d3b6d4a9237da219013d5fadcaf29b68c39a24c", func := "keyway/keywaylaw22.LowerWays", spec := "lowerWays", recurses := true, apart := false }
def LowerWaysSaid : Prop := lowerWaysRow.holds Try.pinned (OpenSpec.ofChange lowerWaysSpec)

/-- ITS FALSE NEIGHBOUR: 'it returns false'. Refute it at one input. -/
def lowerWaysWrong : ChangeSpec := { name := "lowerWays", fn := fun _ => fun
  | [d] => { results := [.lit (.bool false)], args := [d] }
  | _ => none }
def LowerWaysWrongFalsely : Prop := lowerWaysRow.holds Try.pinned (OpenSpec.ofChange lowerWaysWrong)

/-- 'keywaylaw38.SemCopies': WHATEVER THE INPUT: true; the input reads as it did. -/
def semCopiesSpec : ChangeSpec := { name := "semCopies", fn := fun _ => fun
  | [d1, d2, d3] => { results := [.lit (.bool true)], args := [d1, d2, d3] }
  | _ => none }
def semCopiesRow : OpenClaim := { program := "ytpkgikchphgfaaa", sum := "1020cf739ece884e7b55970a2d3b6d4a9237da219013d5fadcaf29b68c39a24c", func := "keyway/keywaylaw38.SemCopies", spec := "semCopies", inPlace := ["maps.clone"], unfollowed := true, recurses := true, apart := false }
def SemCopiesSaid : Prop := semCopiesRow.holds Try.pinned (OpenSpec.ofChange semCopiesSpec)

/-- ITS FALSE NEIGHBOUR: 'it returns false'. Refute it at one input. -/
def semCopiesWrong : ChangeSpec := { name := "semCopies", fn := fun _ => fun
  | [d1, d2, d3] => { results := [.lit (.bool false)], args := [d1, d2, d3] }
  | _ => none }
def SemCopiesWrongFalsely : Prop := semCopiesRow.holds Try.pinned (OpenSpec.ofChange semCopiesWrong)

/- THE SECOND FORM. 'bulk': how many values and letters a reading holds, each counted each time it is reached (what is shared counts as often as it is met; a slice's spare places count too). A statement '..UptoSaid' is the law's where the arguments, and the package variables that the reading takes, are together of bulk at most 1048576: NARROWER than '..Said'. Prove '..Said' where nothing that the law and all that it calls make is longer than what came in: it says more and counts as full. Else prove '..UptoSaid'. A law counts once. -/
mutual
def uptoBulk {H : Type} : DataW H → Nat
  | .lit (.string bytes) => bytes.length + 1
  | .lit _ => 1
  | .nil => 1
  | .ptr d => uptoBulk d + 1
  | .slice elems spare => uptoBulkAll elems + uptoBulkAll spare + 1
  | .agg parts => uptoBulkAll parts + 1
  | .iface _ d => uptoBulk d + 1
  | .map entries => uptoBulkEntries entries + 1
  | .held _ => 1
def uptoBulkAll {H : Type} : List (DataW H) → Nat
  | [] => 0
  | d :: r => uptoBulk d + uptoBulkAll r
def uptoBulkEntries {H : Type} : List (Lit × DataW H) → Nat
  | [] => 0
  | x :: r => uptoBulkEntry x + uptoBulkEntries r
def uptoBulkEntry {H : Type} : Lit × DataW H → Nat
  | (.string bytes, d) => bytes.length + uptoBulk d + 1
  | (_, d) => uptoBulk d + 1
 end
def uptoSmall : (H : Type) → List (DataW H) → Bool := fun _ ds => decide (uptoBulkAll ds ≤ 1048576)
def OpenSpec.upto (s : _root_.Go.ChangeSpec) : _root_.Go.OpenSpec := { _root_.Go.OpenSpec.ofChange s with cond := some uptoSmall }

/-- 'keywaylaw24.FlowFinds', WHERE WHAT IT READS IS OF BULK AT MOST 1048576: true; the input reads as it did. -/
def flowFindsUptoRow : OpenClaim := { program := "ytpkgikchphgfaaa", sum := "1020cf739ece884e7b55970a2d3b6d4a9237da219013d5fadcaf29b68c39a24c", func := "keyway/keywaylaw24.FlowFinds", spec := "flowFinds", recurses := true, apart := false, narrowed := true }
def FlowFindsUptoSaid : Prop := flowFindsUptoRow.holds Try.pinned (OpenSpec.upto flowFindsSpec)

/-- 'keywaylaw23.IrcodeSame', WHERE WHAT IT READS IS OF BULK AT MOST 1048576: true; the input reads as it did. -/
def ircodeSameUptoRow : OpenClaim := { program := "ytpkgikchphgfaaa", sum := "1020cf739ece884e7b55970a2d3b6d4a9237da219013d5fadcaf29b68c39a24c", func := "keyway/keywaylaw23.IrcodeSame", spec := "ircodeSame", recurses := true, apart := false, narrowed := true }
def IrcodeSameUptoSaid : Prop := ircodeSameUptoRow.holds Try.pinned (OpenSpec.upto ircodeSameSpec)

/-- 'keywaylaw21.CheckStays', WHERE WHAT IT READS IS OF BULK AT MOST 1048576: true; the input reads as it did. -/
def checkStaysUptoRow : OpenClaim := { program := "ytpkgikchphgfaaa", sum := "1020cf739ece884e7b55970a2d3b6d4a9237da219013d5fadcaf29b68c39a24c", func := "keyway/keywaylaw21.CheckStays", spec := "checkStays", recurses := true, apart := false, narrowed := true }
def CheckStaysUptoSaid : Prop := checkStaysUptoRow.holds Try.pinned (OpenSpec.upto checkStaysSpec)

/-- 'keywaylaw22.LowerMakes', WHERE WHAT IT READS IS OF BULK AT MOST 1048576: true; the input reads as it did. -/
def lowerMakesUptoRow : OpenClaim := { program := "ytpkgikchphgfaaa", sum := "1020cf739ece884e7b55970a2d3b6d4a9237da219013d5fadcaf29b68c39a24c", func := "keyway/keywaylaw22.LowerMakes", spec := "lowerMakes", recurses := true, apart := false, narrowed := true }
def LowerMakesUptoSaid : Prop := lowerMakesUptoRow.holds Try.pinned (OpenSpec.upto lowerMakesSpec)

/-- 'keywaylaw22.LowerWays', WHERE WHAT IT READS IS OF BULK AT MOST 1048576: true; the input reads as it did. -/
def lowerWaysUptoRow : OpenClaim := { program := "ytpkgikchphgfaaa", sum := "1020cf739ece884e7b55970a2d3b6d4a9237da219013d5fadcaf29b68c39a24c", func := "keyway/keywaylaw22.LowerWays", spec := "lowerWays", recurses := true, apart := false, narrowed := true }
def LowerWaysUptoSaid : Prop := lowerWaysUptoRow.holds Try.pinned (OpenSpec.upto lowerWaysSpec)

/-- 'keywaylaw38.SemCopies', WHERE WHAT IT READS IS OF BULK AT MOST 1048576: true; the input reads as it did. -/
def semCopiesUptoRow : OpenClaim := { program := "ytpkgikchphgfaaa", sum := "1020cf739ece884e7b55970a2d3b6d4a9237da219013d5fadcaf29b68c39a24c", func := "keyway/keywaylaw38.SemCopies", spec := "semCopies", inPlace := ["maps.clone"], unfollowed := true, recurses := true, apart := false, narrowed := true }
def SemCopiesUptoSaid : Prop := semCopiesUptoRow.holds Try.pinned (OpenSpec.upto semCopiesSpec)

end Rows
end Go.Proofs.Ytpkgikchphgfaaa
