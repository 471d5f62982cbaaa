/- Texts of this claim, put together: part 18. -/
import Derived.Test.YtpkgikchphgfaaaMwQ
/- Programs as bytes: the same? -/
namespace Go.Proofs.Ytpkgikchphgfaaa.Ic
open Go Go.RowKit Go.Proofs.Ytpkgikchphgfaaa.Eng Go.Proofs.Ytpkgikchphgfaaa.Fl
set_option linter.unusedVariables false
set_option linter.unusedSimpArgs false
set_option maxRecDepth 20000
def Ic : FuncId → Option (Spc U)
  | 13 => some sInts
  | 40 => some sPut
  | _ => none
def Pre20a (a b : IRs) (v : Int) : Prop := Sm a.Fs.length ∧ (∀ z ∈ a.Fs, Sn z.Params.length) ∧ a.Fs.length = b.Fs.length ∧ v = 0
instance (a b : IRs) (v : Int) : Decidable (Pre20a a b v) := by unfold Pre20a; infer_instance
def Pre20b (a b : IRs) (v : Int) : Prop := Sm a.C.length ∧ (∀ z ∈ a.C, Sn z.Args.length) ∧ a.C.length = b.C.length ∧ v = 0
instance (a b : IRs) (v : Int) : Decidable (Pre20b a b v) := by unfold Pre20b; infer_instance
deriving instance DecidableEq for IRs
def SameOk (a : IRs) : Prop := (Sn a.G.length ∧ Sn a.F.length ∧ Sn a.V.length) ∧ (Sm a.Fs.length ∧ Sm a.C.length) ∧ (∀ z ∈ a.Fs, Sn z.Params.length) ∧ ∀ z ∈ a.C, Sn z.Args.length
instance (a : IRs) : Decidable (SameOk a) := by unfold SameOk; infer_instance
end Go.Proofs.Ytpkgikchphgfaaa.Ic
