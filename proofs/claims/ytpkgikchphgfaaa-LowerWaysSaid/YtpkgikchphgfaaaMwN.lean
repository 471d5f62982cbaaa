/- Texts of this claim, put together: part 14. -/
import Derived.Test.YtpkgikchphgfaaaMwJ
/- The references' instructions: of a program, its end. -/
namespace Go.Proofs.Ytpkgikchphgfaaa.Fl
open Go Go.RowKit Go.Proofs.Ytpkgikchphgfaaa.Eng
set_option linter.unusedVariables false
set_option linter.unusedSimpArgs false
set_option maxRecDepth 20000
end Go.Proofs.Ytpkgikchphgfaaa.Fl
