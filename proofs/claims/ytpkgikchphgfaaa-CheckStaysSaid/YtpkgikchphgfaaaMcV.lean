/- Texts of this claim, put together: part 22. -/
import Derived.Test.YtpkgikchphgfaaaMcU
/- The program's parser and checks say something of two small programs. -/
namespace Go.Proofs.Ytpkgikchphgfaaa.Ck
open Go Go.RowKit Go.Proofs.Ytpkgikchphgfaaa.Eng Go.Proofs.Ytpkgikchphgfaaa.Fl
set_option linter.unusedVariables false
set_option linter.unusedSimpArgs false
set_option maxRecDepth 20000
set_option maxHeartbeats 0 in
theorem e24 : evFn X (runE X rE0 fsP 60 3 20) an0 lp0 Try.f24 [] [] (fun o v => some (o, v)) = some ([], .v (.bool true)) := by kernel_rfl
theorem sAwake24_ok : SpecOk Try.prog 24 sAwake := by
  refine fn_ok X_ok mixed (runE_ok (N := 60) (k := 3) X_ok mixed rE0_ok fsP_ok 20) an0 lp0 Try.func24 (by kernel_rfl) (by kernel_rfl) (lp0_ok (by kernel_rfl)) fun objs args x hx hp => ?_
  obtain ⟨rfl, rfl⟩ := d0_ok hx
  exact e24
end Go.Proofs.Ytpkgikchphgfaaa.Ck

