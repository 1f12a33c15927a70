/-
  The anchor of layer 8 holds.
-/
import Derived.Test.YtepgblhhajdmoaaWorks7
set_option linter.unusedVariables false
namespace Go.Proofs.Ytepgblhhajdmoaa
open Go Go.Proofs.Ytepgblhhajdmoaa.Eng
theorem works8 : G 34 [] (.d (.bool true)) := works_of (n := 600) (by kernel_rfl)
end Go.Proofs.Ytepgblhhajdmoaa
