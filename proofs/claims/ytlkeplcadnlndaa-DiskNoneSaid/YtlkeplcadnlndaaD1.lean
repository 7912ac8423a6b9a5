/- Closed runs of the disk's laws, by the kernel. Conditions: none. -/
import Derived.Test.YtlkeplcadnlndaaS3
set_option linter.unusedSimpArgs false
set_option linter.unusedVariables false
set_option autoImplicit false
namespace Go.Ab
open Go.Proofs
def isTrue (r : Rs) : Bool := match r with | some (.bool true, _) => true | _ => false
set_option maxRecDepth 1000000 in
theorem begun3 : isTrue (G9 [] .empty) = true := by kernel_rfl
set_option maxRecDepth 1000000 in
theorem none3 : isTrue (G4 [] .empty) = true := by kernel_rfl
end Go.Ab
