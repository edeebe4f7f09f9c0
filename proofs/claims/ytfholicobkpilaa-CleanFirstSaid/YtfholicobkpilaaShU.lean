/- The shallow forms of functions, printed by shal.py. -/
import Derived.Test.YtfholicobkpilaaSlCode
import Derived.Test.YtfholicobkpilaaProg
import Derived.KernelRfl
namespace Go.Proofs.Ytfholicobkpilaa.Sh
open Go Go.SL Go.Proofs
set_option linter.unusedVariables false
set_option maxRecDepth 100000
/-- cmp.isNaN[int] -/
def a95 : Ann := .seq (.z) (.seq (.z) (.z))
def s95 (x_0 : Value) (K : Value → WT) : WT :=
  S.bin .neq x_0 x_0 fun v5 =>
  K v5
theorem e95 (x_0 : Value) (K : Value → WT) : s95 x_0 K = shal Try.prog Try.f95 .p a95 [x_0] K := by kernel_rfl
theorem c95 {x_0 : Value} {K : Value → WT} {w : World} (h : s95 x_0 K w) : CF Try.prog 95 [x_0] K w := shal_sound Try.func95 (e95 x_0 K ▸ h)

end Go.Proofs.Ytfholicobkpilaa.Sh
