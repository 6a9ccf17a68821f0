/- Part of a proof of a law of this seat: see the last text. -/
import Derived.Test.YtjcmbghmmdakgaaDoorE
open Go Go.Ab
namespace Go.Proofs.YtjcmbghmmdakgaaDoor.Q
set_option maxRecDepth 1000000
set_option linter.unusedVariables false
theorem w00 : isT (F1 4 [.int .u8 0, .int .u8 0] Hg) = true := by kernel_rfl
theorem w01 : isT (F1 4 [.int .u8 0, .int .u8 1] Hg) = true := by kernel_rfl
theorem w02 : isT (F1 4 [.int .u8 0, .int .u8 2] Hg) = true := by kernel_rfl
theorem w03 : isT (F1 4 [.int .u8 0, .int .u8 3] Hg) = true := by kernel_rfl
theorem w10 : isT (F1 4 [.int .u8 1, .int .u8 0] Hg) = true := by kernel_rfl
theorem w11 : isT (F1 4 [.int .u8 1, .int .u8 1] Hg) = true := by kernel_rfl
theorem w12 : isT (F1 4 [.int .u8 1, .int .u8 2] Hg) = true := by kernel_rfl
theorem w13 : isT (F1 4 [.int .u8 1, .int .u8 3] Hg) = true := by kernel_rfl
theorem w20 : isT (F1 4 [.int .u8 2, .int .u8 0] Hg) = true := by kernel_rfl
theorem w21 : isT (F1 4 [.int .u8 2, .int .u8 1] Hg) = true := by kernel_rfl
theorem w22 : isT (F1 4 [.int .u8 2, .int .u8 2] Hg) = true := by kernel_rfl
theorem w23 : isT (F1 4 [.int .u8 2, .int .u8 3] Hg) = true := by kernel_rfl
theorem w30 : isT (F1 4 [.int .u8 3, .int .u8 0] Hg) = true := by kernel_rfl
theorem w31 : isT (F1 4 [.int .u8 3, .int .u8 1] Hg) = true := by kernel_rfl
theorem w32 : isT (F1 4 [.int .u8 3, .int .u8 2] Hg) = true := by kernel_rfl
theorem w33 : isT (F1 4 [.int .u8 3, .int .u8 3] Hg) = true := by kernel_rfl
theorem w40 : isT (F1 4 [.int .u8 4, .int .u8 0] Hg) = true := by kernel_rfl
theorem w41 : isT (F1 4 [.int .u8 4, .int .u8 1] Hg) = true := by kernel_rfl
theorem w42 : isT (F1 4 [.int .u8 4, .int .u8 2] Hg) = true := by kernel_rfl
theorem w43 : isT (F1 4 [.int .u8 4, .int .u8 3] Hg) = true := by kernel_rfl
end Go.Proofs.YtjcmbghmmdakgaaDoor.Q
