/- Part of a proof of a law of this seat: see the last text. -/
import Derived.Test.YtdhghfkempgejaaGreatDoorE0
open Go Go.Ab
namespace Go.Proofs.YtdhghfkempgejaaGreatDoor.Q
set_option maxRecDepth 1000000
set_option linter.unusedVariables false
theorem m0 (D : List AV) : isT (restM (Hg.push (.cells 0 0 D [] true)) [0]) = true := by kernel_rfl
theorem m102 (D : List AV) : isT (restM (Hg.push (.cells 0 0 D [] true)) [1, 0, 2]) = true := by kernel_rfl
theorem m0132 (D : List AV) : isT (restM (Hg.push (.cells 0 0 D [] true)) [0, 1, 3, 2]) = true := by kernel_rfl
theorem m1023 (D : List AV) : isT (restM (Hg.push (.cells 0 0 D [] true)) [1, 0, 2, 3]) = true := by kernel_rfl
theorem m1320 (D : List AV) : isT (restM (Hg.push (.cells 0 0 D [] true)) [1, 3, 2, 0]) = true := by kernel_rfl
theorem m2301 (D : List AV) : isT (restM (Hg.push (.cells 0 0 D [] true)) [2, 3, 0, 1]) = true := by kernel_rfl
theorem m3120 (D : List AV) : isT (restM (Hg.push (.cells 0 0 D [] true)) [3, 1, 2, 0]) = true := by kernel_rfl
theorem m01324 (D : List AV) : isT (restM (Hg.push (.cells 0 0 D [] true)) [0, 1, 3, 2, 4]) = true := by kernel_rfl
theorem m02143 (D : List AV) : isT (restM (Hg.push (.cells 0 0 D [] true)) [0, 2, 1, 4, 3]) = true := by kernel_rfl
theorem m03124 (D : List AV) : isT (restM (Hg.push (.cells 0 0 D [] true)) [0, 3, 1, 2, 4]) = true := by kernel_rfl
theorem m03421 (D : List AV) : isT (restM (Hg.push (.cells 0 0 D [] true)) [0, 3, 4, 2, 1]) = true := by kernel_rfl
theorem m04312 (D : List AV) : isT (restM (Hg.push (.cells 0 0 D [] true)) [0, 4, 3, 1, 2]) = true := by kernel_rfl
theorem m10342 (D : List AV) : isT (restM (Hg.push (.cells 0 0 D [] true)) [1, 0, 3, 4, 2]) = true := by kernel_rfl
theorem m12304 (D : List AV) : isT (restM (Hg.push (.cells 0 0 D [] true)) [1, 2, 3, 0, 4]) = true := by kernel_rfl
theorem m13042 (D : List AV) : isT (restM (Hg.push (.cells 0 0 D [] true)) [1, 3, 0, 4, 2]) = true := by kernel_rfl
theorem m14023 (D : List AV) : isT (restM (Hg.push (.cells 0 0 D [] true)) [1, 4, 0, 2, 3]) = true := by kernel_rfl
theorem m14320 (D : List AV) : isT (restM (Hg.push (.cells 0 0 D [] true)) [1, 4, 3, 2, 0]) = true := by kernel_rfl
theorem m20413 (D : List AV) : isT (restM (Hg.push (.cells 0 0 D [] true)) [2, 0, 4, 1, 3]) = true := by kernel_rfl
theorem m21340 (D : List AV) : isT (restM (Hg.push (.cells 0 0 D [] true)) [2, 1, 3, 4, 0]) = true := by kernel_rfl
theorem m23104 (D : List AV) : isT (restM (Hg.push (.cells 0 0 D [] true)) [2, 3, 1, 0, 4]) = true := by kernel_rfl
theorem m24031 (D : List AV) : isT (restM (Hg.push (.cells 0 0 D [] true)) [2, 4, 0, 3, 1]) = true := by kernel_rfl
theorem m30124 (D : List AV) : isT (restM (Hg.push (.cells 0 0 D [] true)) [3, 0, 1, 2, 4]) = true := by kernel_rfl
theorem m30421 (D : List AV) : isT (restM (Hg.push (.cells 0 0 D [] true)) [3, 0, 4, 2, 1]) = true := by kernel_rfl
theorem m31402 (D : List AV) : isT (restM (Hg.push (.cells 0 0 D [] true)) [3, 1, 4, 0, 2]) = true := by kernel_rfl
theorem m32140 (D : List AV) : isT (restM (Hg.push (.cells 0 0 D [] true)) [3, 2, 1, 4, 0]) = true := by kernel_rfl
theorem m34102 (D : List AV) : isT (restM (Hg.push (.cells 0 0 D [] true)) [3, 4, 1, 0, 2]) = true := by kernel_rfl
theorem m40132 (D : List AV) : isT (restM (Hg.push (.cells 0 0 D [] true)) [4, 0, 1, 3, 2]) = true := by kernel_rfl
theorem m41023 (D : List AV) : isT (restM (Hg.push (.cells 0 0 D [] true)) [4, 1, 0, 2, 3]) = true := by kernel_rfl
theorem m41320 (D : List AV) : isT (restM (Hg.push (.cells 0 0 D [] true)) [4, 1, 3, 2, 0]) = true := by kernel_rfl
theorem m42301 (D : List AV) : isT (restM (Hg.push (.cells 0 0 D [] true)) [4, 2, 3, 0, 1]) = true := by kernel_rfl
theorem m43120 (D : List AV) : isT (restM (Hg.push (.cells 0 0 D [] true)) [4, 3, 1, 2, 0]) = true := by kernel_rfl
end Go.Proofs.YtdhghfkempgejaaGreatDoor.Q

open Go Go.Ab
namespace Go.Proofs.YtdhghfkempgejaaGreatDoor.Q
set_option maxRecDepth 1000000
set_option linter.unusedVariables false
theorem m01 (D : List AV) : isT (restM (Hg.push (.cells 0 0 D [] true)) [0, 1]) = true := by kernel_rfl
theorem m120 (D : List AV) : isT (restM (Hg.push (.cells 0 0 D [] true)) [1, 2, 0]) = true := by kernel_rfl
theorem m0213 (D : List AV) : isT (restM (Hg.push (.cells 0 0 D [] true)) [0, 2, 1, 3]) = true := by kernel_rfl
theorem m1032 (D : List AV) : isT (restM (Hg.push (.cells 0 0 D [] true)) [1, 0, 3, 2]) = true := by kernel_rfl
theorem m2013 (D : List AV) : isT (restM (Hg.push (.cells 0 0 D [] true)) [2, 0, 1, 3]) = true := by kernel_rfl
theorem m2310 (D : List AV) : isT (restM (Hg.push (.cells 0 0 D [] true)) [2, 3, 1, 0]) = true := by kernel_rfl
theorem m3201 (D : List AV) : isT (restM (Hg.push (.cells 0 0 D [] true)) [3, 2, 0, 1]) = true := by kernel_rfl
theorem m01342 (D : List AV) : isT (restM (Hg.push (.cells 0 0 D [] true)) [0, 1, 3, 4, 2]) = true := by kernel_rfl
theorem m02314 (D : List AV) : isT (restM (Hg.push (.cells 0 0 D [] true)) [0, 2, 3, 1, 4]) = true := by kernel_rfl
theorem m03142 (D : List AV) : isT (restM (Hg.push (.cells 0 0 D [] true)) [0, 3, 1, 4, 2]) = true := by kernel_rfl
theorem m04123 (D : List AV) : isT (restM (Hg.push (.cells 0 0 D [] true)) [0, 4, 1, 2, 3]) = true := by kernel_rfl
theorem m04321 (D : List AV) : isT (restM (Hg.push (.cells 0 0 D [] true)) [0, 4, 3, 2, 1]) = true := by kernel_rfl
theorem m10423 (D : List AV) : isT (restM (Hg.push (.cells 0 0 D [] true)) [1, 0, 4, 2, 3]) = true := by kernel_rfl
theorem m12340 (D : List AV) : isT (restM (Hg.push (.cells 0 0 D [] true)) [1, 2, 3, 4, 0]) = true := by kernel_rfl
theorem m13204 (D : List AV) : isT (restM (Hg.push (.cells 0 0 D [] true)) [1, 3, 2, 0, 4]) = true := by kernel_rfl
theorem m14032 (D : List AV) : isT (restM (Hg.push (.cells 0 0 D [] true)) [1, 4, 0, 3, 2]) = true := by kernel_rfl
theorem m20134 (D : List AV) : isT (restM (Hg.push (.cells 0 0 D [] true)) [2, 0, 1, 3, 4]) = true := by kernel_rfl
theorem m20431 (D : List AV) : isT (restM (Hg.push (.cells 0 0 D [] true)) [2, 0, 4, 3, 1]) = true := by kernel_rfl
theorem m21403 (D : List AV) : isT (restM (Hg.push (.cells 0 0 D [] true)) [2, 1, 4, 0, 3]) = true := by kernel_rfl
theorem m23140 (D : List AV) : isT (restM (Hg.push (.cells 0 0 D [] true)) [2, 3, 1, 4, 0]) = true := by kernel_rfl
theorem m24103 (D : List AV) : isT (restM (Hg.push (.cells 0 0 D [] true)) [2, 4, 1, 0, 3]) = true := by kernel_rfl
theorem m30142 (D : List AV) : isT (restM (Hg.push (.cells 0 0 D [] true)) [3, 0, 1, 4, 2]) = true := by kernel_rfl
theorem m31024 (D : List AV) : isT (restM (Hg.push (.cells 0 0 D [] true)) [3, 1, 0, 2, 4]) = true := by kernel_rfl
theorem m31420 (D : List AV) : isT (restM (Hg.push (.cells 0 0 D [] true)) [3, 1, 4, 2, 0]) = true := by kernel_rfl
theorem m32401 (D : List AV) : isT (restM (Hg.push (.cells 0 0 D [] true)) [3, 2, 4, 0, 1]) = true := by kernel_rfl
theorem m34120 (D : List AV) : isT (restM (Hg.push (.cells 0 0 D [] true)) [3, 4, 1, 2, 0]) = true := by kernel_rfl
theorem m40213 (D : List AV) : isT (restM (Hg.push (.cells 0 0 D [] true)) [4, 0, 2, 1, 3]) = true := by kernel_rfl
theorem m41032 (D : List AV) : isT (restM (Hg.push (.cells 0 0 D [] true)) [4, 1, 0, 3, 2]) = true := by kernel_rfl
theorem m42013 (D : List AV) : isT (restM (Hg.push (.cells 0 0 D [] true)) [4, 2, 0, 1, 3]) = true := by kernel_rfl
theorem m42310 (D : List AV) : isT (restM (Hg.push (.cells 0 0 D [] true)) [4, 2, 3, 1, 0]) = true := by kernel_rfl
theorem m43201 (D : List AV) : isT (restM (Hg.push (.cells 0 0 D [] true)) [4, 3, 2, 0, 1]) = true := by kernel_rfl
end Go.Proofs.YtdhghfkempgejaaGreatDoor.Q

open Go Go.Ab
namespace Go.Proofs.YtdhghfkempgejaaGreatDoor.Q
set_option maxRecDepth 1000000
set_option linter.unusedVariables false
theorem m10 (D : List AV) : isT (restM (Hg.push (.cells 0 0 D [] true)) [1, 0]) = true := by kernel_rfl
theorem m201 (D : List AV) : isT (restM (Hg.push (.cells 0 0 D [] true)) [2, 0, 1]) = true := by kernel_rfl
theorem m0231 (D : List AV) : isT (restM (Hg.push (.cells 0 0 D [] true)) [0, 2, 3, 1]) = true := by kernel_rfl
theorem m1203 (D : List AV) : isT (restM (Hg.push (.cells 0 0 D [] true)) [1, 2, 0, 3]) = true := by kernel_rfl
theorem m2031 (D : List AV) : isT (restM (Hg.push (.cells 0 0 D [] true)) [2, 0, 3, 1]) = true := by kernel_rfl
theorem m3012 (D : List AV) : isT (restM (Hg.push (.cells 0 0 D [] true)) [3, 0, 1, 2]) = true := by kernel_rfl
theorem m3210 (D : List AV) : isT (restM (Hg.push (.cells 0 0 D [] true)) [3, 2, 1, 0]) = true := by kernel_rfl
theorem m01423 (D : List AV) : isT (restM (Hg.push (.cells 0 0 D [] true)) [0, 1, 4, 2, 3]) = true := by kernel_rfl
theorem m02341 (D : List AV) : isT (restM (Hg.push (.cells 0 0 D [] true)) [0, 2, 3, 4, 1]) = true := by kernel_rfl
theorem m03214 (D : List AV) : isT (restM (Hg.push (.cells 0 0 D [] true)) [0, 3, 2, 1, 4]) = true := by kernel_rfl
theorem m04132 (D : List AV) : isT (restM (Hg.push (.cells 0 0 D [] true)) [0, 4, 1, 3, 2]) = true := by kernel_rfl
theorem m10234 (D : List AV) : isT (restM (Hg.push (.cells 0 0 D [] true)) [1, 0, 2, 3, 4]) = true := by kernel_rfl
theorem m10432 (D : List AV) : isT (restM (Hg.push (.cells 0 0 D [] true)) [1, 0, 4, 3, 2]) = true := by kernel_rfl
theorem m12403 (D : List AV) : isT (restM (Hg.push (.cells 0 0 D [] true)) [1, 2, 4, 0, 3]) = true := by kernel_rfl
theorem m13240 (D : List AV) : isT (restM (Hg.push (.cells 0 0 D [] true)) [1, 3, 2, 4, 0]) = true := by kernel_rfl
theorem m14203 (D : List AV) : isT (restM (Hg.push (.cells 0 0 D [] true)) [1, 4, 2, 0, 3]) = true := by kernel_rfl
theorem m20143 (D : List AV) : isT (restM (Hg.push (.cells 0 0 D [] true)) [2, 0, 1, 4, 3]) = true := by kernel_rfl
theorem m21034 (D : List AV) : isT (restM (Hg.push (.cells 0 0 D [] true)) [2, 1, 0, 3, 4]) = true := by kernel_rfl
theorem m21430 (D : List AV) : isT (restM (Hg.push (.cells 0 0 D [] true)) [2, 1, 4, 3, 0]) = true := by kernel_rfl
theorem m23401 (D : List AV) : isT (restM (Hg.push (.cells 0 0 D [] true)) [2, 3, 4, 0, 1]) = true := by kernel_rfl
theorem m24130 (D : List AV) : isT (restM (Hg.push (.cells 0 0 D [] true)) [2, 4, 1, 3, 0]) = true := by kernel_rfl
theorem m30214 (D : List AV) : isT (restM (Hg.push (.cells 0 0 D [] true)) [3, 0, 2, 1, 4]) = true := by kernel_rfl
theorem m31042 (D : List AV) : isT (restM (Hg.push (.cells 0 0 D [] true)) [3, 1, 0, 4, 2]) = true := by kernel_rfl
theorem m32014 (D : List AV) : isT (restM (Hg.push (.cells 0 0 D [] true)) [3, 2, 0, 1, 4]) = true := by kernel_rfl
theorem m32410 (D : List AV) : isT (restM (Hg.push (.cells 0 0 D [] true)) [3, 2, 4, 1, 0]) = true := by kernel_rfl
theorem m34201 (D : List AV) : isT (restM (Hg.push (.cells 0 0 D [] true)) [3, 4, 2, 0, 1]) = true := by kernel_rfl
theorem m40231 (D : List AV) : isT (restM (Hg.push (.cells 0 0 D [] true)) [4, 0, 2, 3, 1]) = true := by kernel_rfl
theorem m41203 (D : List AV) : isT (restM (Hg.push (.cells 0 0 D [] true)) [4, 1, 2, 0, 3]) = true := by kernel_rfl
theorem m42031 (D : List AV) : isT (restM (Hg.push (.cells 0 0 D [] true)) [4, 2, 0, 3, 1]) = true := by kernel_rfl
theorem m43012 (D : List AV) : isT (restM (Hg.push (.cells 0 0 D [] true)) [4, 3, 0, 1, 2]) = true := by kernel_rfl
theorem m43210 (D : List AV) : isT (restM (Hg.push (.cells 0 0 D [] true)) [4, 3, 2, 1, 0]) = true := by kernel_rfl
end Go.Proofs.YtdhghfkempgejaaGreatDoor.Q
