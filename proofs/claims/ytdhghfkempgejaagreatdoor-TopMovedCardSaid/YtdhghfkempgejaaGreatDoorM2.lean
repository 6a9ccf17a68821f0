/- Part of a proof of a law of this seat: see the last text. -/
import Derived.Test.YtdhghfkempgejaaGreatDoorE0
open Go Go.Ab
namespace Go.Proofs.YtdhghfkempgejaaGreatDoor.Q
set_option maxRecDepth 1000000
set_option linter.unusedVariables false
theorem m012 (D : List AV) : isT (restM (Hg.push (.cells 0 0 D [] true)) [0, 1, 2]) = true := by kernel_rfl
theorem m210 (D : List AV) : isT (restM (Hg.push (.cells 0 0 D [] true)) [2, 1, 0]) = true := by kernel_rfl
theorem m0312 (D : List AV) : isT (restM (Hg.push (.cells 0 0 D [] true)) [0, 3, 1, 2]) = true := by kernel_rfl
theorem m1230 (D : List AV) : isT (restM (Hg.push (.cells 0 0 D [] true)) [1, 2, 3, 0]) = true := by kernel_rfl
theorem m2103 (D : List AV) : isT (restM (Hg.push (.cells 0 0 D [] true)) [2, 1, 0, 3]) = true := by kernel_rfl
theorem m3021 (D : List AV) : isT (restM (Hg.push (.cells 0 0 D [] true)) [3, 0, 2, 1]) = true := by kernel_rfl
theorem m01234 (D : List AV) : isT (restM (Hg.push (.cells 0 0 D [] true)) [0, 1, 2, 3, 4]) = true := by kernel_rfl
theorem m01432 (D : List AV) : isT (restM (Hg.push (.cells 0 0 D [] true)) [0, 1, 4, 3, 2]) = true := by kernel_rfl
theorem m02413 (D : List AV) : isT (restM (Hg.push (.cells 0 0 D [] true)) [0, 2, 4, 1, 3]) = true := by kernel_rfl
theorem m03241 (D : List AV) : isT (restM (Hg.push (.cells 0 0 D [] true)) [0, 3, 2, 4, 1]) = true := by kernel_rfl
theorem m04213 (D : List AV) : isT (restM (Hg.push (.cells 0 0 D [] true)) [0, 4, 2, 1, 3]) = true := by kernel_rfl
theorem m10243 (D : List AV) : isT (restM (Hg.push (.cells 0 0 D [] true)) [1, 0, 2, 4, 3]) = true := by kernel_rfl
theorem m12034 (D : List AV) : isT (restM (Hg.push (.cells 0 0 D [] true)) [1, 2, 0, 3, 4]) = true := by kernel_rfl
theorem m12430 (D : List AV) : isT (restM (Hg.push (.cells 0 0 D [] true)) [1, 2, 4, 3, 0]) = true := by kernel_rfl
theorem m13402 (D : List AV) : isT (restM (Hg.push (.cells 0 0 D [] true)) [1, 3, 4, 0, 2]) = true := by kernel_rfl
theorem m14230 (D : List AV) : isT (restM (Hg.push (.cells 0 0 D [] true)) [1, 4, 2, 3, 0]) = true := by kernel_rfl
theorem m20314 (D : List AV) : isT (restM (Hg.push (.cells 0 0 D [] true)) [2, 0, 3, 1, 4]) = true := by kernel_rfl
theorem m21043 (D : List AV) : isT (restM (Hg.push (.cells 0 0 D [] true)) [2, 1, 0, 4, 3]) = true := by kernel_rfl
theorem m23014 (D : List AV) : isT (restM (Hg.push (.cells 0 0 D [] true)) [2, 3, 0, 1, 4]) = true := by kernel_rfl
theorem m23410 (D : List AV) : isT (restM (Hg.push (.cells 0 0 D [] true)) [2, 3, 4, 1, 0]) = true := by kernel_rfl
theorem m24301 (D : List AV) : isT (restM (Hg.push (.cells 0 0 D [] true)) [2, 4, 3, 0, 1]) = true := by kernel_rfl
theorem m30241 (D : List AV) : isT (restM (Hg.push (.cells 0 0 D [] true)) [3, 0, 2, 4, 1]) = true := by kernel_rfl
theorem m31204 (D : List AV) : isT (restM (Hg.push (.cells 0 0 D [] true)) [3, 1, 2, 0, 4]) = true := by kernel_rfl
theorem m32041 (D : List AV) : isT (restM (Hg.push (.cells 0 0 D [] true)) [3, 2, 0, 4, 1]) = true := by kernel_rfl
theorem m34012 (D : List AV) : isT (restM (Hg.push (.cells 0 0 D [] true)) [3, 4, 0, 1, 2]) = true := by kernel_rfl
theorem m34210 (D : List AV) : isT (restM (Hg.push (.cells 0 0 D [] true)) [3, 4, 2, 1, 0]) = true := by kernel_rfl
theorem m40312 (D : List AV) : isT (restM (Hg.push (.cells 0 0 D [] true)) [4, 0, 3, 1, 2]) = true := by kernel_rfl
theorem m41230 (D : List AV) : isT (restM (Hg.push (.cells 0 0 D [] true)) [4, 1, 2, 3, 0]) = true := by kernel_rfl
theorem m42103 (D : List AV) : isT (restM (Hg.push (.cells 0 0 D [] true)) [4, 2, 1, 0, 3]) = true := by kernel_rfl
theorem m43021 (D : List AV) : isT (restM (Hg.push (.cells 0 0 D [] true)) [4, 3, 0, 2, 1]) = true := by kernel_rfl
end Go.Proofs.YtdhghfkempgejaaGreatDoor.Q

open Go Go.Ab
namespace Go.Proofs.YtdhghfkempgejaaGreatDoor.Q
set_option maxRecDepth 1000000
set_option linter.unusedVariables false
theorem m021 (D : List AV) : isT (restM (Hg.push (.cells 0 0 D [] true)) [0, 2, 1]) = true := by kernel_rfl
theorem m0123 (D : List AV) : isT (restM (Hg.push (.cells 0 0 D [] true)) [0, 1, 2, 3]) = true := by kernel_rfl
theorem m0321 (D : List AV) : isT (restM (Hg.push (.cells 0 0 D [] true)) [0, 3, 2, 1]) = true := by kernel_rfl
theorem m1302 (D : List AV) : isT (restM (Hg.push (.cells 0 0 D [] true)) [1, 3, 0, 2]) = true := by kernel_rfl
theorem m2130 (D : List AV) : isT (restM (Hg.push (.cells 0 0 D [] true)) [2, 1, 3, 0]) = true := by kernel_rfl
theorem m3102 (D : List AV) : isT (restM (Hg.push (.cells 0 0 D [] true)) [3, 1, 0, 2]) = true := by kernel_rfl
theorem m01243 (D : List AV) : isT (restM (Hg.push (.cells 0 0 D [] true)) [0, 1, 2, 4, 3]) = true := by kernel_rfl
theorem m02134 (D : List AV) : isT (restM (Hg.push (.cells 0 0 D [] true)) [0, 2, 1, 3, 4]) = true := by kernel_rfl
theorem m02431 (D : List AV) : isT (restM (Hg.push (.cells 0 0 D [] true)) [0, 2, 4, 3, 1]) = true := by kernel_rfl
theorem m03412 (D : List AV) : isT (restM (Hg.push (.cells 0 0 D [] true)) [0, 3, 4, 1, 2]) = true := by kernel_rfl
theorem m04231 (D : List AV) : isT (restM (Hg.push (.cells 0 0 D [] true)) [0, 4, 2, 3, 1]) = true := by kernel_rfl
theorem m10324 (D : List AV) : isT (restM (Hg.push (.cells 0 0 D [] true)) [1, 0, 3, 2, 4]) = true := by kernel_rfl
theorem m12043 (D : List AV) : isT (restM (Hg.push (.cells 0 0 D [] true)) [1, 2, 0, 4, 3]) = true := by kernel_rfl
theorem m13024 (D : List AV) : isT (restM (Hg.push (.cells 0 0 D [] true)) [1, 3, 0, 2, 4]) = true := by kernel_rfl
theorem m13420 (D : List AV) : isT (restM (Hg.push (.cells 0 0 D [] true)) [1, 3, 4, 2, 0]) = true := by kernel_rfl
theorem m14302 (D : List AV) : isT (restM (Hg.push (.cells 0 0 D [] true)) [1, 4, 3, 0, 2]) = true := by kernel_rfl
theorem m20341 (D : List AV) : isT (restM (Hg.push (.cells 0 0 D [] true)) [2, 0, 3, 4, 1]) = true := by kernel_rfl
theorem m21304 (D : List AV) : isT (restM (Hg.push (.cells 0 0 D [] true)) [2, 1, 3, 0, 4]) = true := by kernel_rfl
theorem m23041 (D : List AV) : isT (restM (Hg.push (.cells 0 0 D [] true)) [2, 3, 0, 4, 1]) = true := by kernel_rfl
theorem m24013 (D : List AV) : isT (restM (Hg.push (.cells 0 0 D [] true)) [2, 4, 0, 1, 3]) = true := by kernel_rfl
theorem m24310 (D : List AV) : isT (restM (Hg.push (.cells 0 0 D [] true)) [2, 4, 3, 1, 0]) = true := by kernel_rfl
theorem m30412 (D : List AV) : isT (restM (Hg.push (.cells 0 0 D [] true)) [3, 0, 4, 1, 2]) = true := by kernel_rfl
theorem m31240 (D : List AV) : isT (restM (Hg.push (.cells 0 0 D [] true)) [3, 1, 2, 4, 0]) = true := by kernel_rfl
theorem m32104 (D : List AV) : isT (restM (Hg.push (.cells 0 0 D [] true)) [3, 2, 1, 0, 4]) = true := by kernel_rfl
theorem m34021 (D : List AV) : isT (restM (Hg.push (.cells 0 0 D [] true)) [3, 4, 0, 2, 1]) = true := by kernel_rfl
theorem m40123 (D : List AV) : isT (restM (Hg.push (.cells 0 0 D [] true)) [4, 0, 1, 2, 3]) = true := by kernel_rfl
theorem m40321 (D : List AV) : isT (restM (Hg.push (.cells 0 0 D [] true)) [4, 0, 3, 2, 1]) = true := by kernel_rfl
theorem m41302 (D : List AV) : isT (restM (Hg.push (.cells 0 0 D [] true)) [4, 1, 3, 0, 2]) = true := by kernel_rfl
theorem m42130 (D : List AV) : isT (restM (Hg.push (.cells 0 0 D [] true)) [4, 2, 1, 3, 0]) = true := by kernel_rfl
theorem m43102 (D : List AV) : isT (restM (Hg.push (.cells 0 0 D [] true)) [4, 3, 1, 0, 2]) = true := by kernel_rfl
end Go.Proofs.YtdhghfkempgejaaGreatDoor.Q

open Go Go.Ab
namespace Go.Proofs.YtdhghfkempgejaaGreatDoor.Q
set_option maxRecDepth 1000000
set_option linter.unusedVariables false
theorem z1 : isT (restM Hg [0]) = true := by kernel_rfl
theorem z2 : isT (restM Hg [0, 1]) = true := by kernel_rfl
theorem z3 : isT (restM Hg [0, 1, 2]) = true := by kernel_rfl
theorem z4 : isT (restM Hg [0, 1, 2, 3]) = true := by kernel_rfl
theorem z5 : isT (restM Hg [0, 1, 2, 3, 4]) = true := by kernel_rfl
end Go.Proofs.YtdhghfkempgejaaGreatDoor.Q
