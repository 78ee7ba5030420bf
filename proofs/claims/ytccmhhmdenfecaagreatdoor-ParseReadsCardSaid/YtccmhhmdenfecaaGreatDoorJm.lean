/- What Parse makes of the texts of accordionlaw11.works: written by wip/gen/jm.py. -/
import Derived.Test.YtccmhhmdenfecaaGreatDoorJl
import Derived.Test.YtccmhhmdenfecaaGreatDoorDs
namespace Go.Proofs.YtccmhhmdenfecaaGreatDoor
set_option linter.unusedVariables false
set_option linter.unusedSimpArgs false
theorem ps_0 : parM [123, 34, 98, 34, 58, 32, 91, 49, 44, 32, 45, 50, 93, 44, 32, 34, 97, 34, 58, 32, 34, 120, 34, 125] = (.mk 17 0 0 [] [[98], [97]] [.mk 10 0 0 [] [] [.mk 3 1 0 [] [] [], .mk 3 (-2) 0 [] [] []], .mk 6 0 0 [120] [] []], 0, 0) := by kernel_rfl
theorem ps_1 : parM [49, 56, 52, 52, 54, 55, 52, 52, 48, 55, 51, 55, 48, 57, 53, 53, 49, 54, 49, 53] = (.mk 4 0 18446744073709551615 [] [] [], 0, 0) := by kernel_rfl
theorem ps_2 : parM [110, 117, 108, 108] = (.mk 1 0 0 [] [] [], 0, 0) := by kernel_rfl
theorem ps_3 : parM [91, 93] = (.mk 10 0 0 [] [] [], 0, 0) := by kernel_rfl
theorem ps_4 : parM [123, 125] = (.mk 17 0 0 [] [] [], 0, 0) := by kernel_rfl
theorem pf_0 : parM [91, 49, 44, 93] = (zeroD, 3, 100) := by kernel_rfl
theorem pf_1 : parM [91, 49, 32, 50, 93] = (zeroD, 3, 100) := by kernel_rfl
theorem pf_2 : parM [123, 34, 97, 34, 32, 49, 125] = (zeroD, 5, 100) := by kernel_rfl
theorem pf_3 : parM [123, 34, 97, 34, 58, 49, 44, 125] = (zeroD, 7, 100) := by kernel_rfl
theorem pf_4 : parM [] = (zeroD, 0, 100) := by kernel_rfl
theorem pf_5 : parM [49, 32, 50] = (zeroD, 2, 100) := by kernel_rfl
theorem pf_6 : parM [123, 49, 58, 50, 125] = (zeroD, 1, 100) := by kernel_rfl
theorem pf_7 : parM [123, 34, 97, 34, 58, 49, 44, 34, 97, 34, 58, 50, 125] = (zeroD, 7, 71) := by kernel_rfl
theorem pf_8 : parM [123, 34, 92, 117, 48, 48, 48, 48, 34, 58, 49, 125] = (zeroD, 1, 70) := by kernel_rfl
theorem pf_9 : parM [91, 49, 46, 53, 93] = (zeroD, 1, 101) := by kernel_rfl
theorem pf_10 : parM [91, 34, 92, 120, 34, 93] = (zeroD, 3, 41) := by kernel_rfl
def nest : Nat → DT
  | 0 => .mk 10 0 0 [] [] []
  | n + 1 => .mk 10 0 0 [] [] [nest n]
theorem ps_64 : parM (List.replicate 64 91 ++ List.replicate 64 93) = (nest 63, 0, 0) := by kernel_rfl
theorem pf_65 : parM (List.replicate 65 91 ++ List.replicate 65 93) = (zeroD, 64, 61) := by kernel_rfl
theorem nest_deep : depthD (nest 63) = 64 := by kernel_rfl
theorem nest_size : sizeD (nest 63) ≤ 1073741824 := by decide +kernel
end Go.Proofs.YtccmhhmdenfecaaGreatDoor
