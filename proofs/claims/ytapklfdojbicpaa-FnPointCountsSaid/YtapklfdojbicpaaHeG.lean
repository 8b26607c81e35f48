/-
  How many matrices over the doubling by 2 are points: counted by the kernel in 27 parts.
-/
import Derived.Test.YtapklfdojbicpaaHeE
namespace Go.Proofs.Ytapklfdojbicpaa

theorem cp2_0 : cntT (ptN [2] 2) 6 0 = 26 := by decide +kernel
theorem cp2_1 : cntT (ptN [2] 2) 6 1 = 6 := by decide +kernel
theorem cp2_2 : cntT (ptN [2] 2) 6 2 = 6 := by decide +kernel
theorem cp2_3 : cntT (ptN [2] 2) 6 3 = 6 := by decide +kernel
theorem cp2_4 : cntT (ptN [2] 2) 6 4 = 6 := by decide +kernel
theorem cp2_5 : cntT (ptN [2] 2) 6 5 = 6 := by decide +kernel
theorem cp2_6 : cntT (ptN [2] 2) 6 6 = 6 := by decide +kernel
theorem cp2_7 : cntT (ptN [2] 2) 6 7 = 6 := by decide +kernel
theorem cp2_8 : cntT (ptN [2] 2) 6 8 = 6 := by decide +kernel
theorem cp2_9 : cntT (ptN [2] 2) 6 9 = 6 := by decide +kernel
theorem cp2_10 : cntT (ptN [2] 2) 6 10 = 6 := by decide +kernel
theorem cp2_11 : cntT (ptN [2] 2) 6 11 = 6 := by decide +kernel
theorem cp2_12 : cntT (ptN [2] 2) 6 12 = 6 := by decide +kernel
theorem cp2_13 : cntT (ptN [2] 2) 6 13 = 6 := by decide +kernel
theorem cp2_14 : cntT (ptN [2] 2) 6 14 = 6 := by decide +kernel
theorem cp2_15 : cntT (ptN [2] 2) 6 15 = 6 := by decide +kernel
theorem cp2_16 : cntT (ptN [2] 2) 6 16 = 6 := by decide +kernel
theorem cp2_17 : cntT (ptN [2] 2) 6 17 = 6 := by decide +kernel
theorem cp2_18 : cntT (ptN [2] 2) 6 18 = 6 := by decide +kernel
theorem cp2_19 : cntT (ptN [2] 2) 6 19 = 6 := by decide +kernel
theorem cp2_20 : cntT (ptN [2] 2) 6 20 = 6 := by decide +kernel
theorem cp2_21 : cntT (ptN [2] 2) 6 21 = 6 := by decide +kernel
theorem cp2_22 : cntT (ptN [2] 2) 6 22 = 6 := by decide +kernel
theorem cp2_23 : cntT (ptN [2] 2) 6 23 = 6 := by decide +kernel
theorem cp2_24 : cntT (ptN [2] 2) 6 24 = 6 := by decide +kernel
theorem cp2_25 : cntT (ptN [2] 2) 6 25 = 6 := by decide +kernel
theorem cp2_26 : cntT (ptN [2] 2) 6 26 = 6 := by decide +kernel
theorem cnt_two2 : cntT (ptN [2] 2) 9 0 = 182 := by
  rw [cnt27, cp2_0, cp2_1, cp2_2, cp2_3, cp2_4, cp2_5, cp2_6, cp2_7, cp2_8, cp2_9, cp2_10, cp2_11, cp2_12, cp2_13, cp2_14, cp2_15, cp2_16, cp2_17, cp2_18, cp2_19, cp2_20, cp2_21, cp2_22, cp2_23, cp2_24, cp2_25, cp2_26]
end Go.Proofs.Ytapklfdojbicpaa
