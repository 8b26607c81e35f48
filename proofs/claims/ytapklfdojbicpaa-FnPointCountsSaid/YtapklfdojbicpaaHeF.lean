/-
  How many matrices over the doubling by 1 are points: counted by the kernel in 27 parts.
-/
import Derived.Test.YtapklfdojbicpaaHeE
namespace Go.Proofs.Ytapklfdojbicpaa

theorem cp1_0 : cntT (ptN [1] 2) 6 0 = 38 := by decide +kernel
theorem cp1_1 : cntT (ptN [1] 2) 6 1 = 24 := by decide +kernel
theorem cp1_2 : cntT (ptN [1] 2) 6 2 = 24 := by decide +kernel
theorem cp1_3 : cntT (ptN [1] 2) 6 3 = 6 := by decide +kernel
theorem cp1_4 : cntT (ptN [1] 2) 6 4 = 6 := by decide +kernel
theorem cp1_5 : cntT (ptN [1] 2) 6 5 = 6 := by decide +kernel
theorem cp1_6 : cntT (ptN [1] 2) 6 6 = 6 := by decide +kernel
theorem cp1_7 : cntT (ptN [1] 2) 6 7 = 6 := by decide +kernel
theorem cp1_8 : cntT (ptN [1] 2) 6 8 = 6 := by decide +kernel
theorem cp1_9 : cntT (ptN [1] 2) 6 9 = 6 := by decide +kernel
theorem cp1_10 : cntT (ptN [1] 2) 6 10 = 6 := by decide +kernel
theorem cp1_11 : cntT (ptN [1] 2) 6 11 = 6 := by decide +kernel
theorem cp1_12 : cntT (ptN [1] 2) 6 12 = 15 := by decide +kernel
theorem cp1_13 : cntT (ptN [1] 2) 6 13 = 15 := by decide +kernel
theorem cp1_14 : cntT (ptN [1] 2) 6 14 = 15 := by decide +kernel
theorem cp1_15 : cntT (ptN [1] 2) 6 15 = 15 := by decide +kernel
theorem cp1_16 : cntT (ptN [1] 2) 6 16 = 15 := by decide +kernel
theorem cp1_17 : cntT (ptN [1] 2) 6 17 = 15 := by decide +kernel
theorem cp1_18 : cntT (ptN [1] 2) 6 18 = 6 := by decide +kernel
theorem cp1_19 : cntT (ptN [1] 2) 6 19 = 6 := by decide +kernel
theorem cp1_20 : cntT (ptN [1] 2) 6 20 = 6 := by decide +kernel
theorem cp1_21 : cntT (ptN [1] 2) 6 21 = 15 := by decide +kernel
theorem cp1_22 : cntT (ptN [1] 2) 6 22 = 15 := by decide +kernel
theorem cp1_23 : cntT (ptN [1] 2) 6 23 = 15 := by decide +kernel
theorem cp1_24 : cntT (ptN [1] 2) 6 24 = 15 := by decide +kernel
theorem cp1_25 : cntT (ptN [1] 2) 6 25 = 15 := by decide +kernel
theorem cp1_26 : cntT (ptN [1] 2) 6 26 = 15 := by decide +kernel
theorem cnt_two1 : cntT (ptN [1] 2) 9 0 = 338 := by
  rw [cnt27, cp1_0, cp1_1, cp1_2, cp1_3, cp1_4, cp1_5, cp1_6, cp1_7, cp1_8, cp1_9, cp1_10, cp1_11, cp1_12, cp1_13, cp1_14, cp1_15, cp1_16, cp1_17, cp1_18, cp1_19, cp1_20, cp1_21, cp1_22, cp1_23, cp1_24, cp1_25, cp1_26]
end Go.Proofs.Ytapklfdojbicpaa
