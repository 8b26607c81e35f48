import Derived.Test.YteaaepbnoiecoaaGreatJbo
namespace Go.Proofs.YteaaepbnoiecoaaGreat
open Go.RowKit
theorem big_c {a : Option Addr} {n c : Nat} {w : World} (hn : n <= 9223372036854775807) :
  Calls Tryz.prog 4 #[.slice a n c] w fun e w' => e = .returned (.bool (decide (4096 < n))) /\ w = w' := by
 by_cases h : 4096 < n
 ·have h2 : (4096 : Int) < (n : Int) := by omega
  rw [decide_eq_true h]
  go_enter Tryz.func4, Tryz.ntmps4
  go_wp2
  go_ret
  exact ⟨rfl, rfl⟩
 ·have h2 : ¬ (4096 : Int) < (n : Int) := by omega
  rw [decide_eq_false h]
  go_enter Tryz.func4, Tryz.ntmps4
  go_wp2
  go_ret
  exact ⟨rfl, rfl⟩
end Go.Proofs.YteaaepbnoiecoaaGreat
