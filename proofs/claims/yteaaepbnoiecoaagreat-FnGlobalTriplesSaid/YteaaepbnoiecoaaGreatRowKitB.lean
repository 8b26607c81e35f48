import Derived.Test.YteaaepbnoiecoaaGreatJan
import Derived.ProofKit
import Derived.OpenShut
import Derived.ShutString
import Derived.ChangeOld
import Derived.Below
import Derived.Lib.SmallJoins
namespace Go.Proofs.YteaaepbnoiecoaaGreat
open Go.ChangeShapes Go.WideShapes Go.ChangeAt Go.RowKit Go.Joins
theorem own : ownKnob Tryz.prog.godebug = none := by kernel_rfl
theorem laidOut : laidOutB Tryz.prog = true := by kernel_rfl
theorem bytes_of_trod {H : Type} {enc : TypeId × Value -> H} {W : World} {base : Nat} {spare : Nat -> Bool} {held : Bool} {a : Option Addr} {n cp : Nat} (h : ∃ m y, DataW.trod enc Tryz.prog W base spare held m 22 [.slice a n cp] = some y) :
  n <= 9223372036854775807 /\ (n <= 4096 -> Co W W.heap.size (.slice a n cp) n) := by
 obtain ⟨fuel, y, hf⟩ := h
 rcases open_ints Tryz.underlying22 Tryz.underlying5 (by kernel_rfl) hf with ⟨hcs, _⟩ | ⟨⟨b, off, spot⟩, l, cp2, zs, hcs, _, hl, hm, hz, _, hcell, hwz⟩
 ·simp at hcs
  obtain ⟨rfl, rfl, rfl⟩ := hcs
  exact ⟨by decide, fun _ => ⟨none, 0, rfl, by decide, .inl rfl⟩⟩
 ·simp at hcs
  obtain ⟨rfl, rfl, rfl⟩ := hcs
  simp only [maxLen] at hm
  have hlz : n <= zs.length := by rw [hz]; split <;> omega
  refine ⟨by omega, fun hn => ⟨_, _, rfl, hn, ?_⟩⟩
  by_cases h0 : n = 0
  ·exact .inl h0
  ·have hc0 := hcell 0 (by omega)
   obtain rfl : spot = none := by simpa [Addr.add] using World.cell?_spot hc0
   have hb0 := World.block_lt_of_cell? W _ hc0
   refine .inr ⟨b, off, rfl, by simpa [Addr.add] using hb0, fun j hj => ?_⟩
   have hc := hcell j (by omega)
   rw [addo] at hc
   have hr := range_u8 hwz j
   rw [List.getD_eq_getElem?_getD] at hc
   obtain ⟨k, hk⟩ := Int.eq_ofNat_of_zero_le hr.1
   exact ⟨k, by omega, by rw [hc, hk]⟩
end Go.Proofs.YteaaepbnoiecoaaGreat
