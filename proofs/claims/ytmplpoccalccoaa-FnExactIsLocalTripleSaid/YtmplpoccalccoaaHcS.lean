/-
  The numbers of a matrix in one row, and sums of matrices: the program's.
-/
import Derived.Test.YtmplpoccalccoaaJaw
namespace Go.Proofs.Ytmplpoccalccoaa
open Go.RowKit

theorem flat_le {xss : List (List Int)} : ∀ k, (xss.take k).flatten.length ≤ xss.flatten.length := by
  intro k
  have h := congrArg List.flatten (List.take_append_drop k xss)
  rw [List.flatten_append] at h
  rw [← h, List.length_append]; omega
def totN (xss : List (List Int)) : Nat := xss.flatten.length
theorem totN_snoc {xss : List (List Int)} {xs : List Int} : totN (xss ++ [xs]) = totN xss + xs.length := by unfold totN; rw [List.flatten_append, List.length_append]; simp
set_option maxHeartbeats 1000000 in
set_option maxRecDepth 100000 in
theorem concat_c {x : Value} {xss : List (List Int)} {w : World} (hx : Re w x xss) (hne : ∀ xs ∈ xss, 0 < xs.length) (hn : 0 < xss.length) (hm : xss.flatten.length ≤ 1000) (hm2 : xss.length ≤ 1000) :
    Calls Try.prog 83 #[x] w fun e w' => ∃ v, e = .returned v ∧ FrI w' w.heap.size v xss.flatten ∧ Below w.heap.size w w' := by
  obtain ⟨a, c, rfl, h1, h2, hx⟩ := hx
  rcases hx with rfl | ⟨b, off, rfl, hx⟩
  · simp at hn
  have hpos : 0 < xss.flatten.length := by
    match xss, hn with
    | y :: ys, _ => have := hne y (by simp); simp; omega
  have hle := Lib.hid (show ∀ k, totN (xss.take k) ≤ totN xss from flat_le (xss := xss))
  change 0 < totN xss at hpos; change totN xss ≤ 1000 at hm
  have hx0 : ∀ j (h : j < xss.length), ∃ u, w.cell? ⟨b, off + j, none⟩ = some u ∧ El w u xss[j] := hx
  have HX := Lib.hid hx; clear hx
  go_enter Try.func83, Try.ntmps83
  go_wp2
  go_loop [3, 11] (fun q i => ∃ k : Nat, k ≤ xss.length ∧ i = .int .i64 k ∧ q = .int .i64 (totN (xss.take k) : Nat)) (fun _ i => xss.length - (intOf i).toNat)
  case atStart => exact ⟨0, Nat.zero_le _, rfl, rfl⟩
  case round =>
    obtain ⟨k, hk, rfl, rfl⟩ := hrel
    by_cases hlt : k < xss.length
    · obtain ⟨a1, c1, xs, hxs, hc, he, ht⟩ := Re.get HX.out hlt
      have hf := hle.out (k + 1)
      rw [ht, totN_snoc] at hf
      have hxl : xs.length ≤ 1000 := by omega
      obtain ⟨m, hmm⟩ : ∃ m, m = totN (xss.take k) := ⟨_, rfl⟩
      rw [← hmm] at hf ⊢
      have HT := Lib.hid ht; have HMM := Lib.hid hmm; clear ht hmm
      have hneg : ¬ ((m : Int) + (xs.length : Int) < 0) := by omega
      go_wp2
      go_round
      case rel => exact ⟨k + 1, by omega, by go_num, by rw [HT.out, totN_snoc, ← HMM.out]; go_num⟩
      case measure => simp [intOf]; omega
    · obtain rfl : k = xss.length := by omega
      rw [show totN (xss.take xss.length) = totN xss by rw [List.take_length]]
      obtain ⟨S, hS⟩ : ∃ S, S = totN xss := ⟨_, rfl⟩
      rw [← hS] at hpos hm ⊢
      have HS := Lib.hid hS; clear hS
      go_wp2_with fail
      refine (grow_c hpos hm).mono ?_; rintro e w1 ⟨g, cap, rfl, ho, hb⟩
      go_wp2
      go_loopw [6, 27] (fun q i wr => ∃ (k g cap m : Nat), k ≤ xss.length ∧ i = .int .i64 k ∧ q = .slice (some ⟨g, 0, none⟩) m cap ∧ m = totN (xss.take k) ∧ OwnI wr w.heap.size g m cap (xss.take k).flatten ∧ Below w.heap.size w wr) (fun _ i _ => xss.length - (intOf i).toNat)
      case atStart => exact ⟨0, g, cap, 0, Nat.zero_le _, rfl, rfl, rfl, ho, hb⟩
      case round =>
        clear ho hb
        obtain ⟨k, gg, cc, m, hk, rfl, rfl, hmk, ho, hb⟩ := hrel
        by_cases hlt : k < xss.length
        · obtain ⟨a1, c1, xs, hxs, hc, he, ht⟩ := Re.get HX.out hlt
          have hf := hle.out (k + 1)
          rw [ht, totN_snoc, ← hmk, ← HS.out] at hf
          have hxp := hne xs hxs
          have hc := kept hb hc
          obtain ⟨b1, o1, c2, e2, _, _, hA⟩ := (he.below hb).op1 hxp
          cases e2
          have HT := Lib.hid ht; have HMM := Lib.hid hmk; clear ht hmk
          obtain ⟨ys, hys⟩ : ∃ ys, ys = (xss.take k).flatten := ⟨_, rfl⟩
          rw [← hys] at ho
          have HYS := Lib.hid hys; clear hys
          go_wp2_with (at_builtin; refine app_int rfl _ _ rfl wr w.heap.size gg m cc ys rfl b1 o1 xs.length c1 xs rfl ho hb.size hA rfl hxp (by omega) ?_; intro g' cap' w' ho' hg' hge)
          go_roundw
          case rel => exact ⟨k + 1, g', cap', m + xs.length, by omega, by go_num, rfl, by rw [HT.out, totN_snoc, ← HMM.out], by rw [HT.out, List.flatten_append, ← HYS.out]; simpa using ho', blw_grown hb hg' ho.lt.1⟩
          case measure => simp [intOf]; omega
        · obtain rfl : k = xss.length := by omega
          have e : xss.take xss.length = xss := List.take_length
          rw [e] at hmk ho
          clear e
          have HMM := Lib.hid hmk; clear hmk
          go_wp2
          go_ret
          refine ⟨_, rfl, ⟨gg, cc, ?_, ?_⟩, hb⟩
          · rw [HMM.out]; rfl
          · have e := HMM.out; subst e; exact ho
end Go.Proofs.Ytmplpoccalccoaa
