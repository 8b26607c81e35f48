/-
  Numbers cut in rows of n, by the program and by the reference.
-/
import Derived.Test.YtmplpoccalccoaaLawTr
namespace Go.Proofs.Ytmplpoccalccoaa
open Go.RowKit

def cutN (n : Nat) (xs : List Int) : Nat → List (List Int)
  | 0 => []
  | r + 1 => cutN n xs r ++ [(xs.drop (r * n)).take n]
theorem cutN_len {n : Nat} {xs : List Int} : ∀ r, (cutN n xs r).length = r
  | 0 => rfl
  | r + 1 => by unfold cutN; rw [List.length_append, cutN_len r]; rfl
theorem cutN_row {n : Nat} {xs : List Int} : ∀ r, r * n ≤ xs.length → ∀ y ∈ cutN n xs r, y.length = n
  | 0, _, y, hy => by cases hy
  | r + 1, h, y, hy => by
    rw [Nat.succ_mul] at h
    unfold cutN at hy
    rcases List.mem_append.1 hy with hy | hy
    · exact cutN_row r (by omega) y hy
    · rw [List.mem_singleton.1 hy, List.length_take, List.length_drop]; omega
theorem cutN_take {n m : Nat} {xs : List Int} : ∀ r, r * n ≤ m → cutN n (xs.take m) r = cutN n xs r
  | 0, _ => rfl
  | r + 1, h => by
    rw [Nat.succ_mul] at h
    unfold cutN
    rw [cutN_take r (by omega)]
    congr 2
    rw [List.drop_take, List.take_take]
    congr 1
    omega
theorem cutN_app {n : Nat} {xs : List Int} (a : Nat) : ∀ r, cutN n xs (a + r) = cutN n xs a ++ cutN n (xs.drop (a * n)) r
  | 0 => by simp [cutN]
  | r + 1 => by
    show cutN n xs (a + r) ++ _ = _
    rw [cutN_app a r]
    show _ = _ ++ (cutN n (xs.drop (a * n)) r ++ _)
    rw [List.append_assoc]
    congr 3
    rw [List.drop_drop, show a.add r = a + r from rfl, Nat.add_mul]
set_option maxHeartbeats 1000000 in
set_option maxRecDepth 100000 in
theorem rowsinR_c {x : Value} {xs : List Int} {n R : Nat} {w : World} (hx : El w x xs) (hn : 1 ≤ n) (hn2 : n ≤ 8) (hR : 1 ≤ R) (hR2 : R ≤ 64) (hl : xs.length = R * n) :
    Calls Try.prog 118 #[x, .int .i64 n] w fun e w' => ∃ v us, e = .returned v ∧ FrR w' w.heap.size v us (cutN n xs R) ∧ Below w.heap.size w w' := by
  have hb0 : R * n ≤ 512 := by have := Nat.mul_le_mul hR2 hn2; omega
  have hb1 : 1 ≤ R * n := by have := Nat.mul_le_mul hR hn; omega
  obtain ⟨b, off, c, rfl, h1, h2, hA⟩ := hx.op1 (by omega)
  have hch : ∀ k, k + n ≤ R * n → El w (.slice (some ⟨b, off + k, none⟩) n (c - k)) ((xs.drop k).take n) := fun k hk => (hA.drop k).elT (by rw [List.length_drop]; omega) (by omega) (by omega)
  obtain ⟨N, hN⟩ : ∃ N, N = xs.length := ⟨_, rfl⟩
  rw [← hN] at h1 hl ⊢
  rw [← hl] at hch hb0 hb1
  have HL := Lib.hid (And.intro hN hl)
  clear hA hx hN hl
  go_enter Try.func118, Try.ntmps118
  go_wp2
  go_loopw [5, 6] (fun o i wr => ∃ (r q g cap : Nat) (us : List Value), r ≤ R ∧ q = r * n ∧ i = .int .i64 q ∧ o = .slice (some ⟨g, 0, none⟩) us.length cap ∧ us.length = r ∧ OwV wr w.heap.size (.slice (some ⟨g, 0, none⟩) us.length cap) us ∧ RowsA wr w.heap.size us (cutN n xs r) ∧ Below w.heap.size w wr)
    (fun _ i _ => N - (intOf i).toNat)
  case atStart => exact ⟨0, 0, w.heap.size, 0, [], Nat.zero_le _, by simp, rfl, rfl, rfl, OwV.new (Nat.le_refl _), RowsA.nil _ _, (by repeat (first | exact Below.refl _ _ | apply blw_drew | apply blw_alloc | (refine blw_set ?_ (by first | omega | (simp; done) | (simp; omega)) _) | refine below_chain ?_ (by assumption)))⟩
  case round =>
    obtain ⟨r, q, g, cap, us, hr, hq, rfl, rfl, hu, ho, hrow, hb⟩ := hrel
    have HU := Lib.hid hu; have HQ := Lib.hid hq; clear hu hq
    by_cases hlt : r < R
    · have hqn : q + n ≤ N := by
        have := Nat.mul_le_mul_right n (show r + 1 ≤ R from hlt)
        rw [Nat.succ_mul, ← HQ.out, ← HL.out.2] at this; omega
      have hc := (hch q hqn).below hb
      have hlen : ((xs.drop q).take n).length = n := by rw [List.length_take, List.length_drop, ← HL.out.1]; omega
      have hstep : cutN n xs (r + 1) = cutN n xs r ++ [(xs.drop q).take n] := by rw [HQ.out]; rfl
      obtain ⟨y, hy⟩ : ∃ y, y = (xs.drop q).take n := ⟨_, rfl⟩
      rw [← hy] at hc hlen hstep
      have LN := Lib.hid hlen; have HS := Lib.hid hstep; clear hlen hstep hy
      have hq1 : (q : Int) < (N : Int) := by omega
      have hq2 : q < N := by omega
      go_wp2_with fail
      refine (clone_c hc.sl (by have := LN.out; omega) (by have := LN.out; omega)).mono ?_; rintro e w1 ⟨v, rfl, hv, hb1⟩
      have hf := hrow.fresh hv
      have ho := ho.below hb1; have hrow := hrow.below hb1
      obtain ⟨g1, cap1, rfl, hv1⟩ := id hv
      rw [LN.out] at hv hf ⊢
      have hbw := below_chain hb hb1
      go_wp2_with (at_builtin; refine appr_one rfl _ _ rfl w1 w.heap.size w1.heap.size rfl (.slice (some ⟨g, 0, none⟩) us.length cap) us rfl (.slice (some ⟨g1, 0, none⟩) n cap1) 1 rfl rfl ho hbw.size (by have := HU.out; omega) ?_; intro g' cap' w' ho' hb' hg' hge)
      go_roundw
      case rel => exact ⟨r + 1, q + n, g', cap', us ++ [.slice (some ⟨g1, 0, none⟩) n cap1], by omega, by rw [Nat.succ_mul, HQ.out], by go_num, by rw [List.length_append]; rfl, by rw [List.length_append, HU.out]; rfl, by rw [List.length_append]; exact ho', by rw [HS.out]; exact (hrow.app ho hg').snoc ((hv.more hb.size).app ho hg') hf, hbw.trans hb'⟩
      case measure => simp [intOf]; omega
    · obtain rfl : r = R := by omega
      have hqN : q = N := by rw [HQ.out, HL.out.2]
      have hq1 : ¬ ((q : Int) < (N : Int)) := by omega
      have hqN2 := Lib.hid hqN; clear hqN
      go_wp2_with fail
      go_ret
      exact ⟨_, rfl, ⟨us, frR_mk hrow ho (by have := HU.out; omega)⟩, hb⟩
set_option maxHeartbeats 1000000 in
set_option maxRecDepth 100000 in
theorem scutR_c {x : Value} {xs : List Int} {n R : Nat} {w : World} (hx : El w x xs) (hn : 1 ≤ n) (hn2 : n ≤ 8) (hR : 1 ≤ R) (hR2 : R ≤ 64) (hl : xs.length = R * n) :
    Calls Try.prog 111 #[x, .int .i64 n] w fun e w' => ∃ v us, e = .returned v ∧ FrR w' w.heap.size v us (cutN n xs R) ∧ Below w.heap.size w w' := by
  have hb0 : R * n ≤ 512 := by have := Nat.mul_le_mul hR2 hn2; omega
  have hb1 : 1 ≤ R * n := by have := Nat.mul_le_mul hR hn; omega
  obtain ⟨b, off, c, rfl, h1, h2, hA⟩ := hx.op1 (by omega)
  have hch : ∀ k, k + n ≤ R * n → El w (.slice (some ⟨b, off + k, none⟩) n (c - k)) ((xs.drop k).take n) := fun k hk => (hA.drop k).elT (by rw [List.length_drop]; omega) (by omega) (by omega)
  obtain ⟨N, hN⟩ : ∃ N, N = xs.length := ⟨_, rfl⟩
  rw [← hN] at h1 hl ⊢
  rw [← hl] at hch hb0 hb1
  have HL := Lib.hid (And.intro hN hl)
  clear hA hx hN hl
  go_enter Try.func111, Try.ntmps111
  go_wp2
  go_loopw [5, 6] (fun o i wr => ∃ (r q g cap : Nat) (us : List Value), r ≤ R ∧ q = r * n ∧ i = .int .i64 q ∧ o = .slice (some ⟨g, 0, none⟩) us.length cap ∧ us.length = r ∧ OwV wr w.heap.size (.slice (some ⟨g, 0, none⟩) us.length cap) us ∧ RowsA wr w.heap.size us (cutN n xs r) ∧ Below w.heap.size w wr)
    (fun _ i _ => N - (intOf i).toNat)
  case atStart => exact ⟨0, 0, w.heap.size, 0, [], Nat.zero_le _, by simp, rfl, rfl, rfl, OwV.new (Nat.le_refl _), RowsA.nil _ _, (by repeat (first | exact Below.refl _ _ | apply blw_drew | apply blw_alloc | (refine blw_set ?_ (by first | omega | (simp; done) | (simp; omega)) _) | refine below_chain ?_ (by assumption)))⟩
  case round =>
    obtain ⟨r, q, g, cap, us, hr, hq, rfl, rfl, hu, ho, hrow, hb⟩ := hrel
    have HU := Lib.hid hu; have HQ := Lib.hid hq; clear hu hq
    by_cases hlt : r < R
    · have hqn : q + n ≤ N := by
        have := Nat.mul_le_mul_right n (show r + 1 ≤ R from hlt)
        rw [Nat.succ_mul, ← HQ.out, ← HL.out.2] at this; omega
      have hc := (hch q hqn).below hb
      have hlen : ((xs.drop q).take n).length = n := by rw [List.length_take, List.length_drop, ← HL.out.1]; omega
      have hstep : cutN n xs (r + 1) = cutN n xs r ++ [(xs.drop q).take n] := by rw [HQ.out]; rfl
      obtain ⟨y, hy⟩ : ∃ y, y = (xs.drop q).take n := ⟨_, rfl⟩
      rw [← hy] at hc hlen hstep
      have LN := Lib.hid hlen; have HS := Lib.hid hstep; clear hlen hstep hy
      have hq1 : (q : Int) < (N : Int) := by omega
      have hq2 : q < N := by omega
      go_wp2_with fail
      refine (own_c hc.sl (by have := LN.out; omega) (by have := LN.out; omega)).mono ?_; rintro e w1 ⟨v, rfl, hv, hb1⟩
      have hf := hrow.fresh hv
      have ho := ho.below hb1; have hrow := hrow.below hb1
      obtain ⟨g1, cap1, rfl, hv1⟩ := id hv
      rw [LN.out] at hv hf ⊢
      have hbw := below_chain hb hb1
      go_wp2_with (at_builtin; refine appr_one rfl _ _ rfl w1 w.heap.size w1.heap.size rfl (.slice (some ⟨g, 0, none⟩) us.length cap) us rfl (.slice (some ⟨g1, 0, none⟩) n cap1) 1 rfl rfl ho hbw.size (by have := HU.out; omega) ?_; intro g' cap' w' ho' hb' hg' hge)
      go_roundw
      case rel => exact ⟨r + 1, q + n, g', cap', us ++ [.slice (some ⟨g1, 0, none⟩) n cap1], by omega, by rw [Nat.succ_mul, HQ.out], by go_num, by rw [List.length_append]; rfl, by rw [List.length_append, HU.out]; rfl, by rw [List.length_append]; exact ho', by rw [HS.out]; exact (hrow.app ho hg').snoc ((hv.more hb.size).app ho hg') hf, hbw.trans hb'⟩
      case measure => simp [intOf]; omega
    · obtain rfl : r = R := by omega
      have hqN : q = N := by rw [HQ.out, HL.out.2]
      have hq1 : ¬ ((q : Int) < (N : Int)) := by omega
      have hqN2 := Lib.hid hqN; clear hqN
      go_wp2_with fail
      go_ret
      exact ⟨_, rfl, ⟨us, frR_mk hrow ho (by have := HU.out; omega)⟩, hb⟩
end Go.Proofs.Ytmplpoccalccoaa
