/- Joined by join.py: HeD HeB HeH HeI -/
import Derived.Test.YtapklfdojbicpaaHeC
import Derived.Test.YtapklfdojbicpaaHeF
import Derived.Test.YtapklfdojbicpaaHeG
import Derived.Test.YtapklfdojbicpaaLCountPoints
import Derived.Test.YtapklfdojbicpaaLIsPoint
/-
  Draws of doublings from a code; the laws' dice.
-/
namespace Go.Proofs.Ytapklfdojbicpaa
open Go.RowKit

/-- A drawn doubling in memory of its own. -/
def DrN (w : World) (lo hi : Int) (n : Nat) (e : Ending) (w' : World) : Prop := ∃ (p : Int) (v : Value) (st : List Int), e = .returned (.agg #[.int .i64 p, v]) ∧ lo ≤ p ∧ p ≤ hi ∧ st.length ≤ n ∧ OwN w' w.heap.size v st ∧ Below w.heap.size w w'
theorem Co.wide {w : World} {q q' n : Nat} {v : Value} (h : Co w q v n) (hq : q ≤ q') : Co w q' v n := by
  obtain ⟨a, c, rfl, hn, h⟩ := h
  refine ⟨a, c, rfl, hn, ?_⟩
  rcases h with h | ⟨b, off, ha, hb, h⟩
  · exact .inl h
  · exact .inr ⟨b, off, ha, by omega, h⟩
theorem sdrawdbl_c {v : Value} {n : Nat} {w : World} (hc : Co w w.heap.size v n) :
    Calls Try.prog 11 #[v] w fun e w' => DrN w 0 17 5 e w' := by
  obtain ⟨a, c, rfl, _⟩ := id hc
  go_enter Try.func11, Try.ntmps11
  go_wp2_with fail
  obtain ⟨wA, hwA⟩ : ∃ x, x = (w.alloc (.cells #[.int .i64 0, .slice none 0 0] 26)) := ⟨_, rfl⟩
  have hbA : Below w.heap.size w wA := by rw [hwA]; exact (by repeat (first | exact Below.refl _ _ | apply blw_drew | apply blw_alloc | (refine blw_set ?_ (by first | omega | (simp; done) | (simp; omega)) _) | refine below_chain ?_ (by assumption)))
  have hrA : Bd wA w.heap.size (.int .i64 0) (.slice none 0 0) := by rw [hwA]; exact heap_alloc_new w _
  have hzA : wA.heap.size = w.heap.size + 1 := by rw [hwA]; simp
  rw [← hwA]; clear hwA
  refine (sfrom_c ((hc.below hbA).wide (by omega))).mono ?_; rintro e w1 ⟨rfl, hs1, hz1, hb1⟩
  have hr1 := hrA.below hb1
  have hbw1 : Below w.heap.size w w1 := hbA.trans (hb1.mono (by omega))
  have HA := Lib.hid hzA; have HZ := Lib.hid hz1; clear hzA hz1 hbA hrA hb1
  go_wp2_with fail
  refine (sdrawany_c hs1 (by decide) (by decide)).mono ?_; rintro e w2 ⟨p, v2, st, rfl, hp1, hp2, hl, ho, hs2, hc2⟩
  have hzA := HA.out; have hz1 := HZ.out
  have hr := hr1.chg hc2 (.inl (by omega))
  have hbw : Below w.heap.size w w2 := below_bchg hbw1 hc2 (by omega) hbw1.size
  have hzz : w.heap.size + 1 ≤ w1.heap.size := by omega
  clear hzA hz1 hs1 hs2 hc2
  obtain ⟨av, nv, cv, rfl⟩ := ho.form
  have rc0 := hr.c0; have rc1 := hr.c1; have rf0 := hr.f 0; have rf1 := hr.f 1
  go_wp2_with fail
  refine bodyPost_ret (v := .agg #[.int .i64 p, .slice av nv cv]) (by simp [results, Try.results11, go_sem, rc0, rc1]) rfl ?_
  refine ⟨p, _, st, rfl, hp1, hp2, hl, ?_, ?_⟩
  · exact ((ho.set_ (p := ⟨w.heap.size, 0, none⟩) (by show w.heap.size < _; omega) _).set_ (p := ⟨w.heap.size, 1, none⟩) (by show w.heap.size < _; omega) _).more_ (by omega)
  · exact (hbw.setCell (p := ⟨w.heap.size, 0, none⟩) (Nat.le_refl _) _).setCell (p := ⟨w.heap.size, 1, none⟩) (Nat.le_refl _) _
theorem sdrawcp_c {v : Value} {n : Nat} {w : World} (hc : Co w w.heap.size v n) :
    Calls Try.prog 5 #[v] w fun e w' => DrN w 0 17 5 e w' := by
  obtain ⟨a, c, rfl, _⟩ := id hc
  go_enter Try.func5, Try.ntmps5
  go_wp2_with fail
  obtain ⟨wA, hwA⟩ : ∃ x, x = (w.alloc (.cells #[.int .i64 0, .slice none 0 0] 26)) := ⟨_, rfl⟩
  have hbA : Below w.heap.size w wA := by rw [hwA]; exact (by repeat (first | exact Below.refl _ _ | apply blw_drew | apply blw_alloc | (refine blw_set ?_ (by first | omega | (simp; done) | (simp; omega)) _) | refine below_chain ?_ (by assumption)))
  have hrA : Bd wA w.heap.size (.int .i64 0) (.slice none 0 0) := by rw [hwA]; exact heap_alloc_new w _
  have hzA : wA.heap.size = w.heap.size + 1 := by rw [hwA]; simp
  rw [← hwA]; clear hwA
  refine (sdrawdbl_c ((hc.below hbA).wide (by omega))).mono ?_; rintro e w2 ⟨p, v2, st, rfl, hp1, hp2, hl, ho, hb2⟩
  have hr := hrA.below hb2
  have hbw : Below w.heap.size w w2 := hbA.trans (hb2.mono (by omega))
  have hzz : w.heap.size + 1 ≤ wA.heap.size := by omega
  clear hzA hb2
  obtain ⟨av, nv, cv, rfl⟩ := ho.form
  have rc0 := hr.c0; have rc1 := hr.c1; have rf0 := hr.f 0; have rf1 := hr.f 1
  go_wp2_with fail
  refine bodyPost_ret (v := .agg #[.int .i64 p, .slice av nv cv]) (by simp [results, Try.results5, go_sem, rc0, rc1]) rfl ?_
  refine ⟨p, _, st, rfl, hp1, hp2, hl, ?_, ?_⟩
  · exact ((ho.set_ (p := ⟨w.heap.size, 0, none⟩) (by show w.heap.size < _; omega) _).set_ (p := ⟨w.heap.size, 1, none⟩) (by show w.heap.size < _; omega) _).more_ (by omega)
  · exact (hbw.setCell (p := ⟨w.heap.size, 0, none⟩) (Nat.le_refl _) _).setCell (p := ⟨w.heap.size, 1, none⟩) (Nat.le_refl _) _
end Go.Proofs.Ytapklfdojbicpaa
/-
  The laws' dice: the same as the source of the draws, over another struct.
-/
namespace Go.Proofs.Ytapklfdojbicpaa
open Go.RowKit

/-- The three cells of dice. -/
def Dx (w : World) (q : Nat) (cv : Value) (i h : Int) : Prop := w.heap[q]? = some (.cells #[cv, .int .i64 i, .int .u64 h] 47 (0, 0))
def Dce (w : World) (q : Nat) : Prop := ∃ (cv : Value) (n i : Nat) (h : Int), Dx w q cv i h ∧ Co w q cv n ∧ i ≤ n ∧ 0 ≤ h ∧ h < 18446744073709551616
section
variable {w w' w2 : World} {q n B : Nat} {cv : Value} {i h' : Int}
theorem Dx.c0 (h : Dx w q cv i h') : w.cell? ⟨q, 0, none⟩ = some cv := by unfold Dx at h; simp [World.cell?, h]
theorem Dx.c1 (h : Dx w q cv i h') : w.cell? ⟨q, 1, none⟩ = some (.int .i64 i) := by unfold Dx at h; simp [World.cell?, h]
theorem Dx.c2 (h : Dx w q cv i h') : w.cell? ⟨q, 2, none⟩ = some (.int .u64 h') := by unfold Dx at h; simp [World.cell?, h]
theorem Dx.f (h : Dx w q cv i h') (k : Nat) : w.frozen? ⟨q, k, none⟩ = false := frozen_of_row _ _ _ _ _ h
theorem Dx.set1 (h : Dx w q cv i h') (i' : Int) : Dx (w.setCell ⟨q, 1, none⟩ (.int .i64 i')) q cv i' h' := heap_setCell_same _ _ _ _ _ _ h
theorem Dx.set2 (h : Dx w q cv i h') (k' : Int) : Dx (w.setCell ⟨q, 2, none⟩ (.int .u64 k')) q cv i k' := heap_setCell_same _ _ _ _ _ _ h
theorem Dx.lt (h : Dx w q cv i h') : q < w.heap.size := (Array.getElem?_eq_some_iff.1 h).1
theorem Dx.below (h : Dx w q cv i h') (hb : Below w.heap.size w w') : Dx w' q cv i h' := by
  unfold Dx at h ⊢
  rw [hb.block q (Array.getElem?_eq_some_iff.1 h).1]; exact h
theorem Dx.drew (h : Dx w q cv i h') : Dx w.drew q cv i h' := h
theorem Dce.lt (h : Dce w q) : q < w.heap.size := by obtain ⟨_, _, _, _, h, _⟩ := h; exact h.lt
theorem Dce.bl (h : Dce w q) (hb : Below B w w') (hq : q < B) : Dce w' q := by
  obtain ⟨cv, n, i, h, hx, hc, h1⟩ := h
  refine ⟨cv, n, i, h, ?_, hc.bl hb (by omega), h1⟩
  unfold Dx at hx ⊢
  rw [hb.block q hq]; exact hx
end
set_option maxHeartbeats 2000000 in
set_option maxRecDepth 100000 in
theorem dbelow_c {q : Nat} {n : Int} {w : World} (hs : Dce w q) (hn1 : -9223372036854775808 ≤ n) (hn2 : n ≤ 9223372036854775807) :
    Calls Try.prog 9 #[.pointer (some ⟨q, 0, none⟩), .int .i64 n] w fun e w' => ∃ x : Int, e = .returned (.int .i64 x) ∧ 0 ≤ x ∧ (x < n ∨ (n < 1 ∧ x = 0)) ∧ Dce w' q ∧ Chg q (q + 1) w w' ∧ w'.heap.size = w.heap.size := by
  obtain ⟨cv, m, i, h, hx, hc, hi1, hh0, hh1⟩ := id hs
  obtain ⟨a, c, rfl, hm, hby⟩ := id hc
  have c0 := hx.c0; have c1 := hx.c1; have c2 := hx.c2; have f1 := hx.f 1; have f2 := hx.f 2
  by_cases h1 : n < 1
  · go_enter Try.func9, Try.ntmps9
    go_wp2_with fail
    go_ret
    exact ⟨0, rfl, by omega, .inr ⟨h1, rfl⟩, hs, Chg.refl, rfl⟩
  · go_enter Try.func9, Try.ntmps9
    have hwr := wrap_u64 (IntKind.u64.wrap (h * 6364136223846793005) + 1442695040888963407)
    obtain ⟨h2, hh2⟩ : ∃ y, y = IntKind.u64.wrap (IntKind.u64.wrap (h * 6364136223846793005) + 1442695040888963407) := ⟨_, rfl⟩
    have hbd := hash_bd hwr.1 hwr.2
    rw [← hh2] at hbd hwr
    obtain ⟨x0, hx0⟩ : ∃ y, y = wrap64 (bits .and .u64 (h2 / 8589934592) 16777215) := ⟨_, rfl⟩
    rw [← hx0] at hbd
    have HH := Lib.hid hh2; have HX := Lib.hid hx0; clear hh2 hx0
    have hx2 := hx.set2 h2
    have hc2 := hc.chg (Chg.set w ⟨q, 2, none⟩ (.int .u64 h2)) (Nat.le_refl _)
    have hch := Chg.set w ⟨q, 2, none⟩ (.int .u64 h2)
    have hsz : (w.setCell ⟨q, 2, none⟩ (.int .u64 h2)).heap.size = w.heap.size := by simp
    go_upto_region 5 with fail
    rw [← HH.out, ← HX.out]
    obtain ⟨w1, hw1⟩ : ∃ x, x = w.setCell ⟨q, 2, none⟩ (.int .u64 h2) := ⟨_, rfl⟩
    rw [← hw1] at hx2 hc2 hch hsz ⊢
    clear hw1 c0 c1 c2 f1 f2
    have c0 := hx2.c0; have c1 := hx2.c1; have f1 := hx2.f 1
    by_cases hlt : i < m
    · rcases hby with h0 | ⟨b, off, rfl, hbq, _⟩
      · omega
      obtain ⟨a2, cc2, e2, _, hby2⟩ := id hc2
      cases e2
      rcases hby2 with h0 | ⟨b2, off2, e2, _, hby2⟩
      · omega
      cases e2
      obtain ⟨k, hk, hkc⟩ := hby2 i hlt
      have HB := Lib.hid hby2; clear hby2
      refine region_flow [(false, [(0, 0), (1, 0), (2, 0), (3, 1), (4, 0), (5, 0), (6, 0), (7, 1), (8, 0), (9, 0)])] (by kernel_rfl) ?_
      refine norm_K fun K hK => ?_
      change wpList _ _ _ [_, _, _, _, _, _, _, _, _, _] _ _
      go_wp2_with fail
      first | (refine hK _ _ ⟨rfl, ?_⟩; clear hK K) | refine ⟨rfl, ?_⟩
      go_upto_region 6 with fail
      refine region_flow [(false, [(0, 0), (1, 0), (2, 0), (3, 0), (4, 1), (5, 0), (6, 0), (7, 0), (8, 1), (9, 0), (10, 1), (11, 0), (12, 0), (13, 0)])] (by kernel_rfl) ?_
      refine norm_K fun K hK => ?_
      change wpList _ _ _ [_, _, _, _, _, _, _, _, _, _, _, _, _, _] _ _
      go_wp2_with fail
      first | (refine hK _ _ ⟨rfl, ?_⟩; clear hK K) | refine ⟨rfl, ?_⟩
      have hfin := tmod_bd (x := x0 + k) (n := n) (by omega) (by omega)
      go_wp2_with fail
      go_ret
      refine ⟨_, rfl, hfin.1, .inl hfin.2, ⟨_, m, i + 1, h2, (hx2.drew.drew.set1 ((i : Int) + 1)), ?_, by omega, hwr⟩, ?_, by simp [hsz]⟩
      · exact (hc2.drew_.drew_).chg (Chg.set _ ⟨q, 1, none⟩ _) (Nat.le_refl _)
      · exact (hch.trans (Chg.drew_.trans Chg.drew_)).trans (Chg.set _ ⟨q, 1, none⟩ _)
    · have hlt2 : ¬ ((i : Int) < (m : Int)) := by omega
      refine region_flow [(false, [(0, 0), (1, 0), (2, 0), (3, 1), (4, 0), (5, 0), (6, 0), (7, 1), (8, 0), (9, 0)])] (by kernel_rfl) ?_
      refine norm_K fun K hK => ?_
      change wpList _ _ _ [_, _, _, _, _, _, _, _, _, _] _ _
      go_wp2_with fail
      first | (refine hK _ _ ⟨rfl, ?_⟩; clear hK K) | refine ⟨rfl, ?_⟩
      have hfin := tmod_bd (x := x0) (n := n) (by omega) (by omega)
      go_wp2_with fail
      go_ret
      exact ⟨_, rfl, hfin.1, .inl hfin.2, ⟨_, m, i, h2, hx2.drew, hc2.drew_, hi1, hwr⟩, hch.trans Chg.drew_, hsz⟩
set_option maxHeartbeats 2000000 in
set_option maxRecDepth 100000 in
theorem droll_c {v : Value} {n : Nat} {sd : Int} {w : World} (hc : Co w w.heap.size v n) :
    Calls Try.prog 8 #[v, .int .u64 sd] w fun e w' => e = .returned (.pointer (some ⟨w.heap.size, 0, none⟩)) ∧ Dce w' w.heap.size ∧ w'.heap.size = w.heap.size + 1 ∧ Below w.heap.size w w' := by
  obtain ⟨a, c, rfl, hm, hby⟩ := id hc
  go_enter Try.func8, Try.ntmps8
  go_wp2
  go_loopw [6] (fun i wr => ∃ (k : Nat) (h : Int), k ≤ n ∧ i = .int .i64 k ∧ Dx wr w.heap.size (.slice a n c) 0 h ∧ 0 ≤ h ∧ h < 18446744073709551616 ∧ wr.heap.size = w.heap.size + 1 ∧ Below w.heap.size w wr) (fun i _ => n - (intOf i).toNat)
  case atStart => exact ⟨0, IntKind.u64.wrap (IntKind.u64.wrap (sd * 7681) + n), Nat.zero_le _, rfl, heap_alloc_new w _, (wrap_u64 _).1, (wrap_u64 _).2, by simp, (by repeat (first | exact Below.refl _ _ | apply blw_drew | apply blw_alloc | (refine blw_set ?_ (by first | omega | (simp; done) | (simp; omega)) _) | refine below_chain ?_ (by assumption)))⟩
  case round =>
    obtain ⟨k, h, hk, rfl, hx, h0, h1, hsz, hb⟩ := hrel
    have c0 := hx.c0; have c1 := hx.c1; have c2 := hx.c2; have f2 := hx.f 2
    by_cases hlt : k < n
    · have hc2 := hc.bl hb (Nat.le_refl _)
      obtain ⟨a2, cc2, e2, _, hby2⟩ := id hc2
      cases e2
      rcases hby2 with hz | ⟨b2, off2, rfl, hbq, hby2⟩
      · omega
      obtain ⟨y, hy, hyc⟩ := hby2 k hlt
      have hlt2 : (k : Int) < 4096 := by omega
      have HB := Lib.hid hby2; have HC := Lib.hid hby; clear hby2 hby
      have hwr2 := wrap_u64 (IntKind.u64.wrap (IntKind.u64.wrap (h * 1099511628211) + y) + 5)
      go_wp2
      refine region_flow [(false, [(0, 0), (1, 0), (2, 0), (3, 0), (4, 1), (5, 0), (6, 0), (7, 0), (8, 0), (9, 1), (10, 0), (11, 0), (12, 0), (13, 0), (14, 0), (15, 4)])] (by kernel_rfl) ?_
      refine norm_K fun K hK => ?_
      change wpList _ _ _ [_, _, _, _, _, _, _, _, _, _, _, _, _, _, _, _] _ _
      go_wp2_with fail
      first | (refine hK _ _ ⟨rfl, ?_⟩; clear hK K) | refine ⟨rfl, ?_⟩
      go_wp2
      go_roundw
      case rel => exact ⟨k + 1, _, by omega, by go_num, hx.drew.set2 _, (wrap_u64 _).1, (wrap_u64 _).2, by simp [hsz], (hb.drew).setCell (Nat.le_refl _) _⟩
      case measure => simp [intOf]; omega
    · obtain rfl : k = n := by omega
      have hnl : ¬ ((k : Int) < (k : Int)) := by omega
      go_wp2
      go_ret
      exact ⟨rfl, ⟨_, _, 0, h, hx, hc.bl hb (Nat.le_refl _), Nat.zero_le _, h0, h1⟩, hsz, hb⟩
end Go.Proofs.Ytapklfdojbicpaa
/-
  The laws' bound on codes.
-/
namespace Go.Proofs.Ytapklfdojbicpaa
open Go.RowKit

theorem big_c {a : Option Addr} {n c : Nat} {w : World} (hn : n ≤ 9223372036854775807) :
    Calls Try.prog 4 #[.slice a n c] w fun e w' => e = .returned (.bool (decide (4096 < n))) ∧ w = w' := by
  by_cases h : 4096 < n
  · have h2 : (4096 : Int) < (n : Int) := by omega
    rw [decide_eq_true h]
    go_enter Try.func4, Try.ntmps4
    go_wp2
    go_ret
    exact ⟨rfl, rfl⟩
  · have h2 : ¬ (4096 : Int) < (n : Int) := by omega
    rw [decide_eq_false h]
    go_enter Try.func4, Try.ntmps4
    go_wp2
    go_ret
    exact ⟨rfl, rfl⟩
end Go.Proofs.Ytapklfdojbicpaa
/-
  Digits of numbers as hermitian matrices: plain facts for the count of points; bytes.
-/
namespace Go.Proofs.Ytapklfdojbicpaa
open Go.RowKit

theorem digN_bd (i j : Nat) : 0 ≤ digN i j ∧ digN i j < 3 := by unfold digN; omega
theorem rowN_len (i : Nat) : ∀ o k, (rowN i o k).length = k
  | _, 0 => rfl
  | o, k + 1 => by unfold rowN; rw [List.length_append, rowN_len i o k]; rfl
theorem rowN_fp (i : Nat) : ∀ o k, Fp 3 (rowN i o k)
  | _, 0 => fun x hx => by cases hx
  | o, k + 1 => by
    unfold rowN
    exact fp_app (rowN_fp i o k) (fun x hx => by rw [List.mem_singleton.1 hx]; exact digN_bd _ _)
theorem rowN_ev (i o k : Nat) : Ev 3 k (rowN i o k) := ⟨rowN_len i o k, rowN_fp i o k⟩
theorem matN_is (s i : Nat) : isH 3 s (matN s i) = true := by
  have e : matN s i = ⟨[digN i 0, digN i 1, digN i 2], [rowN i 3 s, rowN i (3 + s) s, rowN i (3 + 2 * s) s]⟩ := rfl
  rw [e]
  exact isH_mk (digN_bd _ _) (digN_bd _ _) (digN_bd _ _) (rowN_ev _ _ _) (rowN_ev _ _ _) (rowN_ev _ _ _)
theorem matN_hsz {s i : Nat} (hs : s ≤ 2) : Hsz (matN s i) := by
  refine ⟨?_, ?_, ?_⟩
  · show (rowN i 0 3).length ≤ _
    rw [rowN_len]; decide
  · show 3 ≤ _
    decide
  · intro xs hx
    have hx : xs = rowN i 3 s ∨ xs = rowN i (3 + s) s ∨ xs = rowN i (3 + 2 * s) s := by simpa [matN] using hx
    rcases hx with rfl | rfl | rfl <;> rw [rowN_len] <;> omega
theorem cntU_le (f : Nat → Bool) : ∀ k, cntU f k ≤ k
  | 0 => Nat.le_refl _
  | k + 1 => by
    have := cntU_le f k
    unfold cntU
    split <;> omega
theorem cntU_yes {f : Nat → Bool} {k : Nat} (h : f k = true) : cntU f (k + 1) = cntU f k + 1 := by
  show cntU f k + (if f k then 1 else 0) = _
  rw [h]; rfl
theorem cntU_no {f : Nat → Bool} {k : Nat} (h : f k = false) : cntU f (k + 1) = cntU f k := by
  show cntU f k + (if f k then 1 else 0) = _
  rw [h]; rfl
theorem p27 {j : Nat} (h : j ≤ 6) : (27 : Int) ≤ 27 * 3 ^ j ∧ (27 : Int) * 3 ^ j ≤ 19683 := by
  have h2 : ∀ k : Fin 7, (27 : Int) ≤ 27 * 3 ^ k.val ∧ (27 : Int) * 3 ^ k.val ≤ 19683 := by decide
  exact h2 ⟨j, by omega⟩
theorem dig_next {k m q : Nat} (h : q = k / 3 ^ m) : ((q : Int) % 3 = digN k (0 + m)) ∧ q / 3 = k / 3 ^ (m + 1) := by
  subst h
  refine ⟨?_, ?_⟩
  · unfold digN; rw [Nat.zero_add]; omega
  · rw [Nat.pow_succ, Nat.div_div_eq_div_mul]
theorem pt_chk {st : List Int} {s i : Nat} (hd : isD 3 st = true) (h3 : st.length ≤ 3) (hs : s = sz st.length) : RIsPoint1 3 st (matN s i) = 0 ∧ RIsPoint0 3 st (matN s i) = ptN st s i := by
  have e : chkH 3 st [matN s i] = 0 := by
    unfold chkH
    rw [if_pos hd, if_neg (by omega), if_pos]
    simp only [List.all_cons, List.all_nil, Bool.and_true]
    rw [← hs]; exact matN_is s i
  exact ⟨e, by unfold RIsPoint0; rw [if_pos e]; rfl⟩
theorem cnt_fin1 : ((cntU (ptN [] 1) 729 : Nat) : Int) = 2 * RCountPoints0 3 [] ∧ RCountPoints1 3 [] = 0 := by
  refine ⟨?_, by decide⟩
  rw [show (729 : Nat) = 3 ^ 6 from rfl, cnt_all, cnt_one]; decide
theorem cnt_fin2 {g : Int} (h : g = 1 ∨ g = 2) : ((cntU (ptN [g] 2) 19683 : Nat) : Int) = 2 * RCountPoints0 3 [g] ∧ RCountPoints1 3 [g] = 0 := by
  rcases h with rfl | rfl
  · refine ⟨?_, by decide⟩
    rw [show (19683 : Nat) = 3 ^ 9 from rfl, cnt_all, cnt_two1]; decide
  · refine ⟨?_, by decide⟩
    rw [show (19683 : Nat) = 3 ^ 9 from rfl, cnt_all, cnt_two2]; decide
theorem RCountPoints_no {p : Int} {st : List Int} (h : RCountPoints1 p st ≠ 0) : RCountPoints0 p st = 0 := if_neg h
theorem OwN.el {w : World} {B : Nat} {v : Value} {xs : List Int} (h : OwN w B v xs) : El w v xs := by
  cases xs with
  | nil =>
    rcases h.2 with h2 | ⟨g, cap, cur, rfl, hg, hh, h3, h4, h5, h6⟩
    · rw [h2.1]; exact El.nil w
    · simp only [maxLen] at h4
      exact ⟨⟨_, cap, rfl, .inl rfl⟩, _, _, cap, rfl, by simp, by omega⟩
  | cons x r => exact (h.fr (by simp)).el
theorem OwN.new {w : World} {B : Nat} (h : B ≤ w.heap.size) : OwN (w.alloc (.cells #[] 2)) B (.slice (some ⟨w.heap.size, 0, none⟩) 0 0) [] := World.ownsRow_made _ _ _ h (by decide) rfl
theorem OwN.atN {w : World} {B : Nat} {v : Value} {xs : List Int} {n : Nat} (h : OwN w B v xs) (hn : xs.length = n) (h0 : 0 < n) : ∃ g cap, v = .slice (some ⟨g, 0, none⟩) n cap ∧ n ≤ cap ∧ cap ≤ 9223372036854775807 ∧ At w g 0 xs := by
  subst hn
  obtain ⟨b, off, c, rfl, h1, h2, h3⟩ := (h.el).op1 h0
  rcases h.2 with h4 | ⟨g, cap, cur, e, _⟩
  · cases h4.1
  · cases e; exact ⟨_, _, rfl, h1, h2, h3⟩
theorem mat_hv {w : World} {g cap U s k : Nat} (hs : 1 ≤ s) (hA : At w g 0 (rowN k 0 (3 + 3 * s))) (h1 : 3 + 3 * s ≤ cap) (h2 : cap ≤ 9223372036854775807)
    (c0 : w.cell? ⟨U, 0, none⟩ = some (.slice (some ⟨g, 3, none⟩) s (cap - 3))) (c1 : w.cell? ⟨U, 1, none⟩ = some (.slice (some ⟨g, 3 + s, none⟩) s (cap - (3 + s)))) (c2 : w.cell? ⟨U, 2, none⟩ = some (.slice (some ⟨g, 3 + 2 * s, none⟩) s (cap - (3 + 2 * s)))) :
    Hv w (.agg #[.slice (some ⟨g, 0, none⟩) 3 cap, .slice (some ⟨U, 0, none⟩) 3 3]) (matN s k) := by
  have hsub : ∀ o n, o + n ≤ 3 + 3 * s → At w g o (rowN k o n) := by
    intro o n hon j hj
    rw [rowN_len] at hj
    have := hA (o + j) (by rw [rowN_len]; omega)
    rw [Nat.zero_add] at this
    rw [this]
    have hg : ∀ i a b, i < b → (rowN k a b).getD i 0 = digN k (a + i) := by
      intro i a b
      induction b with
      | zero => intro h; omega
      | succ b ih =>
        intro h
        unfold rowN
        by_cases hb : i < b
        · rw [List.getD_eq_getElem?_getD, List.getElem?_append_left (by rw [rowN_len]; exact hb), ← List.getD_eq_getElem?_getD]; exact ih hb
        · obtain rfl : i = b := by omega
          rw [List.getD_eq_getElem?_getD, List.getElem?_append_right (by rw [rowN_len]; exact Nat.le_refl _), rowN_len]
          simp
    rw [hg _ _ _ (by omega), hg _ _ _ (by omega), Nat.zero_add]
  have e0 := hsub 0 3 (by omega)
  have e1 := (hsub 3 s (by omega)).el (c := cap - 3) (by rw [rowN_len]; omega) (by omega)
  have e2 := (hsub (3 + s) s (by omega)).el (c := cap - (3 + s)) (by rw [rowN_len]; omega) (by omega)
  have e3 := (hsub (3 + 2 * s) s (by omega)).el (c := cap - (3 + 2 * s)) (by rw [rowN_len]; omega) (by omega)
  rw [rowN_len] at e1 e2 e3
  refine ⟨_, _, rfl, ?_, ?_⟩
  · have e := e0.el (c := cap) (by rw [rowN_len]; omega) h2
    rw [rowN_len] at e; exact e
  · refine ⟨_, 3, rfl, Nat.le_refl _, by decide, .inr ⟨U, 0, rfl, fun j hj => ?_⟩⟩
    rcases (show j = 0 ∨ j = 1 ∨ j = 2 by have : j < 3 := hj; omega) with rfl | rfl | rfl
    · exact ⟨_, c0, e1⟩
    · exact ⟨_, c1, e2⟩
    · exact ⟨_, c2, e3⟩
end Go.Proofs.Ytapklfdojbicpaa
