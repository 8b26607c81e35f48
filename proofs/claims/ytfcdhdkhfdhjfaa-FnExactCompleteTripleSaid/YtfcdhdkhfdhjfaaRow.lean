/-
  The walks of the functions that make one row of integers out of others.
-/
import Derived.Test.YtfcdhdkhfdhjfaaNum
namespace Go.Proofs.Ytfcdhdkhfdhjfaa
open Go.RowKit

theorem two_rows {w : World} {x y : Value} {xs ys : List Int} (hx : Sl w x xs) (hy : Sl w y ys) (hl : ys.length = xs.length) :
    (xs = [] ∧ ys = [] ∧ ∃ a c a2 c2, x = .slice a 0 c ∧ y = .slice a2 0 c2) ∨ ∃ b off c b2 off2 c2, x = .slice (some ⟨b, off, none⟩) xs.length c ∧ y = .slice (some ⟨b2, off2, none⟩) xs.length c2 ∧ At w b off xs ∧ At w b2 off2 ys := by
  obtain ⟨a, c, rfl, hx⟩ := hx
  obtain ⟨a2, c2, rfl, hy⟩ := hy
  rcases hx with rfl | ⟨b, off, rfl, hx⟩
  · obtain rfl : ys = [] := List.eq_nil_of_length_eq_zero hl
    exact .inl ⟨rfl, rfl, a, c, a2, c2, rfl, rfl⟩
  · rcases hy with rfl | ⟨b2, off2, rfl, hy⟩
    · obtain rfl : xs = [] := List.eq_nil_of_length_eq_zero hl.symm
      exact .inl ⟨rfl, rfl, _, c, a2, c2, rfl, rfl⟩
    · exact .inr ⟨b, off, c, b2, off2, c2, rfl, by rw [hl], hx, hy⟩

theorem plus_c {p k : Int} {x y : Value} {xs ys : List Int} {w : World} (hp : 1 ≤ p) (hp2 : p ≤ 1000) (hk1 : -1000000 ≤ k) (hk2 : k ≤ 1000000)
    (hx : Sl w x xs) (hy : Sl w y ys) (sx : Sm 1000000 xs) (sy : Sm 1000000 ys) (hl : ys.length = xs.length) (hm : xs.length ≤ 1000000) :
    Calls Try.prog 82 #[.int .i64 p, x, y, .int .i64 k] w fun e w' => ∃ v, e = .returned v ∧ FrI w' w.heap.size v (plusL p xs ys k) ∧ Below w.heap.size w w' := by
  rcases two_rows hx hy hl with ⟨rfl, rfl, a, c, a2, c2, rfl, rfl⟩ | ⟨b, off, c, b2, off2, c2, rfl, rfl, hx, hy⟩
  · go_enter Try.func82, Try.ntmps82
    go_wp2
    refine wp_loop_rounds 1 ?_; rw [rounds_succ]
    go_wp2
    go_ret
    exact ⟨_, rfl, (OwnI.new (Nat.le_refl _)).fr, (by repeat (first | exact .refl _ _ | apply bwD | apply bwA | (refine bwS ?_ (by first | omega | simp <;> omega) _) | refine bwC ?_ (by assumption)))⟩
  have HL := Lib.hid hl; clear hl
  go_enter Try.func82, Try.ntmps82
  go_wp2
  go_loopw [9, 15] (fun v i wr => ∃ m g cap : Nat, m ≤ xs.length ∧ i = .int .i64 m ∧ v = .slice (some ⟨g, 0, none⟩) m cap ∧ OwnI wr w.heap.size g m cap (plusL p (xs.take m) (ys.take m) k) ∧ Below w.heap.size w wr)
    (fun _ i _ => xs.length - (intOf i).toNat)
  case atStart => exact ⟨0, w.heap.size, 0, Nat.zero_le _, rfl, rfl, OwnI.new (Nat.le_refl _), (by repeat (first | exact .refl _ _ | apply bwD | apply bwA | (refine bwS ?_ (by first | omega | simp <;> omega) _) | refine bwC ?_ (by assumption)))⟩
  case round =>
    obtain ⟨m, g, cap, hm', rfl, rfl, hown, hb⟩ := hrel
    by_cases hlt : m < xs.length
    · obtain ⟨u, hxm, hcx, htx⟩ := (hx.below hb).get hlt
      obtain ⟨z, hym, hcy, hty⟩ := (hy.below hb).get (m := m) (by rw [HL.out]; exact hlt)
      have s1 := sx u hxm
      have s2 := sy z hym
      have s3 := mulb hk1 hk2 s2.1 s2.2
      have H := Lib.hid (And.intro htx hty); clear htx hty
      go_wp2_with (first
       | (go_at_call 32; refine (num_c hp hp2).mono ?_; rintro e w' ⟨rfl, rfl⟩)
       | (at_builtin; refine app_one rfl _ _ rfl wr w.heap.size g m cap _ rfl ((u + k * z) % p) _ rfl hown hb.size (by omega) ?_; intro g' cap' w' hown' hb' hg' hgg))
      go_roundw
      case rel => exact ⟨m + 1, g', cap', by omega, by go_num, rfl, by rw [H.out.1, H.out.2, plusL_snoc (by have := HL.out; simp; omega)]; exact hown', hb.trans hb'⟩
      case measure => simp [intOf]; omega
    · obtain rfl : m = xs.length := by omega
      rw [take_all (Nat.le_refl _), take_all (by rw [HL.out]; exact Nat.le_refl _)] at hown
      go_wp2
      go_ret
      exact ⟨_, rfl, hown.fr, hb⟩
theorem scaled_c {p k : Int} {x : Value} {xs : List Int} {w : World} (hp : 1 ≤ p) (hp2 : p ≤ 1000) (hk1 : -1000000 ≤ k) (hk2 : k ≤ 1000000)
    (hx : Sl w x xs) (sx : Sm 1000000 xs) (hm : xs.length ≤ 1000000) :
    Calls Try.prog 80 #[.int .i64 p, x, .int .i64 k] w fun e w' => ∃ v, e = .returned v ∧ FrI w' w.heap.size v (scaleL p xs k) ∧ Below w.heap.size w w' := by
  obtain ⟨a, c, rfl, rfl | ⟨b, off, rfl, hx⟩⟩ := hx
  · go_enter Try.func80, Try.ntmps80
    go_wp2
    refine wp_loop_rounds 1 ?_; rw [rounds_succ]
    go_wp2
    go_ret
    exact ⟨_, rfl, (OwnI.new (Nat.le_refl _)).fr, (by repeat (first | exact .refl _ _ | apply bwD | apply bwA | (refine bwS ?_ (by first | omega | simp <;> omega) _) | refine bwC ?_ (by assumption)))⟩
  go_enter Try.func80, Try.ntmps80
  go_wp2
  go_loopw [7, 13] (fun v i wr => ∃ m g cap : Nat, m ≤ xs.length ∧ i = .int .i64 m ∧ v = .slice (some ⟨g, 0, none⟩) m cap ∧ OwnI wr w.heap.size g m cap (scaleL p (xs.take m) k) ∧ Below w.heap.size w wr)
    (fun _ i _ => xs.length - (intOf i).toNat)
  case atStart => exact ⟨0, w.heap.size, 0, Nat.zero_le _, rfl, rfl, OwnI.new (Nat.le_refl _), (by repeat (first | exact .refl _ _ | apply bwD | apply bwA | (refine bwS ?_ (by first | omega | simp <;> omega) _) | refine bwC ?_ (by assumption)))⟩
  case round =>
    obtain ⟨m, g, cap, hm', rfl, rfl, hown, hb⟩ := hrel
    by_cases hlt : m < xs.length
    · obtain ⟨u, hxm, hcx, htx⟩ := (hx.below hb).get hlt
      have s1 := sx u hxm
      have s3 := mulb s1.1 s1.2 hk1 hk2
      have H := Lib.hid htx; clear htx
      go_wp2_with (first
       | (go_at_call 32; refine (num_c hp hp2).mono ?_; rintro e w' ⟨rfl, rfl⟩)
       | (at_builtin; refine app_one rfl _ _ rfl wr w.heap.size g m cap _ rfl (u * k % p) _ rfl hown hb.size (by omega) ?_; intro g' cap' w' hown' hb' hg' hgg))
      go_roundw
      case rel => exact ⟨m + 1, g', cap', by omega, by go_num, rfl, by rw [H.out, scaleL_snoc]; exact hown', hb.trans hb'⟩
      case measure => simp [intOf]; omega
    · obtain rfl : m = xs.length := by omega
      rw [take_all (Nat.le_refl _)] at hown
      go_wp2
      go_ret
      exact ⟨_, rfl, hown.fr, hb⟩
theorem clone_c {x : Value} {xs : List Int} {w : World} (hx : Sl w x xs) (hne : 0 < xs.length) (hm : xs.length ≤ 1000000) :
    Calls Try.prog 56 #[x] w fun e w' => ∃ v, e = .returned v ∧ FrI w' w.heap.size v xs ∧ Below w.heap.size w w' := by
  obtain ⟨a, c, rfl, rfl | ⟨b, off, rfl, hx⟩⟩ := hx
  · simp at hne
  have hc := hx.below (w' := w.alloc (.cells #[] 2)) (by repeat (first | exact .refl _ _ | apply bwD | apply bwA | (refine bwS ?_ (by first | omega | simp <;> omega) _) | refine bwC ?_ (by assumption)))
  have hnil := fun w => Lib.run_eql_slice_nil (P := Try.prog) w 22 2 (some ⟨b, off, none⟩) xs.length c 0 0 Try.underlying22
  go_enter Try.func56, Try.ntmps56
  go_wp2_with (at_builtin; refine app_int rfl _ _ rfl (w.alloc (.cells #[] 2)) w.heap.size w.heap.size 0 0 [] rfl b off xs.length c xs rfl (OwnI.new (Nat.le_refl _)) (by simp) hc rfl hne (by omega) ?_; intro g' cap' w' hown' hg' hgg)
  go_ret
  simp only [Nat.zero_add, List.nil_append] at hown' ⊢
  exact ⟨_, rfl, hown'.fr, blw_grown (bwA (Below.refl _ _) _) hg' (Nat.le_refl _)⟩
theorem own_c {x : Value} {xs : List Int} {w : World} (hx : Sl w x xs) (hne : 0 < xs.length) (hm : xs.length ≤ 1000000) :
    Calls Try.prog 67 #[x] w fun e w' => ∃ v, e = .returned v ∧ FrI w' w.heap.size v xs ∧ Below w.heap.size w w' := by
  obtain ⟨a, c, rfl, rfl | ⟨b, off, rfl, hx⟩⟩ := hx
  · simp at hne
  have hc := hx.below (w' := w.alloc (.cells #[] 2)) (by repeat (first | exact .refl _ _ | apply bwD | apply bwA | (refine bwS ?_ (by first | omega | simp <;> omega) _) | refine bwC ?_ (by assumption)))
  go_enter Try.func67, Try.ntmps67
  go_wp2_with (at_builtin; refine app_int rfl _ _ rfl (w.alloc (.cells #[] 2)) w.heap.size w.heap.size 0 0 [] rfl b off xs.length c xs rfl (OwnI.new (Nat.le_refl _)) (by simp) hc rfl hne (by omega) ?_; intro g' cap' w' hown' hg' hgg)
  go_ret
  simp only [Nat.zero_add, List.nil_append] at hown' ⊢
  exact ⟨_, rfl, hown'.fr, blw_grown (bwA (Below.refl _ _) _) hg' (Nat.le_refl _)⟩
theorem smod_c {p n : Int} {w : World} (hp : 1 ≤ p) (hp2 : p ≤ 1000) :
    Calls Try.prog 42 #[.int .i64 p, .int .i64 n] w fun e w' => e = .returned (.int .i64 (n % p)) ∧ w = w' := by
  obtain ⟨t1, t2, t3⟩ := tmodb (n := n) hp
  have T3 := Lib.hid t3; clear t3
  go_enter Try.func42, Try.ntmps42
  go_wp2
  go_ret
  exact ⟨by simp [T3.out], rfl⟩
theorem sadd_c {p : Int} {x y : Value} {xs ys : List Int} {w : World} (hp : 1 ≤ p) (hp2 : p ≤ 1000)
    (hx : Sl w x xs) (hy : Sl w y ys) (sx : Sm 1000000 xs) (sy : Sm 1000000 ys) (hl : ys.length = xs.length) (hm : xs.length ≤ 1000000) :
    Calls Try.prog 22 #[.int .i64 p, x, y] w fun e w' => ∃ v, e = .returned v ∧ FrI w' w.heap.size v (plusL p xs ys 1) ∧ Below w.heap.size w w' := by
  rcases two_rows hx hy hl with ⟨rfl, rfl, a, c, a2, c2, rfl, rfl⟩ | ⟨b, off, c, b2, off2, c2, rfl, rfl, hx, hy⟩
  · go_enter Try.func22, Try.ntmps22
    go_wp2
    refine wp_loop_rounds 1 ?_; rw [rounds_succ]
    go_wp2
    go_ret
    exact ⟨_, rfl, (OwnI.new (Nat.le_refl _)).fr, (by repeat (first | exact .refl _ _ | apply bwD | apply bwA | (refine bwS ?_ (by first | omega | simp <;> omega) _) | refine bwC ?_ (by assumption)))⟩
  have HL := Lib.hid hl; clear hl
  go_enter Try.func22, Try.ntmps22
  go_wp2
  go_loopw [7, 8] (fun v i wr => ∃ m g cap : Nat, m ≤ xs.length ∧ i = .int .i64 m ∧ v = .slice (some ⟨g, 0, none⟩) m cap ∧ OwnI wr w.heap.size g m cap (plusL p (xs.take m) (ys.take m) 1) ∧ Below w.heap.size w wr)
    (fun _ i _ => xs.length - (intOf i).toNat)
  case atStart => exact ⟨0, w.heap.size, 0, Nat.zero_le _, rfl, rfl, OwnI.new (Nat.le_refl _), (by repeat (first | exact .refl _ _ | apply bwD | apply bwA | (refine bwS ?_ (by first | omega | simp <;> omega) _) | refine bwC ?_ (by assumption)))⟩
  case round =>
    obtain ⟨m, g, cap, hm', rfl, rfl, hown, hb⟩ := hrel
    by_cases hlt : m < xs.length
    · obtain ⟨u, hxm, hcx, htx⟩ := (hx.below hb).get hlt
      obtain ⟨z, hym, hcy, hty⟩ := (hy.below hb).get (m := m) (by rw [HL.out]; exact hlt)
      have s1 := sx u hxm
      have s2 := sy z hym
      have H := Lib.hid (And.intro htx hty); clear htx hty
      go_wp2
      refine region_flow [(false, [(0, 0), (1, 0), (2, 0), (3, 0), (4, 0), (5, 1), (6, 0), (7, 0), (8, 0), (9, 1), (10, 0), (11, 4), (12, 4), (13, 4), (14, 0)])] (by kernel_rfl) ?_
      refine norm_K fun K hK => ?_
      change wpList _ _ _ [_, _, _, _, _, _, _, _, _, _, _, _, _, _, _] _ _
      go_wp2_with (first
       | (go_at_call 42; refine (smod_c hp hp2).mono ?_; rintro e w' ⟨rfl, rfl⟩)
       | (at_builtin; refine app_one rfl _ _ rfl wr.drew w.heap.size g m cap _ rfl ((u + z) % p) _ rfl hown hb.size (by omega) ?_; intro g' cap' w' hown' hb' hg' hgg))
      first | (refine hK _ _ ⟨rfl, ?_⟩; clear hK K) | refine ⟨rfl, ?_⟩
      go_wp2
      go_roundw
      case rel => exact ⟨m + 1, g', cap', by omega, by go_num, rfl, by rw [H.out.1, H.out.2, plusL_snoc (by have := HL.out; simp; omega), Int.one_mul]; exact hown', hb.drew.trans hb'⟩
      case measure => simp [intOf]; omega
    · obtain rfl : m = xs.length := by omega
      rw [take_all (Nat.le_refl _), take_all (by rw [HL.out]; exact Nat.le_refl _)] at hown
      go_wp2
      go_ret
      exact ⟨_, rfl, hown.fr, hb⟩
theorem sscale_c {p k : Int} {x : Value} {xs : List Int} {w : World} (hp : 1 ≤ p) (hp2 : p ≤ 1000) (hk1 : -1000000 ≤ k) (hk2 : k ≤ 1000000)
    (hx : Sl w x xs) (sx : Sm 1000000 xs) (hm : xs.length ≤ 1000000) :
    Calls Try.prog 23 #[.int .i64 p, .int .i64 k, x] w fun e w' => ∃ v, e = .returned v ∧ FrI w' w.heap.size v (scaleL p xs k) ∧ Below w.heap.size w w' := by
  obtain ⟨a, c, rfl, rfl | ⟨b, off, rfl, hx⟩⟩ := hx
  · go_enter Try.func23, Try.ntmps23
    go_wp2
    refine wp_loop_rounds 1 ?_; rw [rounds_succ]
    go_wp2
    go_ret
    exact ⟨_, rfl, (OwnI.new (Nat.le_refl _)).fr, (by repeat (first | exact .refl _ _ | apply bwD | apply bwA | (refine bwS ?_ (by first | omega | simp <;> omega) _) | refine bwC ?_ (by assumption)))⟩
  go_enter Try.func23, Try.ntmps23
  go_wp2
  go_loopw [7, 8] (fun v i wr => ∃ m g cap : Nat, m ≤ xs.length ∧ i = .int .i64 m ∧ v = .slice (some ⟨g, 0, none⟩) m cap ∧ OwnI wr w.heap.size g m cap (scaleL p (xs.take m) k) ∧ Below w.heap.size w wr)
    (fun _ i _ => xs.length - (intOf i).toNat)
  case atStart => exact ⟨0, w.heap.size, 0, Nat.zero_le _, rfl, rfl, OwnI.new (Nat.le_refl _), (by repeat (first | exact .refl _ _ | apply bwD | apply bwA | (refine bwS ?_ (by first | omega | simp <;> omega) _) | refine bwC ?_ (by assumption)))⟩
  case round =>
    obtain ⟨m, g, cap, hm', rfl, rfl, hown, hb⟩ := hrel
    by_cases hlt : m < xs.length
    · obtain ⟨u, hxm, hcx, htx⟩ := (hx.below hb).get hlt
      have s1 := sx u hxm
      have s3 := mulb hk1 hk2 s1.1 s1.2
      have H := Lib.hid htx; clear htx
      go_wp2_with (first
       | (go_at_call 42; refine (smod_c hp hp2).mono ?_; rintro e w' ⟨rfl, rfl⟩)
       | (at_builtin; refine app_one rfl _ _ rfl wr w.heap.size g m cap _ rfl (k * u % p) _ rfl hown hb.size (by omega) ?_; intro g' cap' w' hown' hb' hg' hgg))
      go_roundw
      case rel => exact ⟨m + 1, g', cap', by omega, by go_num, rfl, by rw [H.out, scaleL_snoc, Int.mul_comm u k]; exact hown', hb.trans hb'⟩
      case measure => simp [intOf]; omega
    · obtain rfl : m = xs.length := by omega
      rw [take_all (Nat.le_refl _)] at hown
      go_wp2
      go_ret
      exact ⟨_, rfl, hown.fr, hb⟩
end Go.Proofs.Ytfcdhdkhfdhjfaa
