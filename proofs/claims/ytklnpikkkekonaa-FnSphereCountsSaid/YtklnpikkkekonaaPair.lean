/-
  Products and norms of vectors, the program's and the reference's.
-/
import Derived.Test.YtklnpikkkekonaaLaw2
namespace Go.Proofs.Ytklnpikkkekonaa
open Go.RowKit

theorem Fp.take {p : Int} {xs : List Int} (h : Fp p xs) (k : Nat) : Fp p (xs.take k) := fun x hx => h x (List.mem_of_mem_take hx)
theorem Fp.app {p : Int} {xs ys : List Int} (h : Fp p xs) (k : Fp p ys) : Fp p (xs ++ ys) := fun x hx => by
  rcases List.mem_append.1 hx with hx | hx
  · exact h x hx
  · exact k x hx
def pairL (p : Int) (sq v w : List Int) : Int := dotL p (wgtL p sq v) w
theorem pairL_fp {p : Int} {sq v w : List Int} (hp : 1 ≤ p) : 0 ≤ pairL p sq v w ∧ pairL p sq v w < p := mod_fp hp
theorem wgt_c {p0 : Int} {x0 x1 : Value} {sq0 xs1 : List Int} {w : World} (hp : 1 ≤ p0) (hp2 : p0 ≤ 1000) (hx0 : Sl w x0 sq0) (hx1 : Sl w x1 xs1) (sx : Sm 1000 sq0) (sy : Sm 1000 xs1) (hl : sq0.length = xs1.length) (hn : 1 ≤ sq0.length) (hm : xs1.length ≤ 1000) :
    Calls Try.prog 61 #[.agg #[.int .i64 p0, x0], x1] w fun e w' => ∃ v, e = .returned v ∧ FrI w' w.heap.size v (wgtL p0 sq0 xs1) ∧ Below w.heap.size w w' := by
  rcases two_rows hx1 hx0 hl with ⟨rfl, rfl, _⟩ | ⟨b, off, c, b2, off2, c2, rfl, rfl, hx1, hx0⟩
  · simp at hn
  have HL := Lib.hid hl; clear hl hn
  have X1 := hx1
  go_enter Try.func61, Try.ntmps61
  go_wp2
  obtain ⟨W, hW⟩ : ∃ W, W = w.alloc (.cells #[.int .i64 p0, .slice (some ⟨b2, off2, none⟩) xs1.length c2] 26) := ⟨_, rfl⟩
  have hbW : Below w.heap.size w W := by rw [hW]; exact (by repeat (first | exact Below.refl _ _ | apply blw_drew | apply blw_alloc | (refine blw_set ?_ (by first | omega | (simp; done) | (simp; omega)) _) | refine below_chain ?_ (by assumption)))
  have d0 : W.cell? ⟨w.heap.size, 0, none⟩ = some (.int .i64 p0) := by rw [hW]; simp [go_sem]
  have d1 : W.cell? ⟨w.heap.size, 1, none⟩ = some (.slice (some ⟨b2, off2, none⟩) xs1.length c2) := by rw [hW]; simp [go_sem]
  have hx1 := hx1.below hbW
  have hx0 := hx0.below hbW
  have hsz := hbW.size
  have hsz2 : w.heap.size + 1 = W.heap.size := by rw [hW]; simp
  have hnew : OwnI (W.alloc (.cells #[] 2)) W.heap.size W.heap.size 0 0 [] := OwnI.new (Nat.le_refl _)
  rw [← hW]
  go_loopw [5, 11] (fun v i wr => ∃ m g cap : Nat, m ≤ xs1.length ∧ i = .int .i64 m ∧ v = .slice (some ⟨g, 0, none⟩) m cap ∧ OwnI wr W.heap.size g m cap (wgtL p0 (sq0.take m) (xs1.take m)) ∧ Below W.heap.size W wr)
    (fun _ i _ => xs1.length - (intOf i).toNat)
  case atStart => exact ⟨0, W.heap.size, 0, Nat.zero_le _, rfl, by rw [hsz2], hnew, (by repeat (first | exact Below.refl _ _ | apply blw_drew | apply blw_alloc | (refine blw_set ?_ (by first | omega | (simp; done) | (simp; omega)) _) | refine below_chain ?_ (by assumption)))⟩
  case round =>
    clear hsz2 hsz
    obtain ⟨m, g, cap, hm', rfl, rfl, hown, hb⟩ := hrel
    have hbw := below_chain hbW hb
    have d0 := kept hb d0
    have d1 := kept hb d1
    by_cases hlt : m < xs1.length
    · obtain ⟨u, hxm, hcx, htx⟩ := (hx1.below hb).get hlt
      obtain ⟨z, hym, hcy, hty⟩ := (hx0.below hb).get (m := m) (by rw [HL.out]; exact hlt)
      have s1 := sy u hxm
      have s2 := sx z hym
      have s3 := mulb s1.1 s1.2 s2.1 s2.2
      have H := Lib.hid (And.intro htx hty); clear htx hty
      go_wp2
      refine region_flow [(false, [(0, 0), (1, 1), (3, 0), (4, 0), (5, 1), (6, 0), (7, 0), (8, 1), (9, 0), (2, 5)]), (false, [(10, 4), (11, 4), (12, 4), (13, 0)])] (by kernel_rfl) ?_
      refine norm_K fun K hK => ?_
      change wpList _ _ _ [_, _, _, _, _, _, _, _, _, _] _ _
      have hbd : Below wr.heap.size wr wr.drew := (by repeat (first | exact Below.refl _ _ | apply blw_drew | apply blw_alloc | (refine blw_set ?_ (by first | omega | (simp; done) | (simp; omega)) _) | refine below_chain ?_ (by assumption)))
      have d0 := kept hbd d0
      have d1 := kept hbd d1
      have hcx := kept hbd hcx
      have hcy := kept hbd hcy
      have hown := hown.below hbd
      go_wp2_with fail
      refine spfield_c.mono ?_; rintro e w1 ⟨rfl, hb1⟩
      go_wp2_with fail
      first | (refine hK _ _ ⟨hb1, ?_⟩; clear hK K) | refine ⟨hb1, ?_⟩
      refine norm_K fun K hK => ?_
      change wpList _ _ _ [_, _, _, _] _ _
      have hown := hown.below hb1
      go_wp2_with fail
      refine (num_c hp hp2).mono ?_; rintro e w2 ⟨rfl, rfl⟩
      have hB2 : W.heap.size ≤ w1.heap.size := by have h1 := hb.size; have h2 := hb1.size; have h3 := hbd.size; omega
      go_wp2_with (at_builtin; refine app_one rfl _ _ rfl w1 W.heap.size g m cap _ rfl ((u * z) % p0) _ rfl hown hB2 (by omega) ?_; intro g' cap' w' hown' hb' hg' hgg)
      first | (refine hK _ _ ⟨rfl, ?_⟩; clear hK K) | refine ⟨rfl, ?_⟩
      go_wp2
      go_roundw
      case rel => exact ⟨m + 1, g', cap', by omega, by go_num, rfl, by rw [H.out.1, H.out.2, wgtL_snoc (by have := HL.out; simp; omega)]; exact hown', (below_chain hb.drew hb1).trans hb'⟩
      case measure => simp [intOf]; omega
    · obtain rfl : m = xs1.length := by omega
      rw [take_all (Nat.le_refl _), take_all (by rw [HL.out]; exact Nat.le_refl _)] at hown
      go_wp2
      go_ret
      exact ⟨_, rfl, (hown.rebase (by have := hown.lt; have := hbW.size; omega)).fr, below_chain hbW hb⟩
theorem pair_c {p0 : Int} {x0 x1 x2 : Value} {sq0 xs1 xs2 : List Int} {w : World} (hp : 1 ≤ p0) (hp2 : p0 ≤ 1000) (hx0 : Sl w x0 sq0) (hx1 : Sl w x1 xs1) (hx2 : Sl w x2 xs2) (s0 : Sm 1000 sq0) (s1 : Sm 1000 xs1) (s2 : Sm 1000 xs2) (l1 : sq0.length = xs1.length) (l2 : xs2.length = xs1.length) (hn : 1 ≤ sq0.length) (hm : xs1.length ≤ 1000) :
    Calls Try.prog 38 #[.agg #[.int .i64 p0, x0], x1, x2] w fun e w' => e = .returned (.int .i64 (pairL p0 sq0 xs1 xs2)) ∧ Below w.heap.size w w' := by
  obtain ⟨a0, c0, rfl, _⟩ := id hx0
  have L1 := Lib.hid l1; have L2 := Lib.hid l2; clear l1 l2
  go_enter Try.func38, Try.ntmps38
  have hb0 : Below w.heap.size w (w.alloc (.cells #[.int .i64 p0, .slice a0 sq0.length c0] 26)) := (by repeat (first | exact Below.refl _ _ | apply blw_drew | apply blw_alloc | (refine blw_set ?_ (by first | omega | (simp; done) | (simp; omega)) _) | refine below_chain ?_ (by assumption)))
  have hx0 := hx0.below hb0; have hx1 := hx1.below hb0; have hx2 := hx2.below hb0
  have d00 : (w.alloc (.cells #[.int .i64 p0, .slice a0 sq0.length c0] 26)).cell? ⟨w.heap.size, 0, none⟩ = some (.int .i64 p0) := by simp [go_sem]
  have d01 : (w.alloc (.cells #[.int .i64 p0, .slice a0 sq0.length c0] 26)).cell? ⟨w.heap.size, 1, none⟩ = some (.slice a0 sq0.length c0) := by simp [go_sem]
  go_wp2_with fail
  refine region_flow [(false, [(0, 1), (2, 1), (3, 0), (5, 0), (1, 5)]), (false, [(4, 4), (6, 4), (7, 0)])] (by kernel_rfl) ?_
  refine norm_K fun K hK => ?_
  change wpList _ _ _ [_, _, _, _, _] _ _
  have hb1 : Below (w.alloc (.cells #[.int .i64 p0, .slice a0 sq0.length c0] 26)).heap.size (w.alloc (.cells #[.int .i64 p0, .slice a0 sq0.length c0] 26)) (w.alloc (.cells #[.int .i64 p0, .slice a0 sq0.length c0] 26)).drew := (by repeat (first | exact Below.refl _ _ | apply blw_drew | apply blw_alloc | (refine blw_set ?_ (by first | omega | (simp; done) | (simp; omega)) _) | refine below_chain ?_ (by assumption)))
  have hx0 := hx0.below hb1; have hx1 := hx1.below hb1; have hx2 := hx2.below hb1; have d00 := kept hb1 d00; have d01 := kept hb1 d01
  go_wp2_with fail
  refine (spfield_c).mono ?_; rintro e w2 ⟨rfl, hb2⟩
  have hx0 := hx0.below hb2; have hx1 := hx1.below hb2; have hx2 := hx2.below hb2; have d00 := kept hb2 d00; have d01 := kept hb2 d01
  go_wp2_with fail
  have hz0 : Below (w.alloc (.cells #[.int .i64 p0, .slice a0 sq0.length c0] 26)).drew.heap.size (w.alloc (.cells #[.int .i64 p0, .slice a0 sq0.length c0] 26)).drew w2 := (by repeat (first | exact Below.refl _ _ | apply blw_drew | apply blw_alloc | (refine blw_set ?_ (by first | omega | (simp; done) | (simp; omega)) _) | refine below_chain ?_ (by assumption)))
  first | (refine hK _ _ ⟨hz0, ?_⟩; clear hK K) | refine ⟨hz0, ?_⟩
  clear hz0
  refine norm_K fun K hK => ?_
  change wpList _ _ _ [_, _, _] _ _
  go_wp2_with fail
  refine (wgt_c hp hp2 hx0 hx1 s0 s1 L1.out hn hm).mono ?_; rintro e w3 ⟨v, rfl, hv, hb3⟩
  have hx0 := hx0.below hb3; have hx1 := hx1.below hb3; have hx2 := hx2.below hb3; have d00 := kept hb3 d00; have d01 := kept hb3 d01
  go_wp2_with fail
  refine (dot_c hp hp2 hv.sl hx2 ((wgtL_fp hp).sm (by omega) (by omega)) s2 (by rw [wgtL_len L1.out]; exact L2.out) (by rw [wgtL_len L1.out]; omega)).mono ?_; rintro e w4 ⟨rfl, rfl⟩
  go_wp2_with fail
  first | (refine hK _ _ ⟨rfl, ?_⟩; clear hK K) | refine ⟨rfl, ?_⟩
  go_wp2
  go_ret
  exact ⟨rfl, (by repeat (first | exact Below.refl _ _ | apply blw_drew | apply blw_alloc | (refine blw_set ?_ (by first | omega | (simp; done) | (simp; omega)) _) | refine below_chain ?_ (by assumption)))⟩
theorem norm_c {p0 : Int} {x0 x1 : Value} {sq0 xs1 : List Int} {w : World} (hp : 1 ≤ p0) (hp2 : p0 ≤ 1000) (hx0 : Sl w x0 sq0) (hx1 : Sl w x1 xs1) (s0 : Sm 1000 sq0) (s1 : Sm 1000 xs1) (l1 : sq0.length = xs1.length) (hn : 1 ≤ sq0.length) (hm : xs1.length ≤ 1000) :
    Calls Try.prog 48 #[.agg #[.int .i64 p0, x0], x1] w fun e w' => e = .returned (.int .i64 (pairL p0 sq0 xs1 xs1)) ∧ Below w.heap.size w w' := by
  obtain ⟨a0, c0, rfl, _⟩ := id hx0
  have L1 := Lib.hid l1; clear l1
  go_enter Try.func48, Try.ntmps48
  have hb0 : Below w.heap.size w (w.alloc (.cells #[.int .i64 p0, .slice a0 sq0.length c0] 26)) := (by repeat (first | exact Below.refl _ _ | apply blw_drew | apply blw_alloc | (refine blw_set ?_ (by first | omega | (simp; done) | (simp; omega)) _) | refine below_chain ?_ (by assumption)))
  have hx0 := hx0.below hb0; have hx1 := hx1.below hb0
  have d00 : (w.alloc (.cells #[.int .i64 p0, .slice a0 sq0.length c0] 26)).cell? ⟨w.heap.size, 0, none⟩ = some (.int .i64 p0) := by simp [go_sem]
  have d01 : (w.alloc (.cells #[.int .i64 p0, .slice a0 sq0.length c0] 26)).cell? ⟨w.heap.size, 1, none⟩ = some (.slice a0 sq0.length c0) := by simp [go_sem]
  go_wp2_with fail
  refine (pair_c hp hp2 hx0 hx1 hx1 s0 s1 s1 L1.out rfl hn hm).mono ?_; rintro e w1 ⟨rfl, hb1⟩
  have hx0 := hx0.below hb1; have hx1 := hx1.below hb1; have d00 := kept hb1 d00; have d01 := kept hb1 d01
  go_wp2_with fail
  go_ret
  exact ⟨rfl, (by repeat (first | exact Below.refl _ _ | apply blw_drew | apply blw_alloc | (refine blw_set ?_ (by first | omega | (simp; done) | (simp; omega)) _) | refine below_chain ?_ (by assumption)))⟩
end Go.Proofs.Ytklnpikkkekonaa
