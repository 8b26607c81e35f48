/- Texts joined for a claim: CJordanSum, LJordanDeterminant, LJordanPairing, HfA, Ring, Oct. -/
import Derived.Test.YtgcelfnjijhmkaaGreatHcT
import Derived.Test.YtgcelfnjijhmkaaGreatJbc
import Derived.Test.YtgcelfnjijhmkaaGreatJao
import Derived.Test.YtgcelfnjijhmkaaGreatHcD
import Derived.Test.YtgcelfnjijhmkaaGreatJbd
import Derived.Test.YtgcelfnjijhmkaaGreatJaf
/-
  JordanSum: the program's and the reference's.
-/
namespace Go.Proofs.YtgcelfnjijhmkaaGreat
open Go.RowKit

end Go.Proofs.YtgcelfnjijhmkaaGreat
/-
  The determinant: the program's and the reference's, and the law.
-/
namespace Go.Proofs.YtgcelfnjijhmkaaGreat
open Go.RowKit

end Go.Proofs.YtgcelfnjijhmkaaGreat
/-
  The pairing: the program's and the reference's, and the law.
-/
namespace Go.Proofs.YtgcelfnjijhmkaaGreat
open Go.RowKit

end Go.Proofs.YtgcelfnjijhmkaaGreat
/-
  The laws' helpers on drawn matrices: comparison of what is equal; products, sums, determinants, pairings of checked ones.
-/
namespace Go.Proofs.YtgcelfnjijhmkaaGreat
open Go.RowKit

theorem OwH.frh {w : World} {B : Nat} {v : Value} {X : Her} (h : OwH w B v X) (h3 : X.dg.length = 3) : FrH w B v X := by
  rcases h with ⟨_, rfl⟩ | h
  · simp at h3
  · exact h
theorem isH_hsz {p : Int} {st : List Int} {X : Her} (hd : Dok p st) (h : isH p (sz st.length) X = true) : Hsz X := by
  obtain ⟨a, b, c, u, v, t, e, _, _, _, _, _, _, hu, hv, ht⟩ := isH_op h
  rw [e]
  have h16 := pow_le (n := st.length) (by have := hd.hl; omega)
  refine ⟨by show 3 ≤ _; decide, by show 3 ≤ _; decide, fun xs hx => ?_⟩
  have hx : xs = u ∨ xs = v ∨ xs = t := by simpa using hx
  rcases hx with rfl | rfl | rfl
  · rw [hu.1]; omega
  · rw [hv.1]; omega
  · rw [ht.1]; omega
theorem FrH.shape {w : World} {B : Nat} {v : Value} {X : Her} (h : FrH w B v X) : ∃ g c g2 c2, v = .agg #[.slice (some ⟨g, 0, none⟩) X.dg.length c, .slice (some ⟨g2, 0, none⟩) X.up.length c2] := by
  obtain ⟨d, u, us, rfl, ⟨g, c, rfl, _⟩, hu, _⟩ := h
  obtain ⟨g2, c2, rfl, _, h2, _⟩ := hu
  exact ⟨g, c, g2, c2, by rw [h2]⟩
theorem like_c0 {x y : Value} {xs ys : List Int} {w : World} (hx : Sl w x xs) (hy : Sl w y ys) (hm : xs.length ≤ 1048576) :
    Calls Tryz.prog 12 #[x, y] w fun e w' => e = .returned (.bool (decide (xs = ys))) ∧ Below w.heap.size w w' := by
  by_cases hl : ys.length = xs.length
  · rcases two_rows hx hy hl with ⟨rfl, rfl, a, c, a2, c2, rfl, rfl⟩ | ⟨b, off, c, b2, off2, c2, rfl, rfl, hx, hy⟩
    · go_enter Tryz.func12, Tryz.ntmps12
      go_wp2
      refine wp_loop_rounds 1 ?_; rw [rounds_succ]
      go_wp2
      go_ret
      exact ⟨rfl, Below.refl _ _⟩
    have HL := Lib.hid hl; clear hl
    go_enter Tryz.func12, Tryz.ntmps12
    go_wp2
    go_loopw [5] (fun i wr => ∃ m : Nat, m ≤ xs.length ∧ i = .int .i64 m ∧ xs.take m = ys.take m ∧ Below w.heap.size w wr)
      (fun i _ => xs.length - (intOf i).toNat)
    case atStart => exact ⟨0, Nat.zero_le _, rfl, rfl, Below.refl _ _⟩
    case round =>
      obtain ⟨m, hm', rfl, heq, hb⟩ := hrel
      by_cases hlt : m < xs.length
      · obtain ⟨u, hxm, hcx, htx⟩ := (hx.below hb).get hlt
        have hlt2 : m < ys.length := by rw [HL.out]; exact hlt
        obtain ⟨z, hym, hcy, hty⟩ := (hy.below hb).get hlt2
        have H := Lib.hid (And.intro htx (And.intro hty heq)); clear htx hty heq
        by_cases huz : u = z
        · subst huz
          go_wp2
          refine region_flow [(false, [(0, 0), (1, 0), (2, 0), (3, 1), (4, 0), (5, 0), (6, 0), (7, 1), (8, 0)])] (by kernel_rfl) ?_
          refine norm_K fun K hK => ?_
          change wpList _ _ _ [_, _, _, _, _, _, _, _, _] _ _
          go_wp2
          first | (refine hK _ _ ⟨rfl, ?_⟩; clear hK K) | refine ⟨rfl, ?_⟩
          go_wp2
          go_roundw
          case rel => exact ⟨m + 1, by omega, by go_num, by rw [H.out.1, H.out.2.1, H.out.2.2], hb.drew⟩
          case measure => simp [intOf]; omega
        · have hd : decide (xs = ys) = false := by
            refine decide_eq_false fun he => huz ?_
            have h1 : xs.take (m + 1) = ys.take (m + 1) := by rw [he]
            rw [H.out.1, H.out.2.1, H.out.2.2] at h1
            have h2 := congrArg List.getLast? (List.append_cancel_left h1)
            simpa using h2
          have hne : (u != z) = true := by simpa using huz
          have HD := Lib.hid hd; clear hd
          go_wp2
          refine region_flow [(false, [(0, 0), (1, 0), (2, 0), (3, 1), (4, 0), (5, 0), (6, 0), (7, 1), (8, 0)])] (by kernel_rfl) ?_
          refine norm_K fun K hK => ?_
          change wpList _ _ _ [_, _, _, _, _, _, _, _, _] _ _
          go_wp2
          first | (refine hK _ _ ⟨rfl, ?_⟩; clear hK K) | refine ⟨rfl, ?_⟩
          go_wp2
          go_ret
          exact ⟨by rw [HD.out]; rfl, hb.drew⟩
      · obtain rfl : m = xs.length := by omega
        rw [take_all (Nat.le_refl _), take_all (by rw [HL.out]; exact Nat.le_refl _)] at heq
        have hd : decide (xs = ys) = true := decide_eq_true heq
        have HD := Lib.hid hd; clear hd heq
        go_wp2
        go_ret
        exact ⟨by rw [HD.out]; rfl, hb⟩
  · obtain ⟨a, c, rfl, _⟩ := hx
    obtain ⟨a2, c2, rfl, _⟩ := hy
    have hd : decide (xs = ys) = false := decide_eq_false fun he => hl (by rw [he])
    have hne : ((xs.length : Int) != (ys.length : Int)) = true := by rw [bne_iff_ne]; omega
    have HD := Lib.hid hd; clear hd
    go_enter Tryz.func12, Tryz.ntmps12
    go_wp2
    go_ret
    exact ⟨by rw [HD.out]; rfl, Below.refl _ _⟩
theorem like_c {x y : Value} {xs : List Int} {w : World} (hx : Sl w x xs) (hy : Sl w y xs) (hm : xs.length ≤ 1048576) :
    Calls Tryz.prog 12 #[x, y] w fun e w' => e = .returned (.bool true) ∧ Below w.heap.size w w' := by
  have h := like_c0 hx hy hm
  rwa [decide_eq_true rfl] at h
theorem same9_c {x y : Value} {xss : List (List Int)} {w : World} (hx : Rs w x xss) (hy : Rs w y xss) (hm : xss.length ≤ 1048576) (hr : ∀ xs ∈ xss, xs.length ≤ 1048576) :
    Calls Tryz.prog 39 #[x, y] w fun e w' => e = .returned (.bool true) ∧ Below w.heap.size w w' := by
  obtain ⟨a, c, rfl, hx⟩ := hx
  obtain ⟨a2, c2, rfl, hy⟩ := hy
  rcases hx with rfl | ⟨b, off, rfl, hx⟩
  · go_enter Tryz.func39, Tryz.ntmps39
    go_wp2
    refine wp_loop_rounds 1 ?_; rw [rounds_succ]
    go_wp2
    go_ret
    exact ⟨rfl, Below.refl _ _⟩
  rcases hy with rfl | ⟨b2, off2, rfl, hy⟩
  · go_enter Tryz.func39, Tryz.ntmps39
    go_wp2
    refine wp_loop_rounds 1 ?_; rw [rounds_succ]
    go_wp2
    go_ret
    exact ⟨rfl, Below.refl _ _⟩
  go_enter Tryz.func39, Tryz.ntmps39
  go_wp2
  go_loopw [5] (fun i wr => ∃ m : Nat, m ≤ xss.length ∧ i = .int .i64 m ∧ Below w.heap.size w wr)
    (fun i _ => xss.length - (intOf i).toNat)
  case atStart => exact ⟨0, Nat.zero_le _, rfl, Below.refl _ _⟩
  case round =>
    obtain ⟨m, hm', rfl, hb⟩ := hrel
    by_cases hlt : m < xss.length
    · obtain ⟨u, hc, hs⟩ := hx m hlt
      obtain ⟨u2, hc2, hs2⟩ := hy m hlt
      have hc := kept hb hc
      have hs := hs.below hb
      have hc2 := kept hb hc2
      have hs2 := hs2.below hb
      have hxl := hr _ (List.getElem_mem hlt)
      obtain ⟨q, hq⟩ : ∃ q, q = xss[m] := ⟨_, rfl⟩
      rw [← hq] at hs hs2 hxl
      clear hq
      go_wp2
      refine region_flow [(false, [(0, 0), (1, 0), (2, 0), (3, 1), (4, 0), (5, 0), (6, 0), (7, 1), (8, 4), (9, 0)])] (by kernel_rfl) ?_
      refine norm_K fun K hK => ?_
      change wpList _ _ _ [_, _, _, _, _, _, _, _, _, _] _ _
      go_wp2_with fail
      refine (like_c (hs.below (by repeat (first | exact Below.refl _ _ | apply blw_drew | apply blw_alloc | (refine blw_set ?_ (by first | omega | simp <;> omega) _) | refine below_chain ?_ (by assumption)))) (hs2.below (by repeat (first | exact Below.refl _ _ | apply blw_drew | apply blw_alloc | (refine blw_set ?_ (by first | omega | simp <;> omega) _) | refine below_chain ?_ (by assumption)))) hxl).mono ?_; rintro e w2 ⟨rfl, hb2⟩
      go_wp2_with fail
      first | (refine hK _ _ ⟨rfl, ?_⟩; clear hK K) | refine ⟨rfl, ?_⟩
      go_wp2
      go_roundw
      case rel => exact ⟨m + 1, by omega, by go_num, below_chain hb.drew hb2⟩
      case measure => simp [intOf]; omega
    · obtain rfl : m = xss.length := by omega
      go_wp2
      go_ret
      exact ⟨rfl, hb⟩
theorem herm9_c {x y : Value} {X : Her} {w : World} (hx : Hv w x X) (hy : Hv w y X) (hz : Hsz X) :
    Calls Tryz.prog 9 #[x, y] w fun e w' => e = .returned (.bool true) ∧ Below w.heap.size w w' := by
  obtain ⟨dv1, uv1, rfl, h1, h2⟩ := Hv.hr hx; obtain ⟨a1, c1, rfl, _⟩ := id h1; obtain ⟨b1, k1, rfl, _⟩ := id h2
  obtain ⟨dv2, uv2, rfl, h3, h4⟩ := Hv.hr hy; obtain ⟨a2, c2, rfl, _⟩ := id h3; obtain ⟨b2, k2, rfl, _⟩ := id h4
  go_enter Tryz.func9, Tryz.ntmps9
  have hb0 : Below w.heap.size w ((w.alloc (.cells #[.slice a1 X.dg.length c1, .slice b1 X.up.length k1] 31)).alloc (.cells #[.slice a2 X.dg.length c2, .slice b2 X.up.length k2] 31)) := (by repeat (first | exact Below.refl _ _ | apply blw_drew | apply blw_alloc | (refine blw_set ?_ (by first | omega | simp <;> omega) _) | refine below_chain ?_ (by assumption)))
  have h1 := h1.below hb0; have h2 := h2.below hb0; have h3 := h3.below hb0; have h4 := h4.below hb0
  have e0 : ((w.alloc (.cells #[.slice a1 X.dg.length c1, .slice b1 X.up.length k1] 31)).alloc (.cells #[.slice a2 X.dg.length c2, .slice b2 X.up.length k2] 31)).cell? ⟨w.heap.size, 0, none⟩ = some (.slice a1 X.dg.length c1) := by simp [go_sem]
  have e1 : ((w.alloc (.cells #[.slice a1 X.dg.length c1, .slice b1 X.up.length k1] 31)).alloc (.cells #[.slice a2 X.dg.length c2, .slice b2 X.up.length k2] 31)).cell? ⟨w.heap.size, 1, none⟩ = some (.slice b1 X.up.length k1) := by simp [go_sem]
  have f0 : ((w.alloc (.cells #[.slice a1 X.dg.length c1, .slice b1 X.up.length k1] 31)).alloc (.cells #[.slice a2 X.dg.length c2, .slice b2 X.up.length k2] 31)).cell? ⟨w.heap.size + 1, 0, none⟩ = some (.slice a2 X.dg.length c2) := by simp [go_sem]
  have f1 : ((w.alloc (.cells #[.slice a1 X.dg.length c1, .slice b1 X.up.length k1] 31)).alloc (.cells #[.slice a2 X.dg.length c2, .slice b2 X.up.length k2] 31)).cell? ⟨w.heap.size + 1, 1, none⟩ = some (.slice b2 X.up.length k2) := by simp [go_sem]
  go_wp2_with fail
  refine (like_c h1 h3 hz.h1).mono ?_; rintro e w1 ⟨rfl, hb1⟩
  have h1 := h1.below hb1; have h2 := h2.below hb1; have h3 := h3.below hb1; have h4 := h4.below hb1; have e0 := kept hb1 e0; have e1 := kept hb1 e1; have f0 := kept hb1 f0; have f1 := kept hb1 f1
  go_wp2_with fail
  refine (same9_c h2 h4 hz.h2 hz.h3).mono ?_; rintro e w2 ⟨rfl, hb2⟩
  have h1 := h1.below hb2; have h2 := h2.below hb2; have h3 := h3.below hb2; have h4 := h4.below hb2; have e0 := kept hb2 e0; have e1 := kept hb2 e1; have f0 := kept hb2 f0; have f1 := kept hb2 f1
  go_wp2_with fail
  go_ret
  exact ⟨rfl, (by repeat (first | exact Below.refl _ _ | apply blw_drew | apply blw_alloc | (refine blw_set ?_ (by first | omega | simp <;> omega) _) | refine below_chain ?_ (by assumption)))⟩
end Go.Proofs.YtgcelfnjijhmkaaGreat
/-
  Integers modulo n, as numbers of Fin n: sums, products, remainders. No program in sight.
-/
namespace Go.Proofs.YtgcelfnjijhmkaaGreat
def toF (n : Nat) [NeZero n] (a : Int) : Fin n := ⟨(a % (n:Int)).toNat, by
  have := Nat.pos_of_neZero n
  have h1 := Int.emod_nonneg a (b := (n:Int)) (by omega)
  have h2 := Int.emod_lt_of_pos a (b := (n:Int)) (by omega)
  omega⟩
theorem toF_eq (n : Nat) [NeZero n] (a b : Int) : toF n a = toF n b ↔ a % (n:Int) = b % (n:Int) := by
  have := Nat.pos_of_neZero n
  have h1 := Int.emod_nonneg a (b := (n:Int)) (by omega)
  have h2 := Int.emod_nonneg b (b := (n:Int)) (by omega)
  simp only [toF, Fin.mk.injEq]
  omega
theorem toF_add (n : Nat) [NeZero n] (a b : Int) : toF n (a + b) = toF n a + toF n b := by
  have := Nat.pos_of_neZero n
  have h1 := Int.emod_nonneg a (b := (n:Int)) (by omega)
  have h2 := Int.emod_nonneg b (b := (n:Int)) (by omega)
  apply Fin.ext
  simp only [toF, Fin.val_add]
  rw [Int.add_emod]
  have h3 : (((a % (n:Int)).toNat + (b % (n:Int)).toNat : Nat) : Int) = a % n + b % n := by omega
  rw [← h3, ← Int.natCast_emod, Int.toNat_natCast]
theorem toF_mul (n : Nat) [NeZero n] (a b : Int) : toF n (a * b) = toF n a * toF n b := by
  have := Nat.pos_of_neZero n
  have h1 := Int.emod_nonneg a (b := (n:Int)) (by omega)
  have h2 := Int.emod_nonneg b (b := (n:Int)) (by omega)
  apply Fin.ext
  simp only [toF, Fin.val_mul]
  rw [Int.mul_emod]
  have h3 : (((a % (n:Int)).toNat * (b % (n:Int)).toNat : Nat) : Int) = (a % n) * (b % n) := by
    rw [Int.natCast_mul, Int.toNat_of_nonneg h1, Int.toNat_of_nonneg h2]
  rw [← h3, ← Int.natCast_emod, Int.toNat_natCast]
theorem toF_neg (n : Nat) [NeZero n] (a : Int) : toF n (-a) = -toF n a := by
  have h : toF n (-a) + toF n a = toF n 0 := by rw [← toF_add]; congr 1; omega
  have h0 : toF n 0 = 0 := by apply Fin.ext; simp [toF]
  grind
theorem toF_sub (n : Nat) [NeZero n] (a b : Int) : toF n (a - b) = toF n a - toF n b := by
  rw [Int.sub_eq_add_neg, toF_add, toF_neg]; grind
theorem toF_mod (n : Nat) [NeZero n] (a : Int) : toF n (a % (n:Int)) = toF n a := by
  rw [toF_eq]; exact Int.emod_emod_of_dvd _ (Int.dvd_refl _)
theorem toF_one (n : Nat) [NeZero n] : toF n 1 = 1 := by
  apply Fin.ext
  simp only [toF]
  rw [show (1 : Int) = ((1 : Nat) : Int) by rfl, ← Int.natCast_emod, Int.toNat_natCast]
  rfl
theorem toF_zero (n : Nat) [NeZero n] : toF n 0 = 0 := by apply Fin.ext; simp [toF]
end Go.Proofs.YtgcelfnjijhmkaaGreat
/-
  Octonions over the numbers modulo n, and rows of numbers as octonions. No program in sight.
-/
namespace Go.Proofs.YtgcelfnjijhmkaaGreat

@[ext] structure Oc (n : Nat) where
  a0 : Fin n
  a1 : Fin n
  a2 : Fin n
  a3 : Fin n
  a4 : Fin n
  a5 : Fin n
  a6 : Fin n
  a7 : Fin n
section
variable {n : Nat} [NeZero n]
def omul (g h k : Fin n) (x y : Oc n) : Oc n :=
  ⟨x.a0 * y.a0 + g * x.a1 * y.a1 + h * x.a2 * y.a2 - g * h * x.a3 * y.a3 + k * x.a4 * y.a4 - g * k * x.a5 * y.a5 - h * k * x.a6 * y.a6 + g * h * k * x.a7 * y.a7,
   x.a0 * y.a1 + x.a1 * y.a0 + h * x.a3 * y.a2 - h * x.a2 * y.a3 + k * x.a5 * y.a4 - k * x.a4 * y.a5 - h * k * x.a6 * y.a7 + h * k * x.a7 * y.a6,
   x.a0 * y.a2 + g * x.a1 * y.a3 + x.a2 * y.a0 - g * x.a3 * y.a1 + k * x.a6 * y.a4 - g * k * x.a7 * y.a5 - k * x.a4 * y.a6 + g * k * x.a5 * y.a7,
   x.a1 * y.a2 + x.a0 * y.a3 - x.a2 * y.a1 + x.a3 * y.a0 - k * x.a6 * y.a5 + k * x.a7 * y.a4 + k * x.a5 * y.a6 - k * x.a4 * y.a7,
   x.a0 * y.a4 + g * x.a1 * y.a5 + h * x.a2 * y.a6 - g * h * x.a3 * y.a7 + x.a4 * y.a0 - g * x.a5 * y.a1 - h * x.a6 * y.a2 + g * h * x.a7 * y.a3,
   x.a1 * y.a4 + x.a0 * y.a5 + h * x.a2 * y.a7 - h * x.a3 * y.a6 - x.a4 * y.a1 + x.a5 * y.a0 - h * x.a7 * y.a2 + h * x.a6 * y.a3,
   x.a2 * y.a4 + g * x.a3 * y.a5 + x.a0 * y.a6 - g * x.a1 * y.a7 - x.a4 * y.a2 - g * x.a5 * y.a3 + x.a6 * y.a0 + g * x.a7 * y.a1,
   x.a2 * y.a5 + x.a3 * y.a4 - x.a1 * y.a6 + x.a0 * y.a7 - x.a5 * y.a2 - x.a4 * y.a3 + x.a6 * y.a1 + x.a7 * y.a0⟩
def ocj (x : Oc n) : Oc n := ⟨x.a0, -x.a1, -x.a2, -x.a3, -x.a4, -x.a5, -x.a6, -x.a7⟩
def onm (g h k : Fin n) (x : Oc n) : Fin n := x.a0 * x.a0 - g * x.a1 * x.a1 - h * x.a2 * x.a2 + g * h * x.a3 * x.a3 - k * x.a4 * x.a4 + g * k * x.a5 * x.a5 + h * k * x.a6 * x.a6 - g * h * k * x.a7 * x.a7
def osc (c : Fin n) (x : Oc n) : Oc n := ⟨c * x.a0, c * x.a1, c * x.a2, c * x.a3, c * x.a4, c * x.a5, c * x.a6, c * x.a7⟩
def oad (x y : Oc n) : Oc n := ⟨x.a0 + y.a0, x.a1 + y.a1, x.a2 + y.a2, x.a3 + y.a3, x.a4 + y.a4, x.a5 + y.a5, x.a6 + y.a6, x.a7 + y.a7⟩
def toO (n : Nat) [NeZero n] (xs : List Int) : Oc n := ⟨toF n (xs.getD 0 0), toF n (xs.getD 1 0), toF n (xs.getD 2 0), toF n (xs.getD 3 0), toF n (xs.getD 4 0), toF n (xs.getD 5 0), toF n (xs.getD 6 0), toF n (xs.getD 7 0)⟩
theorem toO_plus {p k : Int} {xs ys : List Int} (hp : p = n) (hl : ys.length = xs.length) : toO n (plusL p xs ys k) = oad (toO n xs) (osc (toF n k) (toO n ys)) := by
  have h : ∀ i, toF n ((plusL p xs ys k).getD i 0) = toF n (xs.getD i 0) + toF n k * toF n (ys.getD i 0) := fun i => by
    unfold plusL
    by_cases hi : i < xs.length
    · have hi2 : i < ys.length := by omega
      rw [List.getD_eq_getElem?_getD, List.getElem?_zipWith, List.getElem?_eq_getElem hi, List.getElem?_eq_getElem hi2]
      simp only [Option.getD_some, List.getD_eq_getElem?_getD, List.getElem?_eq_getElem hi, List.getElem?_eq_getElem hi2]
      rw [hp, toF_mod, toF_add, toF_mul]
    · rw [List.getD_eq_getElem?_getD, List.getD_eq_getElem?_getD, List.getD_eq_getElem?_getD, List.getElem?_eq_none (by rw [List.length_zipWith]; omega), List.getElem?_eq_none (by omega), List.getElem?_eq_none (by omega)]
      simp only [Option.getD_none, toF_zero]
      grind
  unfold toO oad osc
  simp only [h]
theorem toO_scale {p k : Int} {xs : List Int} (hp : p = n) : toO n (scaleL p xs k) = osc (toF n k) (toO n xs) := by
  have h : ∀ i, toF n ((scaleL p xs k).getD i 0) = toF n k * toF n (xs.getD i 0) := fun i => by
    unfold scaleL
    by_cases hi : i < xs.length
    · rw [List.getD_eq_getElem?_getD, List.getElem?_map, List.getElem?_eq_getElem hi]
      simp only [Option.map_some, Option.getD_some, List.getD_eq_getElem?_getD, List.getElem?_eq_getElem hi]
      rw [hp, toF_mod, toF_mul]; grind
    · rw [List.getD_eq_getElem?_getD, List.getD_eq_getElem?_getD, List.getElem?_eq_none (by rw [List.length_map]; omega), List.getElem?_eq_none (by omega)]
      simp only [Option.getD_none, toF_zero]
      grind
  unfold toO osc
  simp only [h]
theorem toO_conj {p : Int} {xs : List Int} (hp : p = n) : toO n (conjL p xs) = ocj (toO n xs) := by
  match xs with
  | [] => unfold toO ocj; simp [conjL, scaleL, toF_zero]; grind
  | x :: xs =>
    have h : ∀ i, toF n ((scaleL p xs (-1)).getD i 0) = -toF n (xs.getD i 0) := fun i => by
      unfold scaleL
      by_cases hi : i < xs.length
      · rw [List.getD_eq_getElem?_getD, List.getElem?_map, List.getElem?_eq_getElem hi]
        simp only [Option.map_some, Option.getD_some, List.getD_eq_getElem?_getD, List.getElem?_eq_getElem hi]
        rw [hp, toF_mod, toF_mul, toF_neg, toF_one]; grind
      · rw [List.getD_eq_getElem?_getD, List.getD_eq_getElem?_getD, List.getElem?_eq_none (by rw [List.length_map]; omega), List.getElem?_eq_none (by omega)]
        simp only [Option.getD_none, toF_zero]
        grind
    unfold toO ocj
    have e : conjL p (x :: xs) = x :: scaleL p xs (-1) := rfl
    rw [e]
    simp only [List.getD_cons_zero, List.getD_cons_succ, h]
theorem toO_mul0 {p x0 y0 : Int} (hp : p = n) (g h k : Fin n) : toO n (mulL p [] [x0] [y0]) = omul g h k (toO n [x0]) (toO n [y0]) := by
  simp only [mulL, List.reverse_cons, List.reverse_nil, List.nil_append, List.cons_append, mulR, List.length_cons, List.length_nil, plusL, scaleL, conjL, Nat.reduceAdd, Nat.reduceDiv, List.take_succ_cons, List.take_zero, List.drop_succ_cons, List.drop_zero, List.map_cons, List.map_nil, List.zipWith_cons_cons, List.zipWith_nil_left, List.zipWith_nil_right, List.getD_cons_zero, List.getD_cons_succ, List.getD_nil]
  unfold toO omul
  simp only [List.getD_cons_zero, List.getD_cons_succ, List.getD_nil, hp, toF_mod, toF_add, toF_mul, toF_neg, toF_one, toF_zero]
  apply Oc.ext <;> grind
theorem toO_mul1 {p s0 x0 x1 y0 y1 : Int} (hp : p = n) (g h k : Fin n) : toO n (mulL p [s0] [x0, x1] [y0, y1]) = omul (toF n s0) h k (toO n [x0, x1]) (toO n [y0, y1]) := by
  simp only [mulL, List.reverse_cons, List.reverse_nil, List.nil_append, List.cons_append, mulR, List.length_cons, List.length_nil, plusL, scaleL, conjL, Nat.reduceAdd, Nat.reduceDiv, List.take_succ_cons, List.take_zero, List.drop_succ_cons, List.drop_zero, List.map_cons, List.map_nil, List.zipWith_cons_cons, List.zipWith_nil_left, List.zipWith_nil_right, List.getD_cons_zero, List.getD_cons_succ, List.getD_nil]
  unfold toO omul
  simp only [List.getD_cons_zero, List.getD_cons_succ, List.getD_nil, hp, toF_mod, toF_add, toF_mul, toF_neg, toF_one, toF_zero]
  apply Oc.ext <;> grind
theorem toO_mul2 {p s0 s1 x0 x1 x2 x3 y0 y1 y2 y3 : Int} (hp : p = n) (g h k : Fin n) : toO n (mulL p [s0, s1] [x0, x1, x2, x3] [y0, y1, y2, y3]) = omul (toF n s0) (toF n s1) k (toO n [x0, x1, x2, x3]) (toO n [y0, y1, y2, y3]) := by
  simp only [mulL, List.reverse_cons, List.reverse_nil, List.nil_append, List.cons_append, mulR, List.length_cons, List.length_nil, plusL, scaleL, conjL, Nat.reduceAdd, Nat.reduceDiv, List.take_succ_cons, List.take_zero, List.drop_succ_cons, List.drop_zero, List.map_cons, List.map_nil, List.zipWith_cons_cons, List.zipWith_nil_left, List.zipWith_nil_right, List.getD_cons_zero, List.getD_cons_succ, List.getD_nil]
  unfold toO omul
  simp only [List.getD_cons_zero, List.getD_cons_succ, List.getD_nil, hp, toF_mod, toF_add, toF_mul, toF_neg, toF_one, toF_zero]
  apply Oc.ext <;> grind
theorem toO_mul3 {p s0 s1 s2 x0 x1 x2 x3 x4 x5 x6 x7 y0 y1 y2 y3 y4 y5 y6 y7 : Int} (hp : p = n) (g h k : Fin n) : toO n (mulL p [s0, s1, s2] [x0, x1, x2, x3, x4, x5, x6, x7] [y0, y1, y2, y3, y4, y5, y6, y7]) = omul (toF n s0) (toF n s1) (toF n s2) (toO n [x0, x1, x2, x3, x4, x5, x6, x7]) (toO n [y0, y1, y2, y3, y4, y5, y6, y7]) := by
  simp only [mulL, List.reverse_cons, List.reverse_nil, List.nil_append, List.cons_append, mulR, List.length_cons, List.length_nil, plusL, scaleL, conjL, Nat.reduceAdd, Nat.reduceDiv, List.take_succ_cons, List.take_zero, List.drop_succ_cons, List.drop_zero, List.map_cons, List.map_nil, List.zipWith_cons_cons, List.zipWith_nil_left, List.zipWith_nil_right, List.getD_cons_zero, List.getD_cons_succ, List.getD_nil]
  unfold toO omul
  simp only [List.getD_cons_zero, List.getD_cons_succ, List.getD_nil, hp, toF_mod, toF_add, toF_mul, toF_neg, toF_one, toF_zero]
  apply Oc.ext <;> grind
theorem ocj_mul (g h k : Fin n) (x y : Oc n) : ocj (omul g h k x y) = omul g h k (ocj y) (ocj x) := by
  unfold ocj omul
  apply Oc.ext <;> grind
end
end Go.Proofs.YtgcelfnjijhmkaaGreat
