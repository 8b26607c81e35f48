/- Texts joined for a claim: Row, Law, Space. -/
import Derived.Test.YtgkceadllcjeoaaNum
import Derived.Deep.OwnRows
/-
  The walks of the functions that make one row of integers out of others.
-/
namespace Go.Proofs.Ytgkceadllcjeoaa
open Go.RowKit

theorem two_rows {w : World} {x y : Value} {xs ys : List Int} (hx : Sl w x xs) (hy : Sl w y ys) (hl : ys.length = xs.length) :
    (xs = [] ∧ ys = [] ∧ ∃ a c a2 c2, x = .slice a 0 c ∧ y = .slice a2 0 c2) ∨ ∃ b off c b2 off2 c2, x = .slice (some ⟨b, off, none⟩) xs.length c ∧ y = .slice (some ⟨b2, off2, none⟩) xs.length c2 ∧ At w b off xs ∧ At w b2 off2 ys := by
  obtain ⟨a, c, rfl, hx⟩ := hx
  obtain ⟨a2, c2, rfl, hy⟩ := hy
  rcases hx with rfl | ⟨b, off, rfl, hx⟩
  · obtain rfl : ys = [] := List.eq_nil_of_length_eq_zero hl
    exact .inl ⟨rfl, rfl, a, c, a2, c2, rfl, rfl⟩
  · rcases hy with rfl | ⟨b2, off2, rfl, hy⟩
    · obtain rfl : xs = [] := List.eq_nil_of_length_eq_zero hl.symm
      exact .inl ⟨rfl, rfl, _, c, a2, c2, rfl, rfl⟩
    · exact .inr ⟨b, off, c, b2, off2, c2, rfl, by rw [hl], hx, hy⟩

theorem plus_c {p k : Int} {x y : Value} {xs ys : List Int} {w : World} (hp : 1 ≤ p) (hp2 : p ≤ 1000) (hk1 : -1000000 ≤ k) (hk2 : k ≤ 1000000)
    (hx : Sl w x xs) (hy : Sl w y ys) (sx : Sm 1000000 xs) (sy : Sm 1000000 ys) (hl : ys.length = xs.length) (hm : xs.length ≤ 1000000) :
    Calls Try.prog 127 #[.int .i64 p, x, y, .int .i64 k] w fun e w' => ∃ v, e = .returned v ∧ FrI w' w.heap.size v (plusL p xs ys k) ∧ Below w.heap.size w w' := by
  rcases two_rows hx hy hl with ⟨rfl, rfl, a, c, a2, c2, rfl, rfl⟩ | ⟨b, off, c, b2, off2, c2, rfl, rfl, hx, hy⟩
  · go_enter Try.func127, Try.ntmps127
    go_wp2
    refine wp_loop_rounds 1 ?_; rw [rounds_succ]
    go_wp2
    go_ret
    exact ⟨_, rfl, (OwnI.new (Nat.le_refl _)).fr, (by repeat (first | exact .refl _ _ | apply bwD | apply bwA | (refine bwS ?_ (by first | omega | simp <;> omega) _) | refine bwC ?_ (by assumption)))⟩
  have HL := Lib.hid hl; clear hl
  go_enter Try.func127, Try.ntmps127
  go_wp2
  go_loopw [9, 15] (fun v i wr => ∃ m g cap : Nat, m ≤ xs.length ∧ i = .int .i64 m ∧ v = .slice (some ⟨g, 0, none⟩) m cap ∧ OwnI wr w.heap.size g m cap (plusL p (xs.take m) (ys.take m) k) ∧ Below w.heap.size w wr)
    (fun _ i _ => xs.length - (intOf i).toNat)
  case atStart => exact ⟨0, w.heap.size, 0, Nat.zero_le _, rfl, rfl, OwnI.new (Nat.le_refl _), (by repeat (first | exact .refl _ _ | apply bwD | apply bwA | (refine bwS ?_ (by first | omega | simp <;> omega) _) | refine bwC ?_ (by assumption)))⟩
  case round =>
    obtain ⟨m, g, cap, hm', rfl, rfl, hown, hb⟩ := hrel
    by_cases hlt : m < xs.length
    · obtain ⟨u, hxm, hcx, htx⟩ := (hx.below hb).get hlt
      obtain ⟨z, hym, hcy, hty⟩ := (hy.below hb).get (m := m) (by rw [HL.out]; exact hlt)
      have s1 := sx u hxm
      have s2 := sy z hym
      have s3 := mulb hk1 hk2 s2.1 s2.2
      have H := Lib.hid (And.intro htx hty); clear htx hty
      go_wp2_with (first
       | (go_at_call 79; refine (num_c hp hp2).mono ?_; rintro e w' ⟨rfl, rfl⟩)
       | (at_builtin; refine app_one rfl _ _ rfl wr w.heap.size g m cap _ rfl ((u + k * z) % p) _ rfl hown hb.size (by omega) ?_; intro g' cap' w' hown' hb' hg' hgg))
      go_roundw
      case rel => exact ⟨m + 1, g', cap', by omega, by go_num, rfl, by rw [H.out.1, H.out.2, plusL_snoc (by have := HL.out; simp; omega)]; exact hown', hb.trans hb'⟩
      case measure => simp [intOf]; omega
    · obtain rfl : m = xs.length := by omega
      rw [take_all (Nat.le_refl _), take_all (by rw [HL.out]; exact Nat.le_refl _)] at hown
      go_wp2
      go_ret
      exact ⟨_, rfl, hown.fr, hb⟩
theorem scaled_c {p k : Int} {x : Value} {xs : List Int} {w : World} (hp : 1 ≤ p) (hp2 : p ≤ 1000) (hk1 : -1000000 ≤ k) (hk2 : k ≤ 1000000)
    (hx : Sl w x xs) (sx : Sm 1000000 xs) (hm : xs.length ≤ 1000000) :
    Calls Try.prog 109 #[.int .i64 p, x, .int .i64 k] w fun e w' => ∃ v, e = .returned v ∧ FrI w' w.heap.size v (scaleL p xs k) ∧ Below w.heap.size w w' := by
  obtain ⟨a, c, rfl, rfl | ⟨b, off, rfl, hx⟩⟩ := hx
  · go_enter Try.func109, Try.ntmps109
    go_wp2
    refine wp_loop_rounds 1 ?_; rw [rounds_succ]
    go_wp2
    go_ret
    exact ⟨_, rfl, (OwnI.new (Nat.le_refl _)).fr, (by repeat (first | exact .refl _ _ | apply bwD | apply bwA | (refine bwS ?_ (by first | omega | simp <;> omega) _) | refine bwC ?_ (by assumption)))⟩
  go_enter Try.func109, Try.ntmps109
  go_wp2
  go_loopw [7, 13] (fun v i wr => ∃ m g cap : Nat, m ≤ xs.length ∧ i = .int .i64 m ∧ v = .slice (some ⟨g, 0, none⟩) m cap ∧ OwnI wr w.heap.size g m cap (scaleL p (xs.take m) k) ∧ Below w.heap.size w wr)
    (fun _ i _ => xs.length - (intOf i).toNat)
  case atStart => exact ⟨0, w.heap.size, 0, Nat.zero_le _, rfl, rfl, OwnI.new (Nat.le_refl _), (by repeat (first | exact .refl _ _ | apply bwD | apply bwA | (refine bwS ?_ (by first | omega | simp <;> omega) _) | refine bwC ?_ (by assumption)))⟩
  case round =>
    obtain ⟨m, g, cap, hm', rfl, rfl, hown, hb⟩ := hrel
    by_cases hlt : m < xs.length
    · obtain ⟨u, hxm, hcx, htx⟩ := (hx.below hb).get hlt
      have s1 := sx u hxm
      have s3 := mulb s1.1 s1.2 hk1 hk2
      have H := Lib.hid htx; clear htx
      go_wp2_with (first
       | (go_at_call 79; refine (num_c hp hp2).mono ?_; rintro e w' ⟨rfl, rfl⟩)
       | (at_builtin; refine app_one rfl _ _ rfl wr w.heap.size g m cap _ rfl (u * k % p) _ rfl hown hb.size (by omega) ?_; intro g' cap' w' hown' hb' hg' hgg))
      go_roundw
      case rel => exact ⟨m + 1, g', cap', by omega, by go_num, rfl, by rw [H.out, scaleL_snoc]; exact hown', hb.trans hb'⟩
      case measure => simp [intOf]; omega
    · obtain rfl : m = xs.length := by omega
      rw [take_all (Nat.le_refl _)] at hown
      go_wp2
      go_ret
      exact ⟨_, rfl, hown.fr, hb⟩
theorem clone_c {x : Value} {xs : List Int} {w : World} (hx : Sl w x xs) (hne : 0 < xs.length) (hm : xs.length ≤ 1000000) :
    Calls Try.prog 118 #[x] w fun e w' => ∃ v, e = .returned v ∧ FrI w' w.heap.size v xs ∧ Below w.heap.size w w' := by
  obtain ⟨a, c, rfl, rfl | ⟨b, off, rfl, hx⟩⟩ := hx
  · simp at hne
  have hc := hx.below (w' := w.alloc (.cells #[] 2)) (by repeat (first | exact .refl _ _ | apply bwD | apply bwA | (refine bwS ?_ (by first | omega | simp <;> omega) _) | refine bwC ?_ (by assumption)))
  have hnil := fun w => Lib.run_eql_slice_nil (P := Try.prog) w 24 2 (some ⟨b, off, none⟩) xs.length c 0 0 Try.underlying24
  go_enter Try.func118, Try.ntmps118
  go_wp2_with (at_builtin; refine app_int rfl _ _ rfl (w.alloc (.cells #[] 2)) w.heap.size w.heap.size 0 0 [] rfl b off xs.length c xs rfl (OwnI.new (Nat.le_refl _)) (by simp) hc rfl hne (by omega) ?_; intro g' cap' w' hown' hg' hgg)
  go_ret
  simp only [Nat.zero_add, List.nil_append] at hown' ⊢
  exact ⟨_, rfl, hown'.fr, blw_grown (bwA (Below.refl _ _) _) hg' (Nat.le_refl _)⟩
theorem own_c {x : Value} {xs : List Int} {w : World} (hx : Sl w x xs) (hne : 0 < xs.length) (hm : xs.length ≤ 1000000) :
    Calls Try.prog 47 #[x] w fun e w' => ∃ v, e = .returned v ∧ FrI w' w.heap.size v xs ∧ Below w.heap.size w w' := by
  obtain ⟨a, c, rfl, rfl | ⟨b, off, rfl, hx⟩⟩ := hx
  · simp at hne
  have hc := hx.below (w' := w.alloc (.cells #[] 2)) (by repeat (first | exact .refl _ _ | apply bwD | apply bwA | (refine bwS ?_ (by first | omega | simp <;> omega) _) | refine bwC ?_ (by assumption)))
  go_enter Try.func47, Try.ntmps47
  go_wp2_with (at_builtin; refine app_int rfl _ _ rfl (w.alloc (.cells #[] 2)) w.heap.size w.heap.size 0 0 [] rfl b off xs.length c xs rfl (OwnI.new (Nat.le_refl _)) (by simp) hc rfl hne (by omega) ?_; intro g' cap' w' hown' hg' hgg)
  go_ret
  simp only [Nat.zero_add, List.nil_append] at hown' ⊢
  exact ⟨_, rfl, hown'.fr, blw_grown (bwA (Below.refl _ _) _) hg' (Nat.le_refl _)⟩
theorem smod_c {p n : Int} {w : World} (hp : 1 ≤ p) (hp2 : p ≤ 1000) :
    Calls Try.prog 99 #[.int .i64 p, .int .i64 n] w fun e w' => e = .returned (.int .i64 (n % p)) ∧ w = w' := by
  obtain ⟨t1, t2, t3⟩ := tmodb (n := n) hp
  have T3 := Lib.hid t3; clear t3
  go_enter Try.func99, Try.ntmps99
  go_wp2
  go_ret
  exact ⟨by simp [T3.out], rfl⟩
theorem sadd_c {p : Int} {x y : Value} {xs ys : List Int} {w : World} (hp : 1 ≤ p) (hp2 : p ≤ 1000)
    (hx : Sl w x xs) (hy : Sl w y ys) (sx : Sm 1000000 xs) (sy : Sm 1000000 ys) (hl : ys.length = xs.length) (hm : xs.length ≤ 1000000) :
    Calls Try.prog 72 #[.int .i64 p, x, y] w fun e w' => ∃ v, e = .returned v ∧ FrI w' w.heap.size v (plusL p xs ys 1) ∧ Below w.heap.size w w' := by
  rcases two_rows hx hy hl with ⟨rfl, rfl, a, c, a2, c2, rfl, rfl⟩ | ⟨b, off, c, b2, off2, c2, rfl, rfl, hx, hy⟩
  · go_enter Try.func72, Try.ntmps72
    go_wp2
    refine wp_loop_rounds 1 ?_; rw [rounds_succ]
    go_wp2
    go_ret
    exact ⟨_, rfl, (OwnI.new (Nat.le_refl _)).fr, (by repeat (first | exact .refl _ _ | apply bwD | apply bwA | (refine bwS ?_ (by first | omega | simp <;> omega) _) | refine bwC ?_ (by assumption)))⟩
  have HL := Lib.hid hl; clear hl
  go_enter Try.func72, Try.ntmps72
  go_wp2
  go_loopw [7, 8] (fun v i wr => ∃ m g cap : Nat, m ≤ xs.length ∧ i = .int .i64 m ∧ v = .slice (some ⟨g, 0, none⟩) m cap ∧ OwnI wr w.heap.size g m cap (plusL p (xs.take m) (ys.take m) 1) ∧ Below w.heap.size w wr)
    (fun _ i _ => xs.length - (intOf i).toNat)
  case atStart => exact ⟨0, w.heap.size, 0, Nat.zero_le _, rfl, rfl, OwnI.new (Nat.le_refl _), (by repeat (first | exact .refl _ _ | apply bwD | apply bwA | (refine bwS ?_ (by first | omega | simp <;> omega) _) | refine bwC ?_ (by assumption)))⟩
  case round =>
    obtain ⟨m, g, cap, hm', rfl, rfl, hown, hb⟩ := hrel
    by_cases hlt : m < xs.length
    · obtain ⟨u, hxm, hcx, htx⟩ := (hx.below hb).get hlt
      obtain ⟨z, hym, hcy, hty⟩ := (hy.below hb).get (m := m) (by rw [HL.out]; exact hlt)
      have s1 := sx u hxm
      have s2 := sy z hym
      have H := Lib.hid (And.intro htx hty); clear htx hty
      go_wp2
      refine region_flow [(false, [(0, 0), (1, 0), (2, 0), (3, 0), (4, 0), (5, 1), (6, 0), (7, 0), (8, 0), (9, 1), (10, 0), (11, 4), (12, 4), (13, 4), (14, 0)])] (by kernel_rfl) ?_
      refine norm_K fun K hK => ?_
      change wpList _ _ _ [_, _, _, _, _, _, _, _, _, _, _, _, _, _, _] _ _
      go_wp2_with (first
       | (go_at_call 99; refine (smod_c hp hp2).mono ?_; rintro e w' ⟨rfl, rfl⟩)
       | (at_builtin; refine app_one rfl _ _ rfl wr.drew w.heap.size g m cap _ rfl ((u + z) % p) _ rfl hown hb.size (by omega) ?_; intro g' cap' w' hown' hb' hg' hgg))
      first | (refine hK _ _ ⟨rfl, ?_⟩; clear hK K) | refine ⟨rfl, ?_⟩
      go_wp2
      go_roundw
      case rel => exact ⟨m + 1, g', cap', by omega, by go_num, rfl, by rw [H.out.1, H.out.2, plusL_snoc (by have := HL.out; simp; omega), Int.one_mul]; exact hown', hb.drew.trans hb'⟩
      case measure => simp [intOf]; omega
    · obtain rfl : m = xs.length := by omega
      rw [take_all (Nat.le_refl _), take_all (by rw [HL.out]; exact Nat.le_refl _)] at hown
      go_wp2
      go_ret
      exact ⟨_, rfl, hown.fr, hb⟩
theorem sscale_c {p k : Int} {x : Value} {xs : List Int} {w : World} (hp : 1 ≤ p) (hp2 : p ≤ 1000) (hk1 : -1000000 ≤ k) (hk2 : k ≤ 1000000)
    (hx : Sl w x xs) (sx : Sm 1000000 xs) (hm : xs.length ≤ 1000000) :
    Calls Try.prog 48 #[.int .i64 p, .int .i64 k, x] w fun e w' => ∃ v, e = .returned v ∧ FrI w' w.heap.size v (scaleL p xs k) ∧ Below w.heap.size w w' := by
  obtain ⟨a, c, rfl, rfl | ⟨b, off, rfl, hx⟩⟩ := hx
  · go_enter Try.func48, Try.ntmps48
    go_wp2
    refine wp_loop_rounds 1 ?_; rw [rounds_succ]
    go_wp2
    go_ret
    exact ⟨_, rfl, (OwnI.new (Nat.le_refl _)).fr, (by repeat (first | exact .refl _ _ | apply bwD | apply bwA | (refine bwS ?_ (by first | omega | simp <;> omega) _) | refine bwC ?_ (by assumption)))⟩
  go_enter Try.func48, Try.ntmps48
  go_wp2
  go_loopw [7, 8] (fun v i wr => ∃ m g cap : Nat, m ≤ xs.length ∧ i = .int .i64 m ∧ v = .slice (some ⟨g, 0, none⟩) m cap ∧ OwnI wr w.heap.size g m cap (scaleL p (xs.take m) k) ∧ Below w.heap.size w wr)
    (fun _ i _ => xs.length - (intOf i).toNat)
  case atStart => exact ⟨0, w.heap.size, 0, Nat.zero_le _, rfl, rfl, OwnI.new (Nat.le_refl _), (by repeat (first | exact .refl _ _ | apply bwD | apply bwA | (refine bwS ?_ (by first | omega | simp <;> omega) _) | refine bwC ?_ (by assumption)))⟩
  case round =>
    obtain ⟨m, g, cap, hm', rfl, rfl, hown, hb⟩ := hrel
    by_cases hlt : m < xs.length
    · obtain ⟨u, hxm, hcx, htx⟩ := (hx.below hb).get hlt
      have s1 := sx u hxm
      have s3 := mulb hk1 hk2 s1.1 s1.2
      have H := Lib.hid htx; clear htx
      go_wp2_with (first
       | (go_at_call 99; refine (smod_c hp hp2).mono ?_; rintro e w' ⟨rfl, rfl⟩)
       | (at_builtin; refine app_one rfl _ _ rfl wr w.heap.size g m cap _ rfl (k * u % p) _ rfl hown hb.size (by omega) ?_; intro g' cap' w' hown' hb' hg' hgg))
      go_roundw
      case rel => exact ⟨m + 1, g', cap', by omega, by go_num, rfl, by rw [H.out, scaleL_snoc, Int.mul_comm u k]; exact hown', hb.trans hb'⟩
      case measure => simp [intOf]; omega
    · obtain rfl : m = xs.length := by omega
      rw [take_all (Nat.le_refl _)] at hown
      go_wp2
      go_ret
      exact ⟨_, rfl, hown.fr, hb⟩
end Go.Proofs.Ytgkceadllcjeoaa
/-
  The walks of the laws' own helpers over rows of integers: sizes, copies, comparison, marking and reading the marks.
-/
namespace Go.Proofs.Ytgkceadllcjeoaa
open Go.RowKit

def FrW (w : World) (B : Nat) (v : Value) (xs : List Int) : Prop := ∃ g cap cap', v = .slice (some ⟨g, 0, none⟩) xs.length cap ∧ OwnI w B g xs.length cap' xs
def OwI (w : World) (B : Nat) (v : Value) (xs : List Int) : Prop := (v = .slice none 0 0 ∧ xs = []) ∨ FrW w B v xs
def Cp (v : Value) : Prop := ∃ a n c, v = .slice a n c ∧ n ≤ c ∧ c ≤ 9223372036854775807
section
variable {w w' : World} {B : Nat} {v : Value} {xs : List Int}
theorem FrI.wide (h : FrI w B v xs) : FrW w B v xs := by
  obtain ⟨g, cap, rfl, h⟩ := h
  exact ⟨g, cap, cap, rfl, h⟩
theorem FrI.cp (h : FrI w B v xs) : Cp v := by
  obtain ⟨g, cap, rfl, h⟩ := h
  have := h.caps
  simp only [maxLen] at this
  exact ⟨_, _, _, rfl, this.1, this.2⟩
theorem OwnI.cp {g n cap : Nat} (h : OwnI w B g n cap xs) : Cp (.slice (some ⟨g, 0, none⟩) n cap) := by
  have := h.caps
  simp only [maxLen] at this
  exact ⟨_, _, _, rfl, this.1, this.2⟩
theorem OwnI.first {g n cap k : Nat} (h : OwnI w B g n cap xs) (hk : k ≤ n) : OwnI w B g k cap (xs.take k) := by
  obtain ⟨cur, hh, hc, ht⟩ := h.row
  refine OwnI.mk_ h.lt.1 hh hc ?_ (Nat.le_trans hk h.caps.1) h.caps.2
  rw [List.map_take, ← ht, List.take_take, Nat.min_eq_left hk]
theorem OwI.sl (h : OwI w B v xs) : Sl w v xs := by
  rcases h with ⟨rfl, rfl⟩ | ⟨g, cap, cap', rfl, h⟩
  · exact Sl.nil w
  · exact h.at.sl
theorem OwI.below (h : OwI w B v xs) (hb : Below w.heap.size w w') : OwI w' B v xs := by
  rcases h with h | ⟨g, cap, cap', rfl, h⟩
  · exact .inl h
  · exact .inr ⟨g, cap, cap', rfl, h.below hb⟩
theorem OwI.more {B' : Nat} (h : OwI w B v xs) (hB : B' ≤ B) : OwI w B' v xs := by
  rcases h with h | ⟨g, cap, cap', rfl, h⟩
  · exact .inl h
  · exact .inr ⟨g, cap, cap', rfl, h.rebase (Nat.le_trans hB h.lt.1)⟩
theorem OwI.far {row : Option Nat} (h : OwI w B v xs) (hg : w.grownBy w' row) (hr : ∀ g, row = some g → g < B) : OwI w' B v xs := by
  rcases h with h | ⟨g, cap, cap', rfl, h⟩
  · exact .inl h
  · exact .inr ⟨g, cap, cap', rfl, h.grown hg (fun e => by have := hr g e.symm; have := h.lt; omega)⟩
theorem OwI.blk (h : OwI w B v xs) : ∀ g, v.ownBlock = some g → B ≤ g ∧ g < w.heap.size := by
  rcases h with ⟨rfl, _⟩ | ⟨g, cap, cap', rfl, h⟩
  · intro g hg; cases hg
  · intro g' hg
    cases hg
    exact h.lt
end
theorem made_list (v : Value) (n : Nat) : (madeCells #[v] n).toList = List.replicate n v := by
  refine List.ext_getElem (by simp [madeCells]) fun i h1 h2 => ?_
  simp [madeCells, Nat.mod_one]
end Go.Proofs.Ytgkceadllcjeoaa
/-
  Spaces: a prime and a row of squares, as a value of two parts; the laws' helpers over them, and the program's small questions.
-/
namespace Go.Proofs.Ytgkceadllcjeoaa
open Go.RowKit

theorem kept {W w1 : World} (hb : Below W.heap.size W w1) {b o : Nat} {v : Value} (h : W.cell? ⟨b, o, none⟩ = some v) : w1.cell? ⟨b, o, none⟩ = some v := by
  rw [hb.cell (p := ⟨b, o, none⟩) (World.block_lt_of_cell? W _ h)]; exact h
theorem OwnI.other {w : World} {B g n cap : Nat} {xs : List Int} (h : OwnI w B g n cap xs) {p : Addr} (hp : g ≠ p.block) (u : Value) : OwnI (w.setCell p u) B g n cap xs := by
  obtain ⟨cur, hh, hc, ht⟩ := h.row
  exact OwnI.mk_ h.lt.1 (by rw [← hh]; exact Below.heap_setCell _ _ _ _ hp) hc ht h.caps.1 h.caps.2
theorem sprime_c {p : Int} {w : World} : Calls Try.prog 139 #[.int .i64 p] w fun e w' => e = .returned (.bool (prB p)) ∧ w = w' := by
  by_cases h3 : p = 3
  · subst h3; go_enter Try.func139, Try.ntmps139; go_wp2; go_ret; exact ⟨rfl, rfl⟩
  by_cases h5 : p = 5
  · subst h5; go_enter Try.func139, Try.ntmps139; go_wp2; go_ret; exact ⟨rfl, rfl⟩
  by_cases h7 : p = 7
  · subst h7; go_enter Try.func139, Try.ntmps139; go_wp2; go_ret; exact ⟨rfl, rfl⟩
  by_cases h11 : p = 11
  · subst h11; go_enter Try.func139, Try.ntmps139; go_wp2; go_ret; exact ⟨rfl, rfl⟩
  by_cases h13 : p = 13
  · subst h13; go_enter Try.func139, Try.ntmps139; go_wp2; go_ret; exact ⟨rfl, rfl⟩
  have e : prB p = false := by simp [prB, IsP, *]
  have E := Lib.hid e; clear e
  have g3 : (p == 3) = false := by simpa using h3
  have g5 : (p == 5) = false := by simpa using h5
  have g7 : (p == 7) = false := by simpa using h7
  have g11 : (p == 11) = false := by simpa using h11
  have g13 : (p == 13) = false := by simpa using h13
  go_enter Try.func139, Try.ntmps139; go_wp2; go_ret; exact ⟨by rw [E.out]; rfl, rfl⟩
theorem sin_c {n l h : Int} {w : World} :
    Calls Try.prog 140 #[.int .i64 n, .int .i64 l, .int .i64 h] w fun e w' => e = .returned (.bool (inR n l h)) ∧ w = w' := by
  by_cases h1 : l ≤ n
  · go_enter Try.func140, Try.ntmps140
    go_wp2
    go_ret
    exact ⟨by simp [inR, *], rfl⟩
  · go_enter Try.func140, Try.ntmps140
    go_wp2
    go_ret
    exact ⟨by simp [inR]; omega, rfl⟩
theorem prB_iff {p : Int} : prB p = true ↔ IsP p := by simp [prB]
end Go.Proofs.Ytgkceadllcjeoaa
