/-
  The walks of the laws' own helpers over rows of integers: sizes, copies, comparison, marking and reading the marks.
-/
import Derived.Test.YtfcdhdkhfdhjfaaRow
import Derived.Deep.OwnRows
namespace Go.Proofs.Ytfcdhdkhfdhjfaa
open Go.RowKit

def cnt (k : Int) : Nat → List Int
  | 0 => []
  | n + 1 => cnt k n ++ [k + n]
theorem cnt_len {k : Int} : ∀ n, (cnt k n).length = n
  | 0 => rfl
  | n + 1 => by unfold cnt; rw [List.length_append, cnt_len n]; rfl
theorem cnt_get {k : Int} : ∀ {n j : Nat}, j < n → (cnt k n).getD j 0 = k + j
  | 0, j, h => by omega
  | n + 1, j, h => by
    unfold cnt
    by_cases hj : j < n
    · have := cnt_get (k := k) hj
      rw [List.getD_eq_getElem?_getD] at this ⊢
      rw [List.getElem?_append_left (by rw [cnt_len]; exact hj)]
      exact this
    · obtain rfl : j = n := by omega
      rw [List.getD_eq_getElem?_getD, List.getElem?_append_right (by rw [cnt_len]; exact Nat.le_refl _), cnt_len]
      simp
def szI (left : Int) (n : Nat) : Int := if left - n < 0 then -1 else left - n
def FrW (w : World) (B : Nat) (v : Value) (xs : List Int) : Prop := ∃ g cap cap', v = .slice (some ⟨g, 0, none⟩) xs.length cap ∧ OwnI w B g xs.length cap' xs
def OwI (w : World) (B : Nat) (v : Value) (xs : List Int) : Prop := (v = .slice none 0 0 ∧ xs = []) ∨ FrW w B v xs
def Cp (v : Value) : Prop := ∃ a n c, v = .slice a n c ∧ n ≤ c ∧ c ≤ 9223372036854775807
section
variable {w w' : World} {B : Nat} {v : Value} {xs : List Int}
theorem FrI.wide (h : FrI w B v xs) : FrW w B v xs := by
  obtain ⟨g, cap, rfl, h⟩ := h
  exact ⟨g, cap, cap, rfl, h⟩
theorem FrI.cp (h : FrI w B v xs) : Cp v := by
  obtain ⟨g, cap, rfl, h⟩ := h
  have := h.caps
  simp only [maxLen] at this
  exact ⟨_, _, _, rfl, this.1, this.2⟩
theorem OwnI.cp {g n cap : Nat} (h : OwnI w B g n cap xs) : Cp (.slice (some ⟨g, 0, none⟩) n cap) := by
  have := h.caps
  simp only [maxLen] at this
  exact ⟨_, _, _, rfl, this.1, this.2⟩
theorem FrI.ow {B' : Nat} (h : FrI w B v xs) (hB : B' ≤ B) : OwI w B' v xs := .inr (h.more hB).wide
theorem OwnI.first {g n cap k : Nat} (h : OwnI w B g n cap xs) (hk : k ≤ n) : OwnI w B g k cap (xs.take k) := by
  obtain ⟨cur, hh, hc, ht⟩ := h.row
  refine OwnI.mk_ h.lt.1 hh hc ?_ (Nat.le_trans hk h.caps.1) h.caps.2
  rw [List.map_take, ← ht, List.take_take, Nat.min_eq_left hk]
theorem OwI.sl (h : OwI w B v xs) : Sl w v xs := by
  rcases h with ⟨rfl, rfl⟩ | ⟨g, cap, cap', rfl, h⟩
  · exact Sl.nil w
  · exact h.at.sl
theorem OwI.below (h : OwI w B v xs) (hb : Below w.heap.size w w') : OwI w' B v xs := by
  rcases h with h | ⟨g, cap, cap', rfl, h⟩
  · exact .inl h
  · exact .inr ⟨g, cap, cap', rfl, h.below hb⟩
theorem OwI.more {B' : Nat} (h : OwI w B v xs) (hB : B' ≤ B) : OwI w B' v xs := by
  rcases h with h | ⟨g, cap, cap', rfl, h⟩
  · exact .inl h
  · exact .inr ⟨g, cap, cap', rfl, h.rebase (Nat.le_trans hB h.lt.1)⟩
theorem OwI.far {row : Option Nat} (h : OwI w B v xs) (hg : w.grownBy w' row) (hr : ∀ g, row = some g → g < B) : OwI w' B v xs := by
  rcases h with h | ⟨g, cap, cap', rfl, h⟩
  · exact .inl h
  · exact .inr ⟨g, cap, cap', rfl, h.grown hg (fun e => by have := hr g e.symm; have := h.lt; omega)⟩
theorem OwI.blk (h : OwI w B v xs) : ∀ g, v.ownBlock = some g → B ≤ g ∧ g < w.heap.size := by
  rcases h with ⟨rfl, _⟩ | ⟨g, cap, cap', rfl, h⟩
  · intro g hg; cases hg
  · intro g' hg
    cases hg
    exact h.lt
end
theorem made_list (v : Value) (n : Nat) : (madeCells #[v] n).toList = List.replicate n v := by
  refine List.ext_getElem (by simp [madeCells]) fun i h1 h2 => ?_
  simp [madeCells, Nat.mod_one]
theorem sz_c {a : Option Addr} {n c : Nat} {left : Int} {w : World} (h0 : 0 ≤ left) (h1 : left ≤ 1048576) (hn : n ≤ 9223372036854775807) :
    Calls Try.prog 17 #[.slice a n c, .int .i64 left] w fun e w' => e = .returned (.int .i64 (szI left n)) ∧ w = w' := by
  by_cases h : left - n < 0
  · have e : szI left n = -1 := if_pos h
    have E := Lib.hid e; clear e
    go_enter Try.func17, Try.ntmps17; go_wp2; go_ret; exact ⟨by rw [E.out]; rfl, rfl⟩
  · have e : szI left n = left - n := if_neg h
    have E := Lib.hid e; clear e
    go_enter Try.func17, Try.ntmps17; go_wp2; go_ret; exact ⟨by rw [E.out]; rfl, rfl⟩
theorem to_c {x : Value} {xs : List Int} {w : World} (hx : Sl w x xs) (hm : xs.length ≤ 1048576) :
    Calls Try.prog 25 #[x] w fun e w' => ∃ v, e = .returned v ∧ FrI w' w.heap.size v xs ∧ Below w.heap.size w w' := by
  obtain ⟨a, c, rfl, hx⟩ := hx
  have hmk := fun W => run_make_row' (P := Try.prog) 22 2 (.int .i64 0) 8 Try.underlying22 infoI rfl .i64 .i64 xs.length (by omega) (by omega) W
  have hnew : OwnI (w.alloc (.cells (madeCells #[Value.int .i64 0] xs.length) 2)) w.heap.size w.heap.size xs.length xs.length (List.replicate xs.length 0) := by
    refine OwnI.mk_ (Nat.le_refl _) (heap_alloc_new w _) ?_ ?_ (Nat.le_refl _) (by simp only [maxLen]; omega)
    · simp [madeCells]
    · rw [made_list]; simp
  rcases hx with rfl | ⟨b, off, rfl, hx⟩
  · clear hmk hnew
    have hmk : ∀ W, (Instr.makeSlice 22 (.int .i64 0) (.int .i64 0)).run Try.prog W = .ok (.slice (some ⟨W.heap.size, 0, none⟩) 0 0) (W.alloc (.cells #[] 2)) := fun _ => by kernel_rfl
    go_enter Try.func25, Try.ntmps25
    go_wp2
    refine wp_loop_rounds 1 ?_; rw [rounds_succ]
    go_wp2
    go_ret
    exact ⟨_, rfl, (OwnI.new (Nat.le_refl _)).fr, (by repeat (first | exact .refl _ _ | apply bwD | apply bwA | (refine bwS ?_ (by first | omega | simp <;> omega) _) | refine bwC ?_ (by assumption)))⟩
  go_enter Try.func25, Try.ntmps25
  go_wp2
  go_loopw [4] (fun i wr => ∃ m : Nat, m ≤ xs.length ∧ i = .int .i64 m ∧ OwnI wr w.heap.size w.heap.size xs.length xs.length (xs.take m ++ List.replicate (xs.length - m) 0) ∧ Below w.heap.size w wr)
    (fun i _ => xs.length - (intOf i).toNat)
  case atStart => exact ⟨0, Nat.zero_le _, rfl, by simpa using hnew, (by repeat (first | exact .refl _ _ | apply bwD | apply bwA | (refine bwS ?_ (by first | omega | simp <;> omega) _) | refine bwC ?_ (by assumption)))⟩
  case round =>
    obtain ⟨m, hm', rfl, hown, hb⟩ := hrel
    by_cases hlt : m < xs.length
    · obtain ⟨u, hxm, hcx, htx⟩ := (hx.below hb).get hlt
      have hset := hown.set (i := m) u
      have hold : wr.cell? ⟨w.heap.size, m, none⟩ = some (.int .i64 ((xs.take m ++ List.replicate (xs.length - m) 0).getD m 0)) := by
        have := hown.at m (by simp; omega)
        rwa [Nat.zero_add] at this
      obtain ⟨q, hq⟩ : ∃ q, q = (xs.take m ++ List.replicate (xs.length - m) 0).getD m 0 := ⟨_, rfl⟩
      rw [← hq] at hold; clear hq
      have hfree := hown.free m
      have H := Lib.hid htx; clear htx
      go_wp2
      go_roundw
      case rel =>
        refine ⟨m + 1, by omega, by go_num, ?_, hb.setCell (by simp) _⟩
        have e : (xs.take m ++ List.replicate (xs.length - m) 0).set m u = xs.take (m + 1) ++ List.replicate (xs.length - (m + 1)) 0 := by
          rw [H.out, List.set_append_right _ _ (by simp; omega), show xs.length - m = (xs.length - (m + 1)) + 1 by omega, List.replicate_succ]
          simp [show m - min m xs.length = 0 by omega]
        rw [← e]; exact hset
      case measure => simp [intOf]; omega
    · obtain rfl : m = xs.length := by omega
      rw [take_all (Nat.le_refl _), Nat.sub_self, List.replicate_zero, List.append_nil] at hown
      go_wp2
      go_ret
      exact ⟨_, rfl, hown.fr, hb⟩
theorem eq_c {x y : Value} {xs ys : List Int} {w : World} (hx : Sl w x xs) (hy : Sl w y ys) (hm : xs.length ≤ 1048576) :
    Calls Try.prog 36 #[x, y] w fun e w' => e = .returned (.bool (decide (xs = ys))) ∧ Below w.heap.size w w' := by
  by_cases hl : ys.length = xs.length
  · rcases two_rows hx hy hl with ⟨rfl, rfl, a, c, a2, c2, rfl, rfl⟩ | ⟨b, off, c, b2, off2, c2, rfl, rfl, hx, hy⟩
    · go_enter Try.func36, Try.ntmps36
      go_wp2
      refine wp_loop_rounds 1 ?_; rw [rounds_succ]
      go_wp2
      go_ret
      exact ⟨rfl, Below.refl _ _⟩
    have HL := Lib.hid hl; clear hl
    go_enter Try.func36, Try.ntmps36
    go_wp2
    go_loopw [5] (fun i wr => ∃ m : Nat, m ≤ xs.length ∧ i = .int .i64 m ∧ xs.take m = ys.take m ∧ Below w.heap.size w wr)
      (fun i _ => xs.length - (intOf i).toNat)
    case atStart => exact ⟨0, Nat.zero_le _, rfl, rfl, Below.refl _ _⟩
    case round =>
      obtain ⟨m, hm', rfl, heq, hb⟩ := hrel
      by_cases hlt : m < xs.length
      · obtain ⟨u, hxm, hcx, htx⟩ := (hx.below hb).get hlt
        have hlt2 : m < ys.length := by rw [HL.out]; exact hlt
        obtain ⟨z, hym, hcy, hty⟩ := (hy.below hb).get hlt2
        have H := Lib.hid (And.intro htx (And.intro hty heq)); clear htx hty heq
        by_cases huz : u = z
        · subst huz
          go_wp2
          refine region_flow [(false, [(0, 0), (1, 0), (2, 0), (3, 1), (4, 0), (5, 0), (6, 0), (7, 1), (8, 0)])] (by kernel_rfl) ?_
          refine norm_K fun K hK => ?_
          change wpList _ _ _ [_, _, _, _, _, _, _, _, _] _ _
          go_wp2
          first | (refine hK _ _ ⟨rfl, ?_⟩; clear hK K) | refine ⟨rfl, ?_⟩
          go_wp2
          go_roundw
          case rel => exact ⟨m + 1, by omega, by go_num, by rw [H.out.1, H.out.2.1, H.out.2.2], hb.drew⟩
          case measure => simp [intOf]; omega
        · have hd : decide (xs = ys) = false := by
            refine decide_eq_false fun he => huz ?_
            have h1 : xs.take (m + 1) = ys.take (m + 1) := by rw [he]
            rw [H.out.1, H.out.2.1, H.out.2.2] at h1
            have h2 := congrArg List.getLast? (List.append_cancel_left h1)
            simpa using h2
          have hne : (u != z) = true := by simpa using huz
          have HD := Lib.hid hd; clear hd
          go_wp2
          refine region_flow [(false, [(0, 0), (1, 0), (2, 0), (3, 1), (4, 0), (5, 0), (6, 0), (7, 1), (8, 0)])] (by kernel_rfl) ?_
          refine norm_K fun K hK => ?_
          change wpList _ _ _ [_, _, _, _, _, _, _, _, _] _ _
          go_wp2
          first | (refine hK _ _ ⟨rfl, ?_⟩; clear hK K) | refine ⟨rfl, ?_⟩
          go_wp2
          go_ret
          exact ⟨by rw [HD.out]; rfl, hb.drew⟩
      · obtain rfl : m = xs.length := by omega
        rw [take_all (Nat.le_refl _), take_all (by rw [HL.out]; exact Nat.le_refl _)] at heq
        have hd : decide (xs = ys) = true := decide_eq_true heq
        have HD := Lib.hid hd; clear hd heq
        go_wp2
        go_ret
        exact ⟨by rw [HD.out]; rfl, hb⟩
  · obtain ⟨a, c, rfl, _⟩ := hx
    obtain ⟨a2, c2, rfl, _⟩ := hy
    have hd : decide (xs = ys) = false := decide_eq_false fun he => hl (by rw [he])
    have hne : ((xs.length : Int) != (ys.length : Int)) = true := by rw [bne_iff_ne]; omega
    have HD := Lib.hid hd; clear hd
    go_enter Try.func36, Try.ntmps36
    go_wp2
    go_ret
    exact ⟨by rw [HD.out]; rfl, Below.refl _ _⟩
theorem mark_c {x : Value} {xs : List Int} {B : Nat} {k : Int} {w : World} (hx : OwI w B x xs) (hm : xs.length ≤ 1048576) (hk0 : 0 ≤ k) (hk : k ≤ 100000000000) :
    Calls Try.prog 37 #[x, .int .i64 k] w fun e w' => e = .returned (.int .i64 (k + xs.length)) ∧ OwI w' B x (cnt k xs.length) ∧ w.grownBy w' x.ownBlock := by
  rcases hx with ⟨rfl, rfl⟩ | ⟨g, cap, cap', rfl, hx⟩
  · go_enter Try.func37, Try.ntmps37
    go_wp2
    refine wp_loop_rounds 1 ?_; rw [rounds_succ]
    go_wp2
    go_ret
    exact ⟨by simp, .inl ⟨rfl, rfl⟩, World.grownBy.refl _ _⟩
  go_enter Try.func37, Try.ntmps37
  go_wp2
  go_loopw [1, 5] (fun q i wr => ∃ m : Nat, m ≤ xs.length ∧ i = .int .i64 m ∧ q = .int .i64 (k + m) ∧ OwnI wr B g xs.length cap' (cnt k m ++ xs.drop m) ∧ w.grownBy wr (some g))
    (fun _ i _ => xs.length - (intOf i).toNat)
  case atStart => exact ⟨0, Nat.zero_le _, rfl, by simp, by simpa [cnt] using hx, World.grownBy.refl _ _⟩
  case round =>
    obtain ⟨m, hm', rfl, rfl, hown, hg⟩ := hrel
    by_cases hlt : m < xs.length
    · have hset := hown.set (i := m) (k + m)
      have hlen := hown.len
      have hold : wr.cell? ⟨g, m, none⟩ = some (.int .i64 ((cnt k m ++ xs.drop m).getD m 0)) := by
        have := hown.at m (by rw [hlen]; exact hlt)
        rwa [Nat.zero_add] at this
      clear hlen
      obtain ⟨q, hq⟩ : ∃ q, q = (cnt k m ++ xs.drop m).getD m 0 := ⟨_, rfl⟩
      rw [← hq] at hold; clear hq
      have hfree := hown.free m
      have hlt2 := hown.lt
      go_wp2
      go_roundw
      case rel =>
        refine ⟨m + 1, by omega, by go_num, by go_num, ?_, ?_⟩
        · have e : (cnt k m ++ xs.drop m).set m (k + m) = cnt k (m + 1) ++ xs.drop (m + 1) := by
            rw [List.set_append_right _ _ (by rw [cnt_len]; exact Nat.le_refl _), cnt_len, Nat.sub_self, List.drop_eq_getElem_cons hlt, List.set_cons_zero]
            simp [cnt]
          rw [← e]; exact hset
        · exact ⟨hg.os, hg.tape, hg.output, by have := hg.size; simpa [World.setCell] using this, fun j hj hne => by
            rw [← hg.block j hj hne]
            exact Below.heap_setCell _ _ _ _ (fun e => hne (by rw [e]))⟩
      case measure => simp [intOf]; omega
    · obtain rfl : m = xs.length := by omega
      rw [List.drop_length, List.append_nil] at hown
      go_wp2
      go_ret
      have e : Value.slice (some ⟨g, 0, none⟩) xs.length cap = .slice (some ⟨g, 0, none⟩) (cnt k xs.length).length cap := by rw [cnt_len]
      exact ⟨rfl, .inr (by rw [e]; exact ⟨g, cap, cap', rfl, by rw [cnt_len]; exact hown⟩), hg⟩
theorem held_c {x : Value} {n : Nat} {k : Int} {w : World} (hx : Sl w x (cnt k n)) (hm : n ≤ 1048576) (hk0 : 0 ≤ k) (hk : k ≤ 100000000000) :
    Calls Try.prog 60 #[x, .int .i64 k] w fun e w' => e = .returned (.int .i64 (k + n)) ∧ w = w' := by
  obtain ⟨a, c, rfl, hx⟩ := hx
  rw [cnt_len]
  rcases hx with h0 | ⟨b, off, rfl, hx⟩
  · obtain rfl : n = 0 := by have := congrArg List.length h0; rwa [cnt_len] at this
    clear h0
    go_enter Try.func60, Try.ntmps60
    go_wp2
    refine wp_loop_rounds 1 ?_; rw [rounds_succ]
    go_wp2
    go_ret
    exact ⟨by simp, rfl⟩
  have hc : ∀ j, j < n → w.cell? ⟨b, off + j, none⟩ = some (.int .i64 (k + j)) := fun j hj => by
    rw [hx j (by rw [cnt_len]; exact hj), cnt_get hj]
  clear hx
  go_enter Try.func60, Try.ntmps60
  go_wp2
  go_loop [1, 5] (fun q i => ∃ m : Nat, m ≤ n ∧ i = .int .i64 m ∧ q = .int .i64 (k + m))
    (fun _ i => n - (intOf i).toNat)
  case atStart => exact ⟨0, Nat.zero_le _, rfl, by simp⟩
  case round =>
    obtain ⟨m, hm', rfl, rfl⟩ := hrel
    by_cases hlt : m < n
    · have hcx := hc m hlt
      clear hc
      go_wp2
      go_round
      case rel => exact ⟨m + 1, by omega, by go_num, by go_num⟩
      case measure => simp [intOf]; omega
    · obtain rfl : m = n := by omega
      clear hc
      go_wp2
      go_ret
      exact ⟨rfl, rfl⟩
end Go.Proofs.Ytfcdhdkhfdhjfaa
