/-
  The laws' helpers over doublings and hermitian matrices: sizes, copies, comparison.
-/
import Derived.Test.YtfcdhdkhfdhjfaaJao
import Derived.Test.YtfcdhdkhfdhjfaaJap
import Derived.Deep.DeepCutAuto
namespace Go.Proofs.Ytfcdhdkhfdhjfaa
open Go.RowKit

def Rs (w : World) (v : Value) (xss : List (List Int)) : Prop :=
  ∃ a c, v = .slice a xss.length c ∧ (xss = [] ∨ ∃ b off, a = some ⟨b, off, none⟩ ∧ ∀ j (h : j < xss.length), ∃ u, w.cell? ⟨b, off + j, none⟩ = some u ∧ Sl w u xss[j])
theorem Rs.below {w w' : World} {v : Value} {xss : List (List Int)} (h : Rs w v xss) (hb : Below w.heap.size w w') : Rs w' v xss := by
  obtain ⟨a, c, rfl, h⟩ := h
  refine ⟨a, c, rfl, ?_⟩
  rcases h with h | ⟨b, off, ha, h⟩
  · exact .inl h
  · refine .inr ⟨b, off, ha, fun j hj => ?_⟩
    obtain ⟨u, h1, h2⟩ := h j hj
    exact ⟨u, kept hb h1, h2.below hb⟩
theorem Re.rs {w : World} {v : Value} {xss : List (List Int)} (h : Re w v xss) : Rs w v xss := by
  obtain ⟨a, c, rfl, _, _, h⟩ := h
  refine ⟨a, c, rfl, ?_⟩
  rcases h with h | ⟨b, off, ha, h⟩
  · exact .inl h
  · refine .inr ⟨b, off, ha, fun j hj => ?_⟩
    obtain ⟨u, h1, h2⟩ := h j hj
    exact ⟨u, h1, h2.sl⟩
theorem Rs.get {w : World} {b off : Nat} {xss : List (List Int)} (h : ∀ j (h : j < xss.length), ∃ u, w.cell? ⟨b, off + j, none⟩ = some u ∧ Sl w u xss[j]) {m : Nat} (hm : m < xss.length) :
    ∃ a c xs, xs ∈ xss ∧ w.cell? ⟨b, off + m, none⟩ = some (.slice a xs.length c) ∧ Sl w (.slice a xs.length c) xs ∧ xss.take (m + 1) = xss.take m ++ [xs] ∧ xss.drop m = xs :: xss.drop (m + 1) := by
  obtain ⟨u, h1, a, c, rfl, h2⟩ := h m hm
  exact ⟨a, c, xss[m], List.getElem_mem hm, h1, ⟨a, c, rfl, h2⟩, List.take_succ_eq_append_getElem hm, List.drop_eq_getElem_cons hm⟩
def Hr (w : World) (v : Value) (X : Her) : Prop := ∃ d u, v = .agg #[d, u] ∧ Sl w d X.dg ∧ Rs w u X.up
theorem Hr.below {w w' : World} {v : Value} {X : Her} (h : Hr w v X) (hb : Below w.heap.size w w') : Hr w' v X := by
  obtain ⟨d, u, rfl, h1, h2⟩ := h
  exact ⟨d, u, rfl, h1.below hb, h2.below hb⟩
theorem Hv.hr {w : World} {v : Value} {X : Her} (h : Hv w v X) : Hr w v X := by
  obtain ⟨d, u, rfl, h1, h2⟩ := h
  exact ⟨d, u, rfl, h1.sl, h2.rs⟩
/-! ### Sizes -/
def szGo (left : Int) : List (List Int) → Int
  | [] => left
  | x :: xs => if left - x.length < 0 then -1 else szGo (left - x.length) xs
theorem szGo_cons {left : Int} {x : List Int} {xs : List (List Int)} : szGo left (x :: xs) = if left - x.length < 0 then -1 else szGo (left - x.length) xs := rfl
def szR (left : Int) (xss : List (List Int)) : Int := if left - xss.length < 0 then -1 else szGo (left - xss.length) xss
theorem szGo_bd : ∀ {xss : List (List Int)} {left : Int}, 0 ≤ left → left ≤ 1048576 → -1 ≤ szGo left xss ∧ szGo left xss ≤ 1048576
  | [], left, h0, h1 => by unfold szGo; omega
  | x :: xs, left, h0, h1 => by
    unfold szGo
    split
    · omega
    · exact szGo_bd (by omega) (by omega)
theorem szGo_pos : ∀ {xss : List (List Int)} {left : Int}, 0 ≤ left → left ≤ 1048576 → ¬ szGo left xss < 0 → ∀ xs ∈ xss, xs.length ≤ 1048576
  | [], _, _, _, _, xs, hx => by simp at hx
  | x :: l, left, h0, h1, h, xs, hx => by
    unfold szGo at h
    split at h
    · exact absurd (by decide) h
    · rename_i h2
      rcases List.mem_cons.1 hx with rfl | hx
      · omega
      · exact szGo_pos (by omega) (by omega) h xs hx
theorem szR_bd {xss : List (List Int)} {left : Int} (h0 : 0 ≤ left) (h1 : left ≤ 1048576) : -1 ≤ szR left xss ∧ szR left xss ≤ 1048576 := by
  unfold szR
  split
  · omega
  · exact szGo_bd (by omega) (by omega)
theorem szI_pos {n : Nat} {left : Int} (h1 : left ≤ 1048576) (h : ¬ szI left n < 0) : n ≤ 1048576 := by unfold szI at h; split at h <;> omega
theorem szss_c {x : Value} {xss : List (List Int)} {left : Int} {w : World} (hx : Rs w x xss) (h0 : 0 ≤ left) (h1 : left ≤ 1048576) (hn : xss.length ≤ 9223372036854775807) (hr : ∀ xs ∈ xss, xs.length ≤ 9223372036854775807) :
    Calls Try.prog 5 #[x, .int .i64 left] w fun e w' => e = .returned (.int .i64 (szR left xss)) ∧ w = w' := by
  obtain ⟨a, c, rfl, hx⟩ := hx
  by_cases hl : left - xss.length < 0
  · have e : szR left xss = -1 := if_pos hl
    have E := Lib.hid e; clear e
    go_enter Try.func5, Try.ntmps5
    go_wp2
    go_ret
    exact ⟨by rw [E.out]; rfl, rfl⟩
  have e : szR left xss = szGo (left - xss.length) xss := if_neg hl
  have E := Lib.hid e; clear e
  rcases hx with rfl | ⟨b, off, rfl, hx⟩
  · go_enter Try.func5, Try.ntmps5
    go_wp2
    refine wp_loop_rounds 1 ?_; rw [rounds_succ]
    go_wp2
    go_ret
    exact ⟨by rw [E.out]; simp [szGo], rfl⟩
  go_enter Try.func5, Try.ntmps5
  go_wp2
  go_loop [1, 5] (fun q i => ∃ (k : Nat) (L : Int), k ≤ xss.length ∧ i = .int .i64 k ∧ q = .int .i64 L ∧ 0 ≤ L ∧ L ≤ 1048576 ∧ szGo L (xss.drop k) = szGo (left - xss.length) xss) (fun _ i => xss.length - (intOf i).toNat)
  case atStart => exact ⟨0, left - xss.length, Nat.zero_le _, rfl, rfl, by omega, by omega, rfl⟩
  case round =>
    obtain ⟨k, L, hk, rfl, rfl, hL0, hL1, hg⟩ := hrel
    by_cases hlt : k < xss.length
    · obtain ⟨a1, c1, xs, hxs, hc, hs, ht, hd⟩ := Rs.get hx hlt
      have hxl := hr xs hxs
      rw [hd, szGo_cons] at hg
      clear hs ht hd
      by_cases hneg : L - xs.length < 0
      · rw [if_pos hneg] at hg
        have hsz : szI L xs.length = -1 := if_pos hneg
        have H := Lib.hid hg; clear hg
        go_wp2_with (go_at_call 17; refine (sz_c hL0 hL1 hxl).mono ?_; rintro e w' ⟨rfl, rfl⟩; simp only [hsz])
        go_ret
        exact ⟨by rw [E.out, ← H.out]; rfl, rfl⟩
      · rw [if_neg hneg] at hg
        have hsz : szI L xs.length = L - xs.length := if_neg hneg
        have H := Lib.hid hg; clear hg
        go_wp2_with (go_at_call 17; refine (sz_c hL0 hL1 hxl).mono ?_; rintro e w' ⟨rfl, rfl⟩; simp only [hsz])
        go_round
        case rel => exact ⟨k + 1, L - xs.length, by omega, by go_num, rfl, by omega, by omega, H.out⟩
        case measure => simp [intOf]; omega
    · obtain rfl : k = xss.length := by omega
      rw [List.drop_length] at hg
      have H := Lib.hid hg; clear hg
      go_wp2
      go_ret
      exact ⟨by rw [E.out, ← H.out]; rfl, rfl⟩
theorem szd_c {p : Int} {a : Option Addr} {n c : Nat} {left : Int} {w : World} (h0 : 0 ≤ left) (h1 : left ≤ 1048576) (hn : n ≤ 9223372036854775807) :
    Calls Try.prog 4 #[.agg #[.int .i64 p, .slice a n c], .int .i64 left] w fun e w' => e = .returned (.int .i64 (szI left n)) ∧ Below w.heap.size w w' := by
  have hs := szI_bd (n := n) h0 h1
  have hn' := Lib.hid (@szI_neg left n)
  by_cases hl : szI left n < 0
  · go_enter Try.func4, Try.ntmps4
    go_wp2_with (go_at_call 17; refine (sz_c h0 h1 hn).mono ?_; rintro e w' ⟨rfl, rfl⟩)
    go_ret
    exact ⟨by rw [hn'.out hl]; rfl, (by repeat (first | exact .refl _ _ | apply bwD | apply bwA | (refine bwS ?_ (by first | omega | simp <;> omega) _) | refine bwC ?_ (by assumption)))⟩
  · go_enter Try.func4, Try.ntmps4
    go_wp2_with (go_at_call 17; refine (sz_c h0 h1 hn).mono ?_; rintro e w' ⟨rfl, rfl⟩)
    go_ret
    exact ⟨rfl, (by repeat (first | exact .refl _ _ | apply bwD | apply bwA | (refine bwS ?_ (by first | omega | simp <;> omega) _) | refine bwC ?_ (by assumption)))⟩
/-! ### Copies -/
theorem toss_c {x : Value} {xss : List (List Int)} {w : World} (hx : Rs w x xss) (hm : xss.length ≤ 1048576) (hr : ∀ xs ∈ xss, xs.length ≤ 1048576) :
    Calls Try.prog 8 #[x] w fun e w' => ∃ v us, e = .returned v ∧ FrR w' w.heap.size v us xss ∧ Below w.heap.size w w' := by
  obtain ⟨a, c, rfl, hx⟩ := hx
  have hmk := fun W => run_make_row' (P := Try.prog) 25 22 (.slice none 0 0) 24 Try.underlying25 infoR rfl .i64 .i64 xss.length (by omega) (by omega) W
  rcases hx with rfl | ⟨b, off, rfl, hx⟩
  · clear hmk
    have hmk : ∀ W, (Instr.makeSlice 25 (.int .i64 0) (.int .i64 0)).run Try.prog W = .ok (.slice (some ⟨W.heap.size, 0, none⟩) 0 0) (W.alloc (.cells #[] 22)) := fun _ => by kernel_rfl
    go_enter Try.func8, Try.ntmps8
    go_wp2
    refine wp_loop_rounds 1 ?_; rw [rounds_succ]
    go_wp2
    go_ret
    exact ⟨_, [], rfl, ⟨w.heap.size, 0, rfl, OwV.new (Nat.le_refl _), rfl, fun j h => by simp at h, List.Pairwise.nil⟩, (by repeat (first | exact .refl _ _ | apply bwD | apply bwA | (refine bwS ?_ (by first | omega | simp <;> omega) _) | refine bwC ?_ (by assumption)))⟩
  have hnew : (w.alloc (.cells (madeCells #[Value.slice none 0 0] xss.length) 22)).ownsRow w.heap.size 22 1 (.slice (some ⟨w.heap.size, 0, none⟩) xss.length xss.length) xss.length (List.replicate xss.length (.slice none 0 0)) := by
    have h := World.ownsRow_lit (base := w.heap.size) (e := 22) (size := 1) w (madeCells #[Value.slice none 0 0] xss.length) xss.length (Nat.le_refl _) (by simp only [maxLen]; omega) (by simp [madeCells])
    rwa [made_list] at h
  go_enter Try.func8, Try.ntmps8
  go_wp2
  go_loopw [4] (fun i wr => ∃ (m : Nat) (us : List Value), m ≤ xss.length ∧ i = .int .i64 m ∧ wr.ownsRow w.heap.size 22 1 (.slice (some ⟨w.heap.size, 0, none⟩) xss.length xss.length) xss.length (us ++ List.replicate (xss.length - m) (.slice none 0 0)) ∧
      us.length = m ∧ RowsA wr w.heap.size us (xss.take m) ∧ Below w.heap.size w wr)
    (fun i _ => xss.length - (intOf i).toNat)
  case atStart => exact ⟨0, [], Nat.zero_le _, rfl, by simpa using hnew, rfl, RowsA.nil _ _, (by repeat (first | exact .refl _ _ | apply bwD | apply bwA | (refine bwS ?_ (by first | omega | simp <;> omega) _) | refine bwC ?_ (by assumption)))⟩
  case round =>
    obtain ⟨m, us, hm', rfl, hown, hul, hra, hb⟩ := hrel
    by_cases hlt : m < xss.length
    · obtain ⟨a1, c1, xs, hxs, hc, hs, ht, _⟩ := Rs.get hx hlt
      have hc := kept hb hc
      have hs := hs.below hb
      have hxl := hr xs hxs
      have HT := Lib.hid (And.intro ht hul); clear ht hul
      go_wp2_with fail
      refine (to_c hs hxl).mono ?_; rintro e w1 ⟨v, rfl, hv, hb1⟩
      obtain ⟨gv, cv, rfl, _⟩ := id hv
      have hown := ownsRow_of hown (hb1.block _ (World.ownsRow.lt hown w.heap.size rfl).2) (Nat.le_refl _)
      have hra2 := hra.below hb1
      have hold := World.ownsRow.cellAt hown m (by omega)
      rw [List.getElem?_append_right (by have := HT.out.2; omega), HT.out.2, Nat.sub_self, show xss.length - m = (xss.length - (m + 1)) + 1 by omega, List.replicate_succ] at hold
      simp only [List.getElem?_cons_zero] at hold
      have hfree := World.ownsRow.frozenAt hown m
      obtain ⟨hst, hgr⟩ := World.ownsRow.stored hown m (.slice (some ⟨gv, 0, none⟩) xs.length cv)
      have hfr := hra.fresh hv
      have hbw := bwC hb hb1
      have hov : OwV w1 w.heap.size (.slice (some ⟨w.heap.size, 0, none⟩) xss.length xss.length) (us ++ List.replicate (xss.length - m) (.slice none 0 0)) := by
        have e : (us ++ List.replicate (xss.length - m) (Value.slice none 0 0)).length = xss.length := by have := HT.out.2; simp; omega
        unfold OwV
        rw [e]; exact hown
      have hset : (us ++ List.replicate (xss.length - m) (Value.slice none 0 0)).set m (.slice (some ⟨gv, 0, none⟩) xs.length cv) = (us ++ [.slice (some ⟨gv, 0, none⟩) xs.length cv]) ++ List.replicate (xss.length - (m + 1)) (.slice none 0 0) := by
        have e := HT.out.2
        rw [List.set_append_right _ _ (by omega), e, Nat.sub_self, show xss.length - m = (xss.length - (m + 1)) + 1 by omega, List.replicate_succ]
        simp
      rw [hset] at hst
      have hra3 := hra2.app hov hgr
      have hv3 := (hv.more (B' := w.heap.size) hb.size).app hov hgr
      have HS := Lib.hid hset; clear hset hov hown
      go_wp2_with fail
      go_roundw
      case rel => exact ⟨m + 1, us ++ [_], by omega, by go_num, hst, by have := HT.out.2; simp; omega, by rw [HT.out.1]; exact hra3.snoc hv3 hfr, bwS hbw (Nat.le_refl _) _⟩
      case measure => simp [intOf]; omega
    · obtain rfl : m = xss.length := by omega
      rw [take_all (Nat.le_refl _)] at hra
      rw [Nat.sub_self, List.replicate_zero, List.append_nil] at hown
      go_wp2
      go_ret
      refine ⟨_, us, rfl, ⟨w.heap.size, xss.length, by rw [hul]; rfl, by rw [hul]; exact hown, hra.1, hra.2.1, hra.2.2⟩, hb⟩
theorem tod_c {p : Int} {x : Value} {xs : List Int} {w : World} (hx : Sl w x xs) (hm : xs.length ≤ 1048576) :
    Calls Try.prog 7 #[.agg #[.int .i64 p, x]] w fun e w' => ∃ v, e = .returned (.agg #[.int .i64 p, v]) ∧ FrI w' w.heap.size v xs ∧ Below w.heap.size w w' := by
  go_enter Try.func7, Try.ntmps7
  go_wp2_with fail
  refine (to_c (hx.below (by repeat (first | exact .refl _ _ | apply bwD | apply bwA | (refine bwS ?_ (by first | omega | simp <;> omega) _) | refine bwC ?_ (by assumption)))) hm).mono ?_; rintro e w1 ⟨v, rfl, ⟨g, cap, rfl, hv⟩, hb⟩
  have c0 := kept hb (b := w.heap.size + 1 + 1) (o := 0) (v := .int .i64 p) (by simp [go_sem])
  have c1 := kept hb (b := w.heap.size + 1 + 1) (o := 1) (v := .slice none 0 0) (by simp [go_sem])
  have c2 := kept hb (b := w.heap.size + 1) (o := 0) (v := .int .i64 0) (by simp [go_sem])
  have c3 := kept hb (b := w.heap.size + 1) (o := 1) (v := .slice none 0 0) (by simp [go_sem])
  have f0 := keptF hb (b := w.heap.size + 1 + 1) (o := 1) (by simp) (by simp [go_sem])
  have f1 := keptF hb (b := w.heap.size + 1) (o := 0) (by simp) (by simp [go_sem])
  have f2 := keptF hb (b := w.heap.size + 1) (o := 1) (by simp) (by simp [go_sem])
  have hl := hv.lt
  simp at hl
  go_wp2_with fail
  refine bodyPost_ret (v := .agg #[.int .i64 p, .slice (some ⟨g, 0, none⟩) xs.length cap]) (by simp [results, Try.results7, go_sem, c2, c3]) rfl ⟨_, rfl, ?_, ?_⟩
  · exact ⟨g, cap, rfl, (((hv.rebase (by omega)).other (by simp; omega) _).other (by simp; omega) _).other (by simp; omega) _⟩
  · exact (by repeat (first | exact .refl _ _ | apply bwD | apply bwA | (refine bwS ?_ (by first | omega | simp <;> omega) _) | refine bwC ?_ (by assumption)))
theorem FrI.other {w : World} {B : Nat} {v : Value} {xs : List Int} (h : FrI w B v xs) {p : Addr} (hp : v.ownBlock ≠ some p.block) (u : Value) : FrI (w.setCell p u) B v xs := by
  obtain ⟨g, cap, rfl, h⟩ := h
  exact ⟨g, cap, rfl, h.other (fun e => hp (by rw [← e]; rfl)) u⟩
theorem FrR.other {w : World} {B : Nat} {v : Value} {us : List Value} {xss : List (List Int)} (h : FrR w B v us xss) {p : Addr} (hp : v.ownBlock ≠ some p.block) (hq : ∀ z ∈ us, z.ownBlock ≠ some p.block) (u : Value) : FrR (w.setCell p u) B v us xss := by
  obtain ⟨g0, cap0, e0, hB, hs, _⟩ := h.lt
  obtain ⟨g, cap, rfl, h1, h2, h3, h4⟩ := h
  cases e0
  exact ⟨g0, cap0, rfl, ownsRow_of h1 (Below.heap_setCell _ _ _ _ (fun e => hp (by rw [← e]; rfl))) hB, h2, fun j a b => (h3 j a b).other (hq _ (List.getElem_mem a)) u, h4⟩
theorem FrR.blks {w : World} {B : Nat} {v : Value} {us : List Value} {xss : List (List Int)} (h : FrR w B v us xss) : ∀ z ∈ us, ∃ g, z.ownBlock = some g ∧ B ≤ g ∧ g < w.heap.size := fun z hz => by
  obtain ⟨g, cap, _, _, h2, h3, h4⟩ := h
  exact RowsA.mem ⟨h2, h3, h4⟩ hz
end Go.Proofs.Ytfcdhdkhfdhjfaa
