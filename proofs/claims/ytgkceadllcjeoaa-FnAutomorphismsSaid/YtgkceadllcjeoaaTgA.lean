/-
  Norms of a doubling's basis, isometries, forms: program and reference.
-/
import Derived.Test.YtgkceadllcjeoaaTrE
import Derived.Test.YtgkceadllcjeoaaDbU
import Derived.Test.YtgkceadllcjeoaaJaw
namespace Go.Proofs.Ytgkceadllcjeoaa
open Go.RowKit

/-! ### Sums over places -/
def sumF (f : Nat → Int) : Nat → Int
  | 0 => 0
  | n + 1 => sumF f n + f n
theorem sumF_cons {f : Nat → Int} : ∀ n, sumF f (n + 1) = f 0 + sumF (fun r => f (r + 1)) n
  | 0 => by simp [sumF]
  | n + 1 => by
    show sumF f (n + 1) + f (n + 1) = f 0 + (sumF (fun r => f (r + 1)) n + f (n + 1))
    rw [sumF_cons n]; omega
theorem sumF_bd {f : Nat → Int} {B : Int} : ∀ {n : Nat}, (∀ r, r < n → 0 ≤ f r ∧ f r ≤ B) → 0 ≤ sumF f n ∧ sumF f n ≤ B * n
  | 0, _ => by simp [sumF]
  | n + 1, h => by
    have h1 := sumF_bd (n := n) (fun r hr => h r (by omega))
    have h2 := h n (by omega)
    have e : B * ((n + 1 : Nat) : Int) = B * n + B := by rw [Int.natCast_succ, Int.mul_add, Int.mul_one]
    unfold sumF
    omega
theorem sumF_congr {f g : Nat → Int} : ∀ {n : Nat}, (∀ r, r < n → f r = g r) → sumF f n = sumF g n
  | 0, _ => rfl
  | n + 1, h => by unfold sumF; rw [sumF_congr (n := n) (fun r hr => h r (by omega)), h n (by omega)]
theorem dotK_sum {p : Int} : ∀ {d x y : List Int} {n : Nat}, d.length = n → x.length = n → y.length = n → dotK p d x y = sumF (fun r => x.getD r 0 * y.getD r 0 % p * d.getD r 0) n
  | [], _, _, n, h1, _, _ => by subst h1; simp [dotK, sumF]
  | _ :: _, [], _, n, h1, h2, _ => by simp at h1 h2; omega
  | _ :: _, _ :: _, [], n, h1, _, h3 => by simp at h1 h3; omega
  | d :: ds, x :: xs, y :: ys, n, h1, h2, h3 => by
    obtain ⟨m, rfl⟩ : ∃ m, n = m + 1 := ⟨ds.length, by simpa using h1.symm⟩
    have ih := dotK_sum (p := p) (d := ds) (x := xs) (y := ys) (n := m) (by simpa using h1) (by simpa using h2) (by simpa using h3)
    rw [sumF_cons]
    simp only [dotK, List.getD_cons_zero, List.getD_cons_succ, ih]
theorem mul_b {a b : Int} (h1 : 0 ≤ a ∧ a < 13) (h2 : 0 ≤ b ∧ b < 13) : 0 ≤ a * b ∧ a * b ≤ 169 := by
  have := mulb (k := a) (y := b) (A := 13) (B := 13) (by omega) (by omega) (by omega) (by omega)
  exact ⟨Int.mul_nonneg h1.1 h2.1, by omega⟩
theorem diagF_one {p : Int} {st : List Int} (hd : Dok p st) : diagF p st = (List.range (sz st.length)).map fun i => normL p st (oneL (sz st.length) i) := by
  refine ext_at (by rw [diagF_len]; simp) fun j hj => ?_
  rw [diagF_len] at hj
  rw [List.getD_eq_getElem?_getD (l := (List.range _).map _), List.getElem?_map, List.getElem?_range hj]
  exact (diag_one hd hj).symm
def Uo (w : World) (B g n : Nat) : Prop := (B ≤ g ∧ g < w.heap.size) ∧ ∀ j, j < n → ∃ gj c, w.cell? ⟨g, j, none⟩ = some (.slice (some ⟨gj, 0, none⟩) n c) ∧ OwnI w B gj n c (oneL n j)
theorem grow_chg {lo hi g : Nat} {a w w' : World} (h : Chg lo hi a w) (hg : w.grownBy w' (some g)) (hr : (lo ≤ g ∧ g < hi) ∨ a.heap.size ≤ g) : Chg lo hi a w' :=
  ⟨hg.os.trans h.os, hg.tape.trans h.tape, hg.output.trans h.output, Nat.le_trans h.size hg.size, fun k hk hk2 => by
    rw [hg.block k (Nat.lt_of_lt_of_le hk h.size) (fun e => by cases e; omega)]
    exact h.block k hk hk2⟩
section
variable {w w' : World} {B g n : Nat}
theorem Uo.below (h : Uo w B g n) (hb : Below w.heap.size w w') : Uo w' B g n := ⟨⟨h.1.1, Nat.lt_of_lt_of_le h.1.2 hb.size⟩, fun j hj => by
  obtain ⟨gj, c, h1, h2⟩ := h.2 j hj
  exact ⟨gj, c, kept hb h1, h2.below hb⟩⟩
theorem Uo.chg {lo hi : Nat} (h : Uo w B g n) (hc : Chg lo hi w w') (hr : hi ≤ B) : Uo w' B g n := ⟨⟨h.1.1, Nat.lt_of_lt_of_le h.1.2 hc.size⟩, fun j hj => by
  obtain ⟨gj, c, h1, h2⟩ := h.2 j hj
  exact ⟨gj, c, hc.cell h1 (.inr (Nat.le_trans hr h.1.1)), OwnI.chg hc h2 (.inr (Nat.le_trans hr h2.lt.1))⟩⟩
theorem Uo.un (h : Uo w B g n) : Un w g n := fun j hj => by
  obtain ⟨gj, c, h1, h2⟩ := h.2 j hj
  exact ⟨_, c, h1, h2.fr.el⟩
end
theorem unito_c {n : Nat} {w : World} (hn : n ≤ 1000) (h0 : 0 < n) :
    Calls Try.prog 92 #[.int .i64 n] w fun e w' => ∃ g cap, e = .returned (.slice (some ⟨g, 0, none⟩) n cap) ∧ Uo w' w.heap.size g n ∧ Below w.heap.size w w' := by
  refine (unit_c hn).mono ?_
  rintro e w' ⟨v, us, rfl, hU, hA, hform, hb⟩
  obtain ⟨g, cap, rfl⟩ := hform h0
  have hV : RowsF w' w.heap.size us ((List.range n).map (oneL n)) := ⟨hA.1, hA.2.1⟩
  refine ⟨g, cap, rfl, ⟨World.ownsRow.lt hU g rfl, fun j hj => ?_⟩, hb⟩
  obtain ⟨gj, cj, _, h1, h2, _⟩ := row_at (p := 2) (m := n) hU hV (fun r hr => by obtain ⟨i, _, rfl⟩ := List.mem_map.1 hr; exact Ev.one (by omega)) (j := j) (by simp; exact hj)
  have e : ((List.range n).map (oneL n)).getD j [] = oneL n j := by simp [List.getD_eq_getElem?_getD, hj]
  rw [e] at h2
  obtain ⟨g2, c2, e2, h3⟩ := h2
  rw [oneL_len] at e2 h3
  cases e2
  exact ⟨_, _, h1, h3⟩
set_option maxHeartbeats 1000000 in
theorem diag_c {p : Int} {s : Value} {st : List Int} {w : World} (hd : Dok p st) (hs : El w s st) :
    Calls Try.prog 108 #[.agg #[.int .i64 p, s]] w fun e w' => ∃ v, e = .returned v ∧ FrI w' w.heap.size v (diagF p st) ∧ Below w.heap.size w w' := by
  have hp1 := hd.hp.lo; have hp2 := hd.hp.hi; have hl3 := hd.hl; have hsz := sz_le hd
  obtain ⟨a0, c0, rfl, _⟩ := id hs.op
  have hszc := fun W => size_c (w := W) (p := p) (a := a0) (n := st.length) (c := c0) (by omega)
  have hnor := fun W x i (h : El W (.slice a0 st.length c0) st) (hx : El W x (oneL (sz st.length) i)) => norm_c (w := W) (p := p) hd h hx (Ev.unit1 (by omega))
  rw [diagF_one hd]
  obtain ⟨F, hF⟩ : ∃ F, F = fun i => normL p st (oneL (sz st.length) i) := ⟨_, rfl⟩
  have hFi : ∀ i, normL p st (oneL (sz st.length) i) = F i := fun i => by rw [hF]
  simp only [hFi] at hnor ⊢
  clear hFi hF
  obtain ⟨n, hn⟩ : ∃ n, n = sz st.length := ⟨_, rfl⟩
  simp only [← hn] at hszc hsz hnor ⊢
  have HN := Lib.hid hn; clear hn
  have hbW : Below w.heap.size w (w.alloc (.cells #[.int .i64 p, .slice a0 st.length c0] 26)) := (by repeat (first | exact .refl _ _ | apply bwD | apply bwA | (refine bwS ?_ (by first | omega | simp <;> omega) _) | refine bwC ?_ (by assumption)))
  have hs := hs.below hbW
  have d0 : (w.alloc (.cells #[.int .i64 p, .slice a0 st.length c0] 26)).cell? ⟨w.heap.size, 0, none⟩ = some (.int .i64 p) := by simp [go_sem]
  have d1 : (w.alloc (.cells #[.int .i64 p, .slice a0 st.length c0] 26)).cell? ⟨w.heap.size, 1, none⟩ = some (.slice a0 st.length c0) := by simp [go_sem]
  obtain ⟨u, hue⟩ : ∃ u, u = w.alloc (.cells #[.int .i64 p, .slice a0 st.length c0] 26) := ⟨_, rfl⟩
  have huz : u.heap.size = w.heap.size + 1 := by rw [hue]; simp
  have HW := Lib.hid hue; have HZ := Lib.hid huz
  rw [← hue] at hs d0 d1 hbW
  clear hue huz
  have hJ0 : OwnI (u.alloc (.cells #[] 2)) u.heap.size u.heap.size 0 0 [] := OwnI.new (Nat.le_refl _)
  have hbA : Below u.heap.size u (u.alloc (.cells #[] 2)) := (by repeat (first | exact .refl _ _ | apply bwD | apply bwA | (refine bwS ?_ (by first | omega | simp <;> omega) _) | refine bwC ?_ (by assumption)))
  have e0 := kept hbA d0; have e1 := kept hbA d1; have hsA := hs.below hbA
  have hzA : (u.alloc (.cells #[] 2)).heap.size = u.heap.size + 1 := by simp
  obtain ⟨u1, hu1⟩ : ∃ x, x = u.alloc (.cells #[] 2) := ⟨_, rfl⟩
  rw [← hu1] at hJ0 hbA e0 e1 hsA hzA
  have HU1 := Lib.hid hu1; have HZA := Lib.hid hzA
  clear hu1 hzA
  go_enter Try.func108, Try.ntmps108
  go_wp2_with fail
  rw [← HW.out, ← HU1.out]
  refine (hszc _).mono ?_; rintro e w1 ⟨rfl, hb1⟩
  have e0 := kept hb1 e0; have e1 := kept hb1 e1; have hJ0 := hJ0.below hb1
  go_wp2_with fail
  refine (unito_c (n := n) (by omega) (by omega)).mono ?_; rintro e w2 ⟨g1, k1, rfl, hU, hb2⟩
  have hJ0 := hJ0.below hb2
  have hbu := bwC hbA (bwC hb1 hb2)
  have hlo : u.heap.size + 1 ≤ w1.heap.size := by have := HZA.out; have := hb1.size; omega
  clear e0 e1 hsA hbA hb1
  have hzU : w.heap.size + 1 = u.heap.size := HZ.out.symm
  rw [hzU]
  clear hzU
  go_wp2_with fail
  go_loopw [3, 11] (fun o i wr => ∃ (k g cap : Nat), k ≤ n ∧ i = .int .i64 k ∧ o = .slice (some ⟨g, 0, none⟩) k cap ∧ OwnI wr u.heap.size g k cap ((List.range k).map F) ∧ ((u.heap.size ≤ g ∧ g < u.heap.size + 1) ∨ w2.heap.size ≤ g) ∧ Chg u.heap.size (u.heap.size + 1) w2 wr) (fun _ i _ => n - (intOf i).toNat)
  case atStart => exact ⟨0, u.heap.size, 0, Nat.zero_le _, rfl, rfl, hJ0, .inl ⟨Nat.le_refl _, by omega⟩, Chg.refl⟩
  case round =>
    clear hJ0
    obtain ⟨k, g, cap, hk, rfl, rfl, hown, hgr, hch⟩ := hrel
    have hb := hch.blw hbu (Nat.le_refl _)
    have hs := hs.below hb; have d0 := kept hb d0; have d1 := kept hb d1
    have hU := hU.chg hch hlo
    by_cases hlt : k < n
    · obtain ⟨a2, c2, hcu, hx⟩ := hU.un k hlt
      have hcon := hnor _ _ k hs hx
      obtain ⟨z, hz⟩ : ∃ z, z = F k := ⟨_, rfl⟩
      have hst : Hid ((List.range (k + 1)).map F = (List.range k).map F ++ [z]) := Lib.hid (by rw [List.range_succ, List.map_append, hz]; rfl)
      rw [← hz] at hcon
      clear hz
      go_wp2_with fail
      refine hcon.mono ?_; rintro e w3 ⟨rfl, hb3⟩
      have hown := hown.below hb3
      have hsz3 : u.heap.size ≤ w3.heap.size := by have := hb.size; have := hb3.size; omega
      go_wp2_with (at_builtin; refine app_one rfl _ _ rfl w3 u.heap.size g k cap _ rfl z _ rfl hown hsz3 (by omega) ?_; intro g' cap' w' hown' hb' hg' hgg)
      go_roundw
      case rel => exact ⟨k + 1, g', cap', by omega, by go_num, rfl, by rw [hst.out]; exact hown', by have := hch.size; have := hb3.size; rcases hgg with rfl | rfl <;> omega, grow_chg (hch.trans (Chg.below hb3)) hg' hgr⟩
      case measure => simp [intOf]; omega
    · obtain rfl : k = n := by omega
      go_wp2_with fail
      go_ret
      exact ⟨_, rfl, hown.fr.more hbW.size, bwC hbW hb⟩
end Go.Proofs.Ytgkceadllcjeoaa
