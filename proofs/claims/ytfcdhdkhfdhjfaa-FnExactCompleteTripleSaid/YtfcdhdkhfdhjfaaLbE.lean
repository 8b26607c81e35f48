/-
  Lists of triples.
-/
import Derived.Test.YtfcdhdkhfdhjfaaJbq
import Derived.Test.YtfcdhdkhfdhjfaaJay
namespace Go.Proofs.Ytfcdhdkhfdhjfaa
open Go.RowKit

structure T3 where
  A : List (List Int)
  B : List (List Int)
  C : List (List Int)
def cut3 (n : Nat) (xs : List Int) : T3 := ⟨cutN n xs n, cutN n (xs.drop (n * n)) n, cutN n (xs.drop (2 * n * n)) n⟩
theorem cut3_rows {n : Nat} {xs : List Int} : cutN n xs (3 * n) = (cut3 n xs).A ++ (cut3 n xs).B ++ (cut3 n xs).C := by
  rw [show 3 * n = n + n + n by omega, cutN_app, cutN_app]
  show _ = cutN n xs n ++ cutN n (xs.drop (n * n)) n ++ cutN n (xs.drop (2 * n * n)) n
  rw [show (n + n) * n = 2 * n * n by rw [← Nat.two_mul]]
def TrG (w : World) (lo hi : Nat) (a b c : Value) (T : T3) : Prop := ∃ g us c1 c2 c3, a = .slice (some ⟨g, 0, none⟩) T.A.length c1 ∧ b = .slice (some ⟨g, T.A.length, none⟩) T.B.length c2 ∧ c = .slice (some ⟨g, (T.A ++ T.B).length, none⟩) T.C.length c3 ∧ TG w lo hi g us (T.A ++ T.B ++ T.C)
section
variable {w w' : World} {lo hi : Nat} {a b c : Value} {T : T3}
theorem TrG.keep (h : TrG w lo hi a b c T) (hz : hi ≤ w'.heap.size) (hk : ∀ b, lo ≤ b → b < hi → w'.heap[b]? = w.heap[b]?) : TrG w' lo hi a b c T := by
  obtain ⟨g, us, c1, c2, c3, h1, h2, h3, h4⟩ := h
  exact ⟨g, us, c1, c2, c3, h1, h2, h3, h4.keep hz hk⟩
theorem TrG.sz (h : TrG w lo hi a b c T) : lo ≤ hi ∧ hi ≤ w.heap.size := by
  obtain ⟨g, us, c1, c2, c3, _, _, _, h4⟩ := h
  have h1 := h4.lo_; have h2 := h4.hi_
  exact ⟨by omega, h4.sz⟩
theorem TrG.rs (h : TrG w lo hi a b c T) : Rs w a T.A ∧ Rs w b T.B ∧ Rs w c T.C := by
  obtain ⟨g, us, c1, c2, c3, rfl, rfl, rfl, h4⟩ := h
  have hA : TG w lo hi g us ([] ++ T.A ++ (T.B ++ T.C)) := by simpa [List.append_assoc] using h4
  have hC : TG w lo hi g us ((T.A ++ T.B) ++ T.C ++ []) := by simpa [List.append_assoc] using h4
  exact ⟨hA.rs c1, h4.rs c2, hC.rs c3⟩
end
def TbR (w : World) (lo hi : Nat) (a : Value) (M : List (List Int)) : Prop := ∃ g us P S cap, a = .slice (some ⟨g, P.length, none⟩) M.length cap ∧ TG w lo hi g us (P ++ M ++ S)
def TrR (w : World) (lo hi : Nat) (a b c : Value) (T : T3) : Prop := TbR w lo hi a T.A ∧ TbR w lo hi b T.B ∧ TbR w lo hi c T.C
section
variable {w w' : World} {lo hi : Nat} {a b c : Value} {T : T3} {M : List (List Int)}
theorem TbR.keep (h : TbR w lo hi a M) (hz : hi ≤ w'.heap.size) (hk : ∀ b, lo ≤ b → b < hi → w'.heap[b]? = w.heap[b]?) : TbR w' lo hi a M := by
  obtain ⟨g, us, P, S, cap, h1, h2⟩ := h
  exact ⟨g, us, P, S, cap, h1, h2.keep hz hk⟩
theorem TrR.keep (h : TrR w lo hi a b c T) (hz : hi ≤ w'.heap.size) (hk : ∀ b, lo ≤ b → b < hi → w'.heap[b]? = w.heap[b]?) : TrR w' lo hi a b c T :=
  ⟨h.1.keep hz hk, h.2.1.keep hz hk, h.2.2.keep hz hk⟩
theorem TrR.sz (h : TrR w lo hi a b c T) : lo ≤ hi ∧ hi ≤ w.heap.size := by
  obtain ⟨⟨g, us, P, S, cap, _, h4⟩, _⟩ := h
  have h1 := h4.lo_; have h2 := h4.hi_
  exact ⟨by omega, h4.sz⟩
theorem TrR.rs (h : TrR w lo hi a b c T) : Rs w a T.A ∧ Rs w b T.B ∧ Rs w c T.C := by
  obtain ⟨⟨g, us, P, S, cap, rfl, h1⟩, ⟨g2, us2, P2, S2, cap2, rfl, h2⟩, ⟨g3, us3, P3, S3, cap3, rfl, h3⟩⟩ := h
  exact ⟨h1.rs cap, h2.rs cap2, h3.rs cap3⟩
theorem FrR.tbr {w : World} {B lo : Nat} {v : Value} {us : List Value} (h : FrR w B v us M) (hB : lo ≤ B) : TbR w lo w.heap.size v M := by
  obtain ⟨g, cap, rfl, _, _, h1⟩ := (h.more hB).tg
  exact ⟨g, us, [], [], cap, by rw [h1.rows.len]; rfl, by simpa using h1⟩
end
set_option maxHeartbeats 1000000 in
set_option maxRecDepth 100000 in
theorem tripleof_c {x : Value} {xs : List Int} {n : Nat} {w : World} (hx : El w x xs) (hn : 1 ≤ n) (hn2 : n ≤ 8) (hl : xs.length = 3 * n * n) :
    Calls Try.prog 35 #[x, .int .i64 n] w fun e w' => ∃ a b c lo, e = .returned (.agg #[a, b, c]) ∧ w.heap.size ≤ lo ∧ TrG w' lo w'.heap.size a b c (cut3 n xs) ∧ Below w.heap.size w w' := by
  have hb0 : Below w.heap.size w (w.alloc (.cells #[.slice none 0 0, .slice none 0 0, .slice none 0 0] 29)) := (by repeat (first | exact .refl _ _ | apply bwD | apply bwA | (refine bwS ?_ (by first | omega | simp <;> omega) _) | refine bwC ?_ (by assumption)))
  have hz0 : (w.alloc (.cells #[.slice none 0 0, .slice none 0 0, .slice none 0 0] 29)).heap.size = w.heap.size + 1 := by simp
  have hB : Bt (w.alloc (.cells #[.slice none 0 0, .slice none 0 0, .slice none 0 0] 29)) w.heap.size (.slice none 0 0) (.slice none 0 0) (.slice none 0 0) := heap_alloc_new w _
  have hcon := rowsinR_c (R := 3 * n) (hx.below hb0) hn hn2 (by omega) (by omega) hl
  go_enter Try.func35, Try.ntmps35
  go_wp2_with fail
  refine hcon.mono ?_; rintro e w1 ⟨v, us, rfl, hF, hb1⟩
  rw [hz0] at hF
  have hB := (hB.below hb1).below (w' := w1.drew) (by repeat (first | exact .refl _ _ | apply bwD | apply bwA | (refine bwS ?_ (by first | omega | simp <;> omega) _) | refine bwC ?_ (by assumption)))
  have hTz : w.heap.size + 1 ≤ w1.heap.size := by have := hb1.size; omega
  have hbw := (bwC hb0 hb1).drew
  obtain ⟨g, cap, rfl, hc1, hc2, hT⟩ := hF.tg
  have hul : us.length = 3 * n := by rw [hT.rows.len, cutN_len]
  rw [hul] at hc1 ⊢
  have HUL := Lib.hid hul
  clear hul hF hb0 hb1 hz0 hcon
  obtain ⟨m2, hm2⟩ : ∃ m, m = 2 * n := ⟨_, rfl⟩
  have h2n : 2 * (n : Int) = ((m2 : Nat) : Int) := by omega
  obtain ⟨m3, hm3⟩ : ∃ m, m = 3 * n := ⟨_, rfl⟩
  rw [← hm3] at hc1 ⊢
  have b1 : n ≤ m2 := by omega
  have b2 : m2 ≤ m3 := by omega
  have b4 : n ≤ m3 := by omega
  have b5 : n < cap := by omega
  have b6 : m2 < cap := by omega
  have HM := Lib.hid (And.intro hm2 hm3); clear hm2 hm3
  go_wp2_with fail
  go_upto_region 2 with fail
  refine region_flow [(false, [(0, 0), (1, 0), (2, 0), (3, 0), (4, 0), (5, 0), (6, 0), (7, 0), (8, 0), (9, 0), (10, 0), (11, 0), (12, 0), (13, 0), (14, 0), (15, 0), (16, 4)])] (by kernel_rfl) ?_
  refine norm_K fun K hK => ?_
  change wpList _ _ _ [_, _, _, _, _, _, _, _, _, _, _, _, _, _, _, _, _] _ _
  have hT := hT.below (w' := w1.drew) (by repeat (first | exact .refl _ _ | apply bwD | apply bwA | (refine bwS ?_ (by first | omega | simp <;> omega) _) | refine bwC ?_ (by assumption)))
  have hTz : w.heap.size + 1 ≤ w1.drew.heap.size := hTz
  have hzd : w1.drew.heap.size = w1.heap.size := rfl
  rw [← hzd] at hT
  clear hzd
  generalize w1.drew = wq at *
  have c0 := hB.c0; have f0 := hB.f 0
  have hB1 := hB.set0 (.slice (some ⟨g, 0, none⟩) n n); have c1 := hB1.c1; have f1 := hB1.f 1
  have hB2 := hB1.set1 (.slice (some ⟨g, n, none⟩) (m2 - n) (m2 - n)); have c2 := hB2.c2; have f2 := hB2.f 2
  have hB3 := hB2.set2 (.slice (some ⟨g, m2, none⟩) (m3 - m2) (cap - m2))
  go_wp2_with fail
  first | (refine hK _ _ ⟨rfl, ?_⟩; clear hK K) | refine ⟨rfl, ?_⟩
  have r0 := hB3.c0; have r1 := hB3.c1; have r2 := hB3.c2
  go_wp2_with fail
  refine bodyPost_ret (v := .agg #[.slice (some ⟨g, 0, none⟩) n n, .slice (some ⟨g, n, none⟩) (m2 - n) (m2 - n), .slice (some ⟨g, m2, none⟩) (m3 - m2) (cap - m2)]) (by simp [results, Try.results35, go_sem, r0, r1, r2]) rfl ?_
  have l1 : (cut3 n xs).A.length = n := cutN_len n
  have l2 : (cut3 n xs).B.length = n := cutN_len n
  have l3 : (cut3 n xs).C.length = n := cutN_len n
  rw [cut3_rows] at hT
  have hlo := hT.lo_
  have hm := HM.out
  refine ⟨_, _, _, w.heap.size + 1, rfl, by omega, ⟨g, us, n, m2 - n, cap - m2, by rw [l1], by rw [l1, l2, show m2 - n = n by omega], by rw [List.length_append, l1, l2, l3, show m3 - m2 = n by omega, show n + n = m2 by omega], ?_⟩, ?_⟩
  · have hzz : (((wq.setCell ⟨w.heap.size, 0, none⟩ (.slice (some ⟨g, 0, none⟩) n n)).setCell ⟨w.heap.size, 1, none⟩ (.slice (some ⟨g, n, none⟩) (m2 - n) (m2 - n))).setCell ⟨w.heap.size, 2, none⟩ (.slice (some ⟨g, m2, none⟩) (m3 - m2) (cap - m2))).heap.size = wq.heap.size := by simp
    rw [hzz]
    refine hT.keep (by rw [hzz]; exact Nat.le_refl _) fun k h1 h2 => ?_
    rw [Below.heap_setCell _ _ _ _ (by show k ≠ w.heap.size; omega), Below.heap_setCell _ _ _ _ (by show k ≠ w.heap.size; omega), Below.heap_setCell _ _ _ _ (by show k ≠ w.heap.size; omega)]
  · exact ((hbw.setCell (p := ⟨w.heap.size, 0, none⟩) (Nat.le_refl _) _).setCell (p := ⟨w.heap.size, 1, none⟩) (Nat.le_refl _) _).setCell (p := ⟨w.heap.size, 2, none⟩) (Nat.le_refl _) _
set_option maxHeartbeats 4000000 in
set_option maxRecDepth 100000 in
theorem scut15_c {p : Int} {s x : Value} {st xs : List Int} {w : World} (hd : Dok p st) (hs : El w s st) (hx : El w x xs) (hl : xs.length = 3 * sz st.length * sz st.length) :
    Calls Try.prog 24 #[.agg #[.int .i64 p, s], x] w fun e w' => ∃ a b c lo, e = .returned (.agg #[a, b, c]) ∧ w.heap.size ≤ lo ∧ TrR w' lo w'.heap.size a b c (cut3 (sz st.length) xs) ∧ Below w.heap.size w w' := by
  have hp1 := hd.hp.lo; have hp2 := hd.hp.hi; have hl3 := hd.hl; have hsz := sz_le hd
  obtain ⟨a0, c0, rfl, _⟩ := id hs.op
  have hszc := fun W => ssize_c (w := W) (p := p) (a := a0) (n := st.length) (c := c0) (by omega)
  obtain ⟨n, hn⟩ : ∃ n, n = sz st.length := ⟨_, rfl⟩
  simp only [← hn] at hsz hszc hl ⊢
  have hn1 : n * n ≤ 64 := Nat.le_trans (Nat.mul_le_mul hsz.2 hsz.2) (by decide)
  have hn2 : 1 ≤ n * n := Nat.mul_le_mul hsz.1 hsz.1
  obtain ⟨q, hq⟩ : ∃ q, q = n * n := ⟨_, rfl⟩
  have hl2 : xs.length = 3 * q := by rw [hl, hq, Nat.mul_assoc]
  rw [← hq] at hn1 hn2
  obtain ⟨b, off, c, rfl, h1, h2, hA⟩ := hx.op1 (by omega)
  have e1 : El w (.slice (some ⟨b, off, none⟩) q c) (xs.take q) := by
    have h := (hA.drop 0).elT (k := q) (c := c) (by rw [List.length_drop]; omega) (by omega) (by omega)
    simpa using h
  have e2 : El w (.slice (some ⟨b, off + q, none⟩) q (c - q)) ((xs.drop q).take q) := (hA.drop q).elT (by rw [List.length_drop]; omega) (by omega) (by omega)
  have e3 : El w (.slice (some ⟨b, off + 2 * q, none⟩) q (c - 2 * q)) ((xs.drop (2 * q)).take q) := (hA.drop (2 * q)).elT (by rw [List.length_drop]; omega) (by omega) (by omega)
  have hc1 : cutN n (xs.take q) n = (cut3 n xs).A := cutN_take n (by rw [hq]; exact Nat.le_refl _)
  have hc2 : cutN n ((xs.drop q).take q) n = (cut3 n xs).B := by rw [cutN_take n (by rw [hq]; exact Nat.le_refl _), hq]; rfl
  have hc3 : cutN n ((xs.drop (2 * q)).take q) n = (cut3 n xs).C := by
    rw [cutN_take n (by rw [hq]; exact Nat.le_refl _), hq, show 2 * (n * n) = 2 * n * n by rw [Nat.mul_assoc]]; rfl
  have t1 : (xs.take q).length = n * n := by rw [List.length_take]; omega
  have t2 : ((xs.drop q).take q).length = n * n := by rw [List.length_take, List.length_drop]; omega
  have t3 : ((xs.drop (2 * q)).take q).length = n * n := by rw [List.length_take, List.length_drop]; omega
  have k1 := fun W (h : El W (.slice (some ⟨b, off, none⟩) q c) (xs.take q)) => scutR_c h hsz.1 hsz.2 hsz.1 (by omega) t1
  have k2 := fun W (h : El W (.slice (some ⟨b, off + q, none⟩) q (c - q)) ((xs.drop q).take q)) => scutR_c h hsz.1 hsz.2 hsz.1 (by omega) t2
  have k3 := fun W (h : El W (.slice (some ⟨b, off + 2 * q, none⟩) q (c - 2 * q)) ((xs.drop (2 * q)).take q)) => scutR_c h hsz.1 hsz.2 hsz.1 (by omega) t3
  simp only [hc1] at k1; simp only [hc2] at k2; simp only [hc3] at k3
  obtain ⟨A, hAA⟩ : ∃ A, A = (cut3 n xs).A := ⟨_, rfl⟩
  obtain ⟨B, hBB⟩ : ∃ B, B = (cut3 n xs).B := ⟨_, rfl⟩
  obtain ⟨C, hCC⟩ : ∃ C, C = (cut3 n xs).C := ⟨_, rfl⟩
  have HABC := Lib.hid (And.intro hAA (And.intro hBB hCC))
  simp only [← hAA] at k1; simp only [← hBB] at k2; simp only [← hCC] at k3
  obtain ⟨N, hN⟩ : ∃ N, N = xs.length := ⟨_, rfl⟩
  rw [← hN] at h1 hl2 ⊢
  obtain ⟨q2, hq2⟩ : ∃ q2, q2 = 2 * q := ⟨_, rfl⟩
  rw [← hq2] at e3 k3
  have hqi : (n : Int) * (n : Int) = ((q : Nat) : Int) := by rw [hq, Int.natCast_mul]
  have hqi2 : 2 * (n : Int) * (n : Int) = ((q2 : Nat) : Int) := by rw [Int.mul_assoc, hqi, hq2]; omega
  have y1 : q ≤ N := by omega
  have y2 : q ≤ q2 := by omega
  have y3 : q2 ≤ N := by omega
  have y4 : q < c := by omega
  have y5 : q2 < c := by omega
  have y6 : q2 - q = q := by omega
  have y7 : N - q2 = q := by omega
  have hb2 : q2 ≤ 128 := by omega
  have HH := Lib.hid (And.intro hq (And.intro hN (And.intro hq2 hl2)))
  clear hc1 hc2 hc3 t1 t2 t3 hAA hBB hCC hA hx hl hn hq hN hq2 hl2
  have hb0 : Below w.heap.size w ((w.alloc (.cells #[.int .i64 p, .slice a0 st.length c0] 32)).alloc (.cells #[.slice none 0 0, .slice none 0 0, .slice none 0 0] 29)) := (by repeat (first | exact .refl _ _ | apply bwD | apply bwA | (refine bwS ?_ (by first | omega | simp <;> omega) _) | refine bwC ?_ (by assumption)))
  have hBt : Bt ((w.alloc (.cells #[.int .i64 p, .slice a0 st.length c0] 32)).alloc (.cells #[.slice none 0 0, .slice none 0 0, .slice none 0 0] 29)) (w.heap.size + 1) (.slice none 0 0) (.slice none 0 0) (.slice none 0 0) := by
    have h : Bt ((w.alloc (.cells #[.int .i64 p, .slice a0 st.length c0] 32)).alloc (.cells #[.slice none 0 0, .slice none 0 0, .slice none 0 0] 29)) (w.alloc (.cells #[.int .i64 p, .slice a0 st.length c0] 32)).heap.size (.slice none 0 0) (.slice none 0 0) (.slice none 0 0) := heap_alloc_new _ _
    rw [show (w.alloc (.cells #[.int .i64 p, .slice a0 st.length c0] 32)).heap.size = w.heap.size + 1 by simp] at h
    exact h
  have d0 : ((w.alloc (.cells #[.int .i64 p, .slice a0 st.length c0] 32)).alloc (.cells #[.slice none 0 0, .slice none 0 0, .slice none 0 0] 29)).cell? ⟨w.heap.size, 0, none⟩ = some (.int .i64 p) := by simp [go_sem]
  have d1 : ((w.alloc (.cells #[.int .i64 p, .slice a0 st.length c0] 32)).alloc (.cells #[.slice none 0 0, .slice none 0 0, .slice none 0 0] 29)).cell? ⟨w.heap.size, 1, none⟩ = some (.slice a0 st.length c0) := by simp [go_sem]
  go_enter Try.func24, Try.ntmps24
  go_wp2_with fail
  refine (hszc _).mono ?_; rintro e w1 ⟨rfl, hb1⟩
  have hbw := bwC hb0 hb1
  have hBt := hBt.below hb1
  have hqs : w.heap.size + 2 ≤ w1.heap.size := by have := hb1.size; simp at this; omega
  clear d0 d1 hb0 hb1
  have e1 := e1.below hbw; have e2 := e2.below hbw; have e3 := e3.below hbw
  go_upto_region 2 with fail
  refine region_flowP [] [(false, [(0, 0), (1, 0), (2, 0), (3, 0), (4, 0), (5, 0), (7, 0), (8, 0), (9, 0), (10, 0), (11, 0), (12, 0), (13, 0), (14, 0), (15, 0), (16, 0), (18, 0), (19, 0), (20, 0), (21, 0), (22, 0), (23, 0), (24, 0), (6, 4), (17, 4), (25, 4), (26, 0), (27, 4)])] (by kernel_rfl) ?_
  refine norm_K fun K hK => ?_
  change wpList _ _ _ [_, _, _, _, _, _, _, _, _, _, _, _, _, _, _, _, _, _, _, _, _, _, _, _, _, _, _, _] _ _
  have hbq : Below w1.heap.size w1 w1.drew := (by repeat (first | exact .refl _ _ | apply bwD | apply bwA | (refine bwS ?_ (by first | omega | simp <;> omega) _) | refine bwC ?_ (by assumption)))
  have hbw := bwC hbw hbq
  have hBt := hBt.below hbq; have e1 := e1.below hbq; have e2 := e2.below hbq; have e3 := e3.below hbq
  clear hbq
  have hqs : w.heap.size + 2 ≤ w1.drew.heap.size := hqs
  generalize w1.drew = wq at *
  go_wp2_with fail
  refine (k1 _ e1).mono ?_; rintro e w2 ⟨v1, u1, rfl, hF1, hb1⟩
  have hBt := hBt.below hb1; have e2 := e2.below hb1; have e3 := e3.below hb1
  have hbw := bwC hbw hb1
  obtain ⟨g1, p1, rfl, _⟩ := hF1.tg
  have hz1 := hb1.size
  clear hb1 e1
  go_wp2_with fail
  refine (k2 _ e2).mono ?_; rintro e w3 ⟨v2, u2, rfl, hF2, hb2⟩
  have hBt := hBt.below hb2; have e3 := e3.below hb2; have hF1 := hF1.below hb2
  have hbw := bwC hbw hb2
  obtain ⟨g2, p2, rfl, _⟩ := hF2.tg
  have hz2 := hb2.size
  clear hb2 e2
  go_wp2_with fail
  refine (k3 _ e3).mono ?_; rintro e w4 ⟨v3, u3, rfl, hF3, hb3⟩
  have hBt := hBt.below hb3; have hF1 := hF1.below hb3; have hF2 := hF2.below hb3
  have hbw := bwC hbw hb3
  obtain ⟨g3, p3, rfl, _⟩ := hF3.tg
  clear hb3 e3
  have c0 := hBt.c0; have f0 := hBt.f 0
  have hB1 := hBt.set0 (.slice (some ⟨g1, 0, none⟩) u1.length p1); have c1 := hB1.c1; have f1 := hB1.f 1
  have hB2 := hB1.set1 (.slice (some ⟨g2, 0, none⟩) u2.length p2); have c2 := hB2.c2; have f2 := hB2.f 2
  have hB3 := hB2.set2 (.slice (some ⟨g3, 0, none⟩) u3.length p3)
  go_wp2_with fail
  first | (refine hK _ _ ⟨rfl, ?_⟩; clear hK K) | refine ⟨rfl, ?_⟩
  have r0 := hB3.c0; have r1 := hB3.c1; have r2 := hB3.c2
  go_wp2_with fail
  refine bodyPost_ret (v := .agg #[.slice (some ⟨g1, 0, none⟩) u1.length p1, .slice (some ⟨g2, 0, none⟩) u2.length p2, .slice (some ⟨g3, 0, none⟩) u3.length p3]) (by simp [results, Try.results24, go_sem, r0, r1, r2]) rfl ?_
  have z1 := (((hF1.set_ (p := ⟨w.heap.size + 1, 0, none⟩) (by show w.heap.size + 1 < _; omega) (.slice (some ⟨g1, 0, none⟩) u1.length p1)).set_ (p := ⟨w.heap.size + 1, 1, none⟩) (by show w.heap.size + 1 < _; omega) (.slice (some ⟨g2, 0, none⟩) u2.length p2)).set_ (p := ⟨w.heap.size + 1, 2, none⟩) (by show w.heap.size + 1 < _; omega) (.slice (some ⟨g3, 0, none⟩) u3.length p3)).tbr (lo := wq.heap.size) (Nat.le_refl _)
  have z2 := (((hF2.set_ (p := ⟨w.heap.size + 1, 0, none⟩) (by show w.heap.size + 1 < _; omega) (.slice (some ⟨g1, 0, none⟩) u1.length p1)).set_ (p := ⟨w.heap.size + 1, 1, none⟩) (by show w.heap.size + 1 < _; omega) (.slice (some ⟨g2, 0, none⟩) u2.length p2)).set_ (p := ⟨w.heap.size + 1, 2, none⟩) (by show w.heap.size + 1 < _; omega) (.slice (some ⟨g3, 0, none⟩) u3.length p3)).tbr (lo := wq.heap.size) (by omega)
  have z3 := (((hF3.set_ (p := ⟨w.heap.size + 1, 0, none⟩) (by show w.heap.size + 1 < _; omega) (.slice (some ⟨g1, 0, none⟩) u1.length p1)).set_ (p := ⟨w.heap.size + 1, 1, none⟩) (by show w.heap.size + 1 < _; omega) (.slice (some ⟨g2, 0, none⟩) u2.length p2)).set_ (p := ⟨w.heap.size + 1, 2, none⟩) (by show w.heap.size + 1 < _; omega) (.slice (some ⟨g3, 0, none⟩) u3.length p3)).tbr (lo := wq.heap.size) (by omega)
  exact ⟨_, _, _, wq.heap.size, rfl, by omega, ⟨by rw [← HABC.out.1]; exact z1, by rw [← HABC.out.2.1]; exact z2, by rw [← HABC.out.2.2]; exact z3⟩, ((hbw.setCell (p := ⟨w.heap.size + 1, 0, none⟩) (by show _ ≤ w.heap.size + 1; omega) _).setCell (p := ⟨w.heap.size + 1, 1, none⟩) (by show _ ≤ w.heap.size + 1; omega) _).setCell (p := ⟨w.heap.size + 1, 2, none⟩) (by show _ ≤ w.heap.size + 1; omega) _⟩
end Go.Proofs.Ytfcdhdkhfdhjfaa
