/-
  One triple as a result: equality, marks, what is held.
-/
import Derived.Test.YtfcdhdkhfdhjfaaCtL
import Derived.Test.YtfcdhdkhfdhjfaaJbe
namespace Go.Proofs.Ytfcdhdkhfdhjfaa
open Go.RowKit

theorem rs_nil {w : World} : Rs w (.slice none 0 0) [] := ⟨none, 0, rfl, .inl rfl⟩
def OutH (w : World) (B E : Nat) (a b c : Value) (T : T3) : Prop := (a = .slice none 0 0 ∧ b = .slice none 0 0 ∧ c = .slice none 0 0 ∧ T = ⟨[], [], []⟩) ∨ ∃ lo hi, B ≤ lo ∧ hi ≤ E ∧ TrG w lo hi a b c T
theorem OutG.top {w : World} {B : Nat} {a b c : Value} {T : T3} (h : OutG w B a b c T) : OutH w B w.heap.size a b c T := by
  rcases h with h | ⟨lo, hi, h1, h⟩
  · exact .inl h
  · exact .inr ⟨lo, hi, h1, h.sz.2, h⟩
section
variable {w w' : World} {B E : Nat} {a b c : Value} {T : T3}
theorem OutH.tri (h : OutH w B E a b c T) : Tri w (.agg #[a, b, c]) T.A T.B T.C := by
  rcases h with ⟨rfl, rfl, rfl, rfl⟩ | ⟨lo, hi, _, _, h⟩
  · exact ⟨_, _, _, rfl, rs_nil, rs_nil, rs_nil⟩
  · exact ⟨_, _, _, rfl, h.rs.1, h.rs.2.1, h.rs.2.2⟩
theorem OutH.below (h : OutH w B E a b c T) (hb : Below w.heap.size w w') : OutH w' B E a b c T := by
  rcases h with h | ⟨lo, hi, h1, hE, h⟩
  · exact .inl h
  · have hs := h.sz
    exact .inr ⟨lo, hi, h1, hE, h.keep (Nat.le_trans hs.2 hb.size) fun k h2 h3 => hb.block k (by omega)⟩
theorem OutH.chg {x y : Nat} (h : OutH w B E a b c T) (hc : Chg x y w w') (hr : y ≤ B) : OutH w' B E a b c T := by
  rcases h with h | ⟨lo, hi, h1, hE, h⟩
  · exact .inl h
  · have hs := h.sz
    exact .inr ⟨lo, hi, h1, hE, h.keep (Nat.le_trans hs.2 hc.size) fun k h2 h3 => hc.block k (by omega) (.inr (by omega))⟩
end
structure M8 (M : List (List Int)) : Prop where
  len : M.length ≤ 8
  rows : ∀ r ∈ M, r.length ≤ 8
structure T8 (T : T3) : Prop where
  a : M8 T.A
  b : M8 T.B
  c : M8 T.C
theorem M8.sum : ∀ {M : List (List Int)}, M8 M → sumL M ≤ 64 := by
  intro M h
  have : ∀ (L : List (List Int)), (∀ r ∈ L, r.length ≤ 8) → sumL L ≤ L.length * 8 := by
    intro L hL
    induction L with
    | nil => simp [sumL]
    | cons x xs ih =>
      have h1 := hL x (by simp)
      have h2 := ih (fun r hr => hL r (by simp [hr]))
      simp only [sumL, List.length_cons, Nat.succ_mul]; omega
  have h1 := this M h.rows
  have h2 := h.len
  omega
theorem M8.big {M : List (List Int)} (h : M8 M) : ∀ xs ∈ M, xs.length ≤ 1048576 := fun xs hx => by have := h.rows xs hx; omega
theorem M8.msz {M : List (List Int)} (h : M8 M) : Msz M := { sum := by have := h.sum; omega, h2 := by have := h.len; omega, h3 := h.big }
theorem T8.tsz {T : T3} (h : T8 T) : Tsz T.A T.B T.C := ⟨h.a.msz, h.b.msz, h.c.msz⟩
def sum3 (T : T3) : Nat := sumL T.A + sumL T.B + sumL T.C
def cnt3 (k : Int) (T : T3) : T3 := ⟨cntR k T.A, cntR (k + sumL T.A) T.B, cntR (k + sumL T.A + sumL T.B) T.C⟩
theorem cutN_m8 {n : Nat} {xs : List Int} (hn : n ≤ 8) (hl : n * n ≤ xs.length) : M8 (cutN n xs n) :=
  ⟨by rw [cutN_len]; exact hn, fun r hr => by rw [cutN_row n hl r hr]; exact hn⟩
theorem m8_nil : M8 [] := ⟨by simp, fun r hr => by cases hr⟩
theorem RCompleteTriple0_len (p : Int) (st : List Int) (M : List (List Int)) (_ : st.length ≤ 1048576) (_ : Msz M) : T8 (RCompleteTriple0 p st M) := by
  unfold RCompleteTriple0
  split
  · rename_i h
    obtain ⟨hd, h3, hM, hs⟩ : Dok p st ∧ st.length = 3 ∧ matB p (sz st.length) M = true ∧ skewB p (diagF p st) M = true := by
      unfold RCompleteTriple1 at h
      split at h
      · rename_i h0
        obtain ⟨h1, h2⟩ := chkT_one h0
        split at h
        · rename_i h5; exact ⟨h1, h5.1, h2, h5.2⟩
        · exact absurd h (by decide)
      · exact absurd h (by assumption)
    obtain ⟨h1, _, _, h4, h5⟩ := compl_mat hd h3 hM hs
    have hl : (sumK p M.flatten (locN p st)).length = 192 := by rw [← h5, List.length_append, h1.1, h4.1]
    exact ⟨cutN_m8 (Nat.le_refl _) (by omega), cutN_m8 (Nat.le_refl _) (by rw [List.length_drop]; omega), cutN_m8 (Nat.le_refl _) (by rw [List.length_drop]; omega)⟩
  · exact ⟨m8_nil, m8_nil, m8_nil⟩
set_option maxHeartbeats 1000000 in
theorem heldt_c {x : Value} {T : T3} {k : Int} {w : World} (hx : Tri w x (cnt3 k T).A (cnt3 k T).B (cnt3 k T).C) (hm : T8 T) (hk0 : 0 ≤ k) (hk : k ≤ 1000000) :
    Calls Try.prog 16 #[x, .int .i64 k] w fun e w' => e = .returned (.int .i64 (k + sum3 T)) ∧ Below w.heap.size w w' := by
  obtain ⟨x1, x2, x3, rfl, h4, h5, h6⟩ := hx
  have hA := hm.a.sum; have hB := hm.b.sum; have hC := hm.c.sum
  obtain ⟨a1, c1, rfl, _⟩ := id h4
  obtain ⟨a2, c2, rfl, _⟩ := id h5
  obtain ⟨a3, c3, rfl, _⟩ := id h6
  have e1 := fun W (h : Rs W (.slice a1 (cnt3 k T).A.length c1) (cnt3 k T).A) => heldss_c (k := k) (xss := T.A) (w := W) h (by omega) (by have := hm.a.len; omega) hm.a.big (by omega) (by omega)
  have e2 := fun W (h : Rs W (.slice a2 (cnt3 k T).B.length c2) (cnt3 k T).B) => heldss_c (k := k + sumL T.A) (xss := T.B) (w := W) h (by omega) (by have := hm.b.len; omega) hm.b.big (by omega) (by omega)
  have e3 := fun W (h : Rs W (.slice a3 (cnt3 k T).C.length c3) (cnt3 k T).C) => heldss_c (k := k + sumL T.A + sumL T.B) (xss := T.C) (w := W) h (by omega) (by have := hm.c.len; omega) hm.c.big (by omega) (by omega)
  have hs : k + ((sum3 T : Nat) : Int) = k + sumL T.A + sumL T.B + sumL T.C := by simp only [sum3]; omega
  obtain ⟨S, hS⟩ : ∃ S, S = k + ((sum3 T : Nat) : Int) := ⟨_, rfl⟩
  rw [← hS] at hs ⊢
  have HS := Lib.hid hs
  clear hS hs
  go_enter Try.func16, Try.ntmps16
  have hb0 : Below w.heap.size w (w.alloc (.cells #[.slice a1 (cnt3 k T).A.length c1, .slice a2 (cnt3 k T).B.length c2, .slice a3 (cnt3 k T).C.length c3] 29)) := (by repeat (first | exact .refl _ _ | apply bwD | apply bwA | (refine bwS ?_ (by first | omega | simp <;> omega) _) | refine bwC ?_ (by assumption)))
  have h4 := h4.below hb0; have h5 := h5.below hb0; have h6 := h6.below hb0
  have d0 : (w.alloc (.cells #[.slice a1 (cnt3 k T).A.length c1, .slice a2 (cnt3 k T).B.length c2, .slice a3 (cnt3 k T).C.length c3] 29)).cell? ⟨w.heap.size, 0, none⟩ = some (.slice a1 (cnt3 k T).A.length c1) := by simp [go_sem]
  have d1 : (w.alloc (.cells #[.slice a1 (cnt3 k T).A.length c1, .slice a2 (cnt3 k T).B.length c2, .slice a3 (cnt3 k T).C.length c3] 29)).cell? ⟨w.heap.size, 1, none⟩ = some (.slice a2 (cnt3 k T).B.length c2) := by simp [go_sem]
  have d2 : (w.alloc (.cells #[.slice a1 (cnt3 k T).A.length c1, .slice a2 (cnt3 k T).B.length c2, .slice a3 (cnt3 k T).C.length c3] 29)).cell? ⟨w.heap.size, 2, none⟩ = some (.slice a3 (cnt3 k T).C.length c3) := by simp [go_sem]
  go_wp2_with fail
  refine (e1 _ h4).mono ?_; rintro e w1 ⟨rfl, rfl⟩
  go_wp2_with fail
  refine (e2 _ h5).mono ?_; rintro e w2 ⟨rfl, rfl⟩
  go_wp2_with fail
  refine (e3 _ h6).mono ?_; rintro e w3 ⟨rfl, rfl⟩
  go_wp2_with fail
  go_ret
  exact ⟨by rw [HS.out]; rfl, (by repeat (first | exact .refl _ _ | apply bwD | apply bwA | (refine bwS ?_ (by first | omega | simp <;> omega) _) | refine bwC ?_ (by assumption)))⟩
theorem marknil_c {k : Int} {w : World} : Calls Try.prog 14 #[.slice none 0 0, .int .i64 k] w fun e w' => e = .returned (.int .i64 k) ∧ w = w' := by
  go_enter Try.func14, Try.ntmps14
  go_wp2
  refine wp_loop_rounds 1 ?_; rw [rounds_succ]
  go_wp2
  go_ret
  exact ⟨rfl, rfl⟩
set_option maxHeartbeats 1000000 in
theorem markt_c {a b c : Value} {T : T3} {B E : Nat} {k : Int} {w : World} (hx : OutH w B E a b c T) (hm : T8 T) (hk0 : 0 ≤ k) (hk : k ≤ 1000000) :
    Calls Try.prog 15 #[.agg #[a, b, c], .int .i64 k] w fun e w' => e = .returned (.int .i64 (k + sum3 T)) ∧ OutH w' B E a b c (cnt3 k T) ∧ Chg B E w w' := by
  rcases hx with ⟨rfl, rfl, rfl, rfl⟩ | ⟨lo, hi, hB, hE, hG⟩
  · skip
    go_enter Try.func15, Try.ntmps15
    have hb0 : Below w.heap.size w (w.alloc (.cells #[.slice none 0 0, .slice none 0 0, .slice none 0 0] 29)) := (by repeat (first | exact .refl _ _ | apply bwD | apply bwA | (refine bwS ?_ (by first | omega | simp <;> omega) _) | refine bwC ?_ (by assumption)))
    have d0 : (w.alloc (.cells #[.slice none 0 0, .slice none 0 0, .slice none 0 0] 29)).cell? ⟨w.heap.size, 0, none⟩ = some (.slice none 0 0) := by simp [go_sem]
    have d1 : (w.alloc (.cells #[.slice none 0 0, .slice none 0 0, .slice none 0 0] 29)).cell? ⟨w.heap.size, 1, none⟩ = some (.slice none 0 0) := by simp [go_sem]
    have d2 : (w.alloc (.cells #[.slice none 0 0, .slice none 0 0, .slice none 0 0] 29)).cell? ⟨w.heap.size, 2, none⟩ = some (.slice none 0 0) := by simp [go_sem]
    go_wp2_with fail
    refine (marknil_c).mono ?_; rintro e w1 ⟨rfl, rfl⟩
    go_wp2_with fail
    refine (marknil_c).mono ?_; rintro e w2 ⟨rfl, rfl⟩
    go_wp2_with fail
    refine (marknil_c).mono ?_; rintro e w3 ⟨rfl, rfl⟩
    have hbz : Below w.heap.size w (w.alloc (.cells #[.slice none 0 0, .slice none 0 0, .slice none 0 0] 29)) := (by repeat (first | exact .refl _ _ | apply bwD | apply bwA | (refine bwS ?_ (by first | omega | simp <;> omega) _) | refine bwC ?_ (by assumption)))
    go_wp2_with fail
    go_ret
    exact ⟨by simp [sum3, sumL], .inl ⟨rfl, rfl, rfl, rfl⟩, hbz.os, hbz.tape, hbz.output, hbz.size, fun k hk _ => hbz.block k hk⟩
  have hsz := hG.sz
  have hA := hm.a.sum; have hB2 := hm.b.sum; have hC := hm.c.sum
  obtain ⟨g, us, c1, c2, c3, rfl, rfl, rfl, hG⟩ := hG
  have g1 : TG w lo hi g us ([] ++ T.A ++ (T.B ++ T.C)) := by simpa [List.append_assoc] using hG
  have e1 := fun W (h : TG W lo hi g us ([] ++ T.A ++ (T.B ++ T.C))) => markseg_c (cap := c1) (k := k) h (by omega) (by have := hm.a.len; omega) hm.a.big (by omega) (by omega)
  simp only [List.length_nil] at e1
  have e2 := fun W (h : TG W lo hi g us (cntR k T.A ++ T.B ++ T.C)) => markseg_c (cap := c2) (k := k + sumL T.A) h (by omega) (by have := hm.b.len; omega) hm.b.big (by omega) (by omega)
  simp only [cntR_len] at e2
  have e3 := fun W (h : TG W lo hi g us ((cntR k T.A ++ cntR (k + sumL T.A) T.B) ++ T.C ++ [])) => markseg_c (cap := c3) (k := k + sumL T.A + sumL T.B) h (by omega) (by have := hm.c.len; omega) hm.c.big (by omega) (by omega)
  simp only [List.length_append, cntR_len] at e3
  rw [List.length_append]
  have hs : k + ((sum3 T : Nat) : Int) = k + sumL T.A + sumL T.B + sumL T.C := by simp only [sum3]; omega
  have HS := Lib.hid hs
  obtain ⟨S, hS⟩ : ∃ S, S = k + ((sum3 T : Nat) : Int) := ⟨_, rfl⟩
  rw [← hS] at HS ⊢
  clear hS hs hG
  have hlh : hi ≤ w.heap.size := hsz.2
  go_enter Try.func15, Try.ntmps15
  have hb0 : Below w.heap.size w (w.alloc (.cells #[.slice (some ⟨g, 0, none⟩) T.A.length c1, .slice (some ⟨g, T.A.length, none⟩) T.B.length c2, .slice (some ⟨g, T.A.length + T.B.length, none⟩) T.C.length c3] 29)) := (by repeat (first | exact .refl _ _ | apply bwD | apply bwA | (refine bwS ?_ (by first | omega | simp <;> omega) _) | refine bwC ?_ (by assumption)))
  have g1 := g1.below hb0
  have d0 : (w.alloc (.cells #[.slice (some ⟨g, 0, none⟩) T.A.length c1, .slice (some ⟨g, T.A.length, none⟩) T.B.length c2, .slice (some ⟨g, T.A.length + T.B.length, none⟩) T.C.length c3] 29)).cell? ⟨w.heap.size, 0, none⟩ = some (.slice (some ⟨g, 0, none⟩) T.A.length c1) := by simp [go_sem]
  have d1 : (w.alloc (.cells #[.slice (some ⟨g, 0, none⟩) T.A.length c1, .slice (some ⟨g, T.A.length, none⟩) T.B.length c2, .slice (some ⟨g, T.A.length + T.B.length, none⟩) T.C.length c3] 29)).cell? ⟨w.heap.size, 1, none⟩ = some (.slice (some ⟨g, T.A.length, none⟩) T.B.length c2) := by simp [go_sem]
  have d2 : (w.alloc (.cells #[.slice (some ⟨g, 0, none⟩) T.A.length c1, .slice (some ⟨g, T.A.length, none⟩) T.B.length c2, .slice (some ⟨g, T.A.length + T.B.length, none⟩) T.C.length c3] 29)).cell? ⟨w.heap.size, 2, none⟩ = some (.slice (some ⟨g, T.A.length + T.B.length, none⟩) T.C.length c3) := by simp [go_sem]
  go_wp2_with fail
  refine (e1 _ g1).mono ?_; rintro e w1 ⟨rfl, g2, hc1⟩
  have d1 := hc1.cell d1 (.inr hlh); have d2 := hc1.cell d2 (.inr hlh)
  have g2 : TG w1 lo hi g us (cntR k T.A ++ T.B ++ T.C) := by simpa [List.append_assoc] using g2
  go_wp2_with fail
  refine (e2 _ g2).mono ?_; rintro e w2 ⟨rfl, g3, hc2⟩
  have d2 := hc2.cell d2 (.inr hlh)
  have g3 : TG w2 lo hi g us ((cntR k T.A ++ cntR (k + sumL T.A) T.B) ++ T.C ++ []) := by simpa [List.append_assoc] using g3
  go_wp2_with fail
  refine (e3 _ g3).mono ?_; rintro e w3 ⟨rfl, g4, hc3⟩
  have g4 : TG w3 lo hi g us (cntR k T.A ++ cntR (k + sumL T.A) T.B ++ cntR (k + sumL T.A + sumL T.B) T.C) := by simpa [List.append_assoc] using g4
  have hc := hc1.trans (hc2.trans hc3)
  go_wp2_with fail
  go_ret
  refine ⟨by rw [HS.out]; rfl, .inr ⟨lo, hi, hB, hE, g, us, c1, c2, c3, by simp only [cnt3, cntR_len], by simp only [cnt3, cntR_len], by simp only [cnt3, cntR_len, List.length_append], g4⟩, hc.os.trans hb0.os, hc.tape.trans hb0.tape, hc.output.trans hb0.output, Nat.le_trans hb0.size hc.size, fun j hj hr => ?_⟩
  have := hb0.size
  rw [hc.block j (by omega) (by omega)]
  exact hb0.block j hj
end Go.Proofs.Ytfcdhdkhfdhjfaa
