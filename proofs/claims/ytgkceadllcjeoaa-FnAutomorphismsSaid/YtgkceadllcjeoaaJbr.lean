/- Texts joined for a claim: AuE, HeH. -/
import Derived.Test.YtgkceadllcjeoaaJbm
import Derived.Test.YtgkceadllcjeoaaHeJ
import Derived.Test.YtgkceadllcjeoaaJak
/-
  An element drawn by the laws' dice.
-/
namespace Go.Proofs.Ytgkceadllcjeoaa
open Go.RowKit

set_option maxHeartbeats 4000000 in
theorem elem9_0 {q c : Nat} {p : Int} {a : Option Addr} {w : World} (hs : Dce w q) (hp0 : 1 ≤ p) (hp1 : p ≤ 17) :
    Calls Try.prog 11 #[.pointer (some ⟨q, 0, none⟩), .agg #[.int .i64 p, .slice a 0 c]] w fun e w' => ∃ (v : Value) (xs : List Int), e = .returned v ∧ xs.length = 1 ∧ Fp p xs ∧ ElR w' w.heap.size v xs ∧ Dce w' q ∧ Chg q (q + 1) w w' := by
  have hq := hs.lt
  go_enter Try.func11, Try.ntmps11
  go_wp2_with fail
  obtain ⟨W1, hW1⟩ : ∃ x, x = ((w.alloc (.cells #[.int .i64 p, .slice a 0 c] 26)).alloc (.cells #[] 2)) := ⟨_, rfl⟩
  have hb1 : Below w.heap.size w W1 := by rw [hW1]; exact (by repeat (first | exact .refl _ _ | apply bwD | apply bwA | (refine bwS ?_ (by first | omega | simp <;> omega) _) | refine bwC ?_ (by assumption)))
  have hz1 : W1.heap.size = w.heap.size + 1 + 1 := by rw [hW1]; simp
  have o1 : OwN W1 (w.heap.size + 1) (.slice (some ⟨w.heap.size + 1, 0, none⟩) 0 0) [] := by
    rw [hW1]
    have h := World.ownsRow_made (w.alloc (.cells #[.int .i64 p, .slice a 0 c] 26)) #[] 0 (base := w.heap.size + 1) (e := 2) (size := 1) (by simp) (by decide) rfl
    simpa [OwN] using h
  have hd1 : Bd W1 w.heap.size (.int .i64 p) (.slice a 0 c) := by rw [hW1]; exact Bd.below (heap_alloc_new w _) (by repeat (first | exact .refl _ _ | apply bwD | apply bwA | (refine bwS ?_ (by first | omega | simp <;> omega) _) | refine bwC ?_ (by assumption)))
  rw [← hW1]; clear hW1
  have hs1 := hs.bl hb1 hq
  have hcw : Chg q (q + 1) w W1 := Chg.refl.bl hb1
  have hzz : w.heap.size + 1 ≤ W1.heap.size := by omega
  clear hb1 hz1 hs
  go_loopw [5, 6] (fun ov iv wr => ∃ (k : Nat) (xs : List Int), k ≤ 1 ∧ xs.length = k ∧ Fp p xs ∧ iv = .int .i64 k ∧ OwN wr (w.heap.size + 1) ov xs ∧ Bd wr w.heap.size (.int .i64 p) (.slice a 0 c) ∧ Dce wr q ∧ Chg q (q + 1) w wr ∧ w.heap.size + 1 ≤ wr.heap.size) (fun _ iv _ => 1 - (intOf iv).toNat)
  case atStart => exact ⟨0, [], by omega, rfl, (fun x h => by cases h), rfl, o1, hd1, hs1, hcw, hzz⟩
  case round =>
    clear o1 hd1 hs1 hcw hzz
    obtain ⟨k, xs, hk, hxl, hfp, rfl, ho, hd, hsr, hcw, hzz⟩ := hrel
    obtain ⟨ad, nd, cd, rfl⟩ := ho.form
    have e0 := hd.c0; have e1 := hd.c1
    have HXL := Lib.hid hxl; clear hxl
    have HFP := Lib.hid hfp; clear hfp
    by_cases hlt : k < 1
    · have hlti : (k : Int) < 1 := by omega
      go_wp2_with fail
      refine (dbelow_c hsr (by omega) (by omega)).mono ?_; rintro e w3 ⟨x, rfl, hx0, hx1, hs3, hc3, hz3_⟩
      have hd3 := hd.chg hc3 (.inr (by omega)); have ho3 := ho.chg hc3 (by omega)
      have hcw3 := hcw.trans hc3
      have hzz3 : w.heap.size + 1 ≤ w3.heap.size := by omega
      have hx2 : x < p := by omega
      clear hx1 hz3_ hc3 hsr hcw hd ho e0 e1
      go_wp2_with (at_builtin; refine appn_one rfl _ _ rfl w3 (w.heap.size + 1) _ rfl (.slice ad nd cd) xs rfl x 1 rfl ho3 (by omega) (by have := HXL.out; omega) ?_; intro g' cap' w' hown' hgb' hg' hge)
      go_roundw
      case rel => exact ⟨k + 1, xs ++ [x], by omega, by rw [List.length_append, HXL.out]; rfl, (fun y hy => by rcases List.mem_append.1 hy with h | h; exact HFP.out y h; rw [List.mem_singleton.1 h]; exact ⟨hx0, hx2⟩), by go_num, hown', hd3.bl hgb' (by omega), hs3.bl hgb' (by omega), hcw3.bl (hgb'.mono (by omega)), by have := hgb'.size; omega⟩
      case measure => simp [intOf]; omega
    · obtain rfl : k = 1 := by omega
      go_wp2_with fail
      go_ret
      exact ⟨_, xs, rfl, HXL.out, HFP.out, ho.elr.more (by omega), hsr, hcw⟩
set_option maxHeartbeats 4000000 in
theorem elem9_1 {q c : Nat} {p : Int} {a : Option Addr} {w : World} (hs : Dce w q) (hp0 : 1 ≤ p) (hp1 : p ≤ 17) :
    Calls Try.prog 11 #[.pointer (some ⟨q, 0, none⟩), .agg #[.int .i64 p, .slice a 1 c]] w fun e w' => ∃ (v : Value) (xs : List Int), e = .returned v ∧ xs.length = 2 ∧ Fp p xs ∧ ElR w' w.heap.size v xs ∧ Dce w' q ∧ Chg q (q + 1) w w' := by
  have hq := hs.lt
  go_enter Try.func11, Try.ntmps11
  go_wp2_with fail
  obtain ⟨W1, hW1⟩ : ∃ x, x = ((w.alloc (.cells #[.int .i64 p, .slice a 1 c] 26)).alloc (.cells #[] 2)) := ⟨_, rfl⟩
  have hb1 : Below w.heap.size w W1 := by rw [hW1]; exact (by repeat (first | exact .refl _ _ | apply bwD | apply bwA | (refine bwS ?_ (by first | omega | simp <;> omega) _) | refine bwC ?_ (by assumption)))
  have hz1 : W1.heap.size = w.heap.size + 1 + 1 := by rw [hW1]; simp
  have o1 : OwN W1 (w.heap.size + 1) (.slice (some ⟨w.heap.size + 1, 0, none⟩) 0 0) [] := by
    rw [hW1]
    have h := World.ownsRow_made (w.alloc (.cells #[.int .i64 p, .slice a 1 c] 26)) #[] 0 (base := w.heap.size + 1) (e := 2) (size := 1) (by simp) (by decide) rfl
    simpa [OwN] using h
  have hd1 : Bd W1 w.heap.size (.int .i64 p) (.slice a 1 c) := by rw [hW1]; exact Bd.below (heap_alloc_new w _) (by repeat (first | exact .refl _ _ | apply bwD | apply bwA | (refine bwS ?_ (by first | omega | simp <;> omega) _) | refine bwC ?_ (by assumption)))
  rw [← hW1]; clear hW1
  have hs1 := hs.bl hb1 hq
  have hcw : Chg q (q + 1) w W1 := Chg.refl.bl hb1
  have hzz : w.heap.size + 1 ≤ W1.heap.size := by omega
  clear hb1 hz1 hs
  go_loopw [5, 6] (fun ov iv wr => ∃ (k : Nat) (xs : List Int), k ≤ 2 ∧ xs.length = k ∧ Fp p xs ∧ iv = .int .i64 k ∧ OwN wr (w.heap.size + 1) ov xs ∧ Bd wr w.heap.size (.int .i64 p) (.slice a 1 c) ∧ Dce wr q ∧ Chg q (q + 1) w wr ∧ w.heap.size + 1 ≤ wr.heap.size) (fun _ iv _ => 2 - (intOf iv).toNat)
  case atStart => exact ⟨0, [], by omega, rfl, (fun x h => by cases h), rfl, o1, hd1, hs1, hcw, hzz⟩
  case round =>
    clear o1 hd1 hs1 hcw hzz
    obtain ⟨k, xs, hk, hxl, hfp, rfl, ho, hd, hsr, hcw, hzz⟩ := hrel
    obtain ⟨ad, nd, cd, rfl⟩ := ho.form
    have e0 := hd.c0; have e1 := hd.c1
    have HXL := Lib.hid hxl; clear hxl
    have HFP := Lib.hid hfp; clear hfp
    by_cases hlt : k < 2
    · have hlti : (k : Int) < 2 := by omega
      go_wp2_with fail
      refine (dbelow_c hsr (by omega) (by omega)).mono ?_; rintro e w3 ⟨x, rfl, hx0, hx1, hs3, hc3, hz3_⟩
      have hd3 := hd.chg hc3 (.inr (by omega)); have ho3 := ho.chg hc3 (by omega)
      have hcw3 := hcw.trans hc3
      have hzz3 : w.heap.size + 1 ≤ w3.heap.size := by omega
      have hx2 : x < p := by omega
      clear hx1 hz3_ hc3 hsr hcw hd ho e0 e1
      go_wp2_with (at_builtin; refine appn_one rfl _ _ rfl w3 (w.heap.size + 1) _ rfl (.slice ad nd cd) xs rfl x 1 rfl ho3 (by omega) (by have := HXL.out; omega) ?_; intro g' cap' w' hown' hgb' hg' hge)
      go_roundw
      case rel => exact ⟨k + 1, xs ++ [x], by omega, by rw [List.length_append, HXL.out]; rfl, (fun y hy => by rcases List.mem_append.1 hy with h | h; exact HFP.out y h; rw [List.mem_singleton.1 h]; exact ⟨hx0, hx2⟩), by go_num, hown', hd3.bl hgb' (by omega), hs3.bl hgb' (by omega), hcw3.bl (hgb'.mono (by omega)), by have := hgb'.size; omega⟩
      case measure => simp [intOf]; omega
    · obtain rfl : k = 2 := by omega
      go_wp2_with fail
      go_ret
      exact ⟨_, xs, rfl, HXL.out, HFP.out, ho.elr.more (by omega), hsr, hcw⟩
set_option maxHeartbeats 4000000 in
theorem elem9_2 {q c : Nat} {p : Int} {a : Option Addr} {w : World} (hs : Dce w q) (hp0 : 1 ≤ p) (hp1 : p ≤ 17) :
    Calls Try.prog 11 #[.pointer (some ⟨q, 0, none⟩), .agg #[.int .i64 p, .slice a 2 c]] w fun e w' => ∃ (v : Value) (xs : List Int), e = .returned v ∧ xs.length = 4 ∧ Fp p xs ∧ ElR w' w.heap.size v xs ∧ Dce w' q ∧ Chg q (q + 1) w w' := by
  have hq := hs.lt
  go_enter Try.func11, Try.ntmps11
  go_wp2_with fail
  obtain ⟨W1, hW1⟩ : ∃ x, x = ((w.alloc (.cells #[.int .i64 p, .slice a 2 c] 26)).alloc (.cells #[] 2)) := ⟨_, rfl⟩
  have hb1 : Below w.heap.size w W1 := by rw [hW1]; exact (by repeat (first | exact .refl _ _ | apply bwD | apply bwA | (refine bwS ?_ (by first | omega | simp <;> omega) _) | refine bwC ?_ (by assumption)))
  have hz1 : W1.heap.size = w.heap.size + 1 + 1 := by rw [hW1]; simp
  have o1 : OwN W1 (w.heap.size + 1) (.slice (some ⟨w.heap.size + 1, 0, none⟩) 0 0) [] := by
    rw [hW1]
    have h := World.ownsRow_made (w.alloc (.cells #[.int .i64 p, .slice a 2 c] 26)) #[] 0 (base := w.heap.size + 1) (e := 2) (size := 1) (by simp) (by decide) rfl
    simpa [OwN] using h
  have hd1 : Bd W1 w.heap.size (.int .i64 p) (.slice a 2 c) := by rw [hW1]; exact Bd.below (heap_alloc_new w _) (by repeat (first | exact .refl _ _ | apply bwD | apply bwA | (refine bwS ?_ (by first | omega | simp <;> omega) _) | refine bwC ?_ (by assumption)))
  rw [← hW1]; clear hW1
  have hs1 := hs.bl hb1 hq
  have hcw : Chg q (q + 1) w W1 := Chg.refl.bl hb1
  have hzz : w.heap.size + 1 ≤ W1.heap.size := by omega
  clear hb1 hz1 hs
  go_loopw [5, 6] (fun ov iv wr => ∃ (k : Nat) (xs : List Int), k ≤ 4 ∧ xs.length = k ∧ Fp p xs ∧ iv = .int .i64 k ∧ OwN wr (w.heap.size + 1) ov xs ∧ Bd wr w.heap.size (.int .i64 p) (.slice a 2 c) ∧ Dce wr q ∧ Chg q (q + 1) w wr ∧ w.heap.size + 1 ≤ wr.heap.size) (fun _ iv _ => 4 - (intOf iv).toNat)
  case atStart => exact ⟨0, [], by omega, rfl, (fun x h => by cases h), rfl, o1, hd1, hs1, hcw, hzz⟩
  case round =>
    clear o1 hd1 hs1 hcw hzz
    obtain ⟨k, xs, hk, hxl, hfp, rfl, ho, hd, hsr, hcw, hzz⟩ := hrel
    obtain ⟨ad, nd, cd, rfl⟩ := ho.form
    have e0 := hd.c0; have e1 := hd.c1
    have HXL := Lib.hid hxl; clear hxl
    have HFP := Lib.hid hfp; clear hfp
    by_cases hlt : k < 4
    · have hlti : (k : Int) < 4 := by omega
      go_wp2_with fail
      refine (dbelow_c hsr (by omega) (by omega)).mono ?_; rintro e w3 ⟨x, rfl, hx0, hx1, hs3, hc3, hz3_⟩
      have hd3 := hd.chg hc3 (.inr (by omega)); have ho3 := ho.chg hc3 (by omega)
      have hcw3 := hcw.trans hc3
      have hzz3 : w.heap.size + 1 ≤ w3.heap.size := by omega
      have hx2 : x < p := by omega
      clear hx1 hz3_ hc3 hsr hcw hd ho e0 e1
      go_wp2_with (at_builtin; refine appn_one rfl _ _ rfl w3 (w.heap.size + 1) _ rfl (.slice ad nd cd) xs rfl x 1 rfl ho3 (by omega) (by have := HXL.out; omega) ?_; intro g' cap' w' hown' hgb' hg' hge)
      go_roundw
      case rel => exact ⟨k + 1, xs ++ [x], by omega, by rw [List.length_append, HXL.out]; rfl, (fun y hy => by rcases List.mem_append.1 hy with h | h; exact HFP.out y h; rw [List.mem_singleton.1 h]; exact ⟨hx0, hx2⟩), by go_num, hown', hd3.bl hgb' (by omega), hs3.bl hgb' (by omega), hcw3.bl (hgb'.mono (by omega)), by have := hgb'.size; omega⟩
      case measure => simp [intOf]; omega
    · obtain rfl : k = 4 := by omega
      go_wp2_with fail
      go_ret
      exact ⟨_, xs, rfl, HXL.out, HFP.out, ho.elr.more (by omega), hsr, hcw⟩
set_option maxHeartbeats 4000000 in
theorem elem9_3 {q c : Nat} {p : Int} {a : Option Addr} {w : World} (hs : Dce w q) (hp0 : 1 ≤ p) (hp1 : p ≤ 17) :
    Calls Try.prog 11 #[.pointer (some ⟨q, 0, none⟩), .agg #[.int .i64 p, .slice a 3 c]] w fun e w' => ∃ (v : Value) (xs : List Int), e = .returned v ∧ xs.length = 8 ∧ Fp p xs ∧ ElR w' w.heap.size v xs ∧ Dce w' q ∧ Chg q (q + 1) w w' := by
  have hq := hs.lt
  go_enter Try.func11, Try.ntmps11
  go_wp2_with fail
  obtain ⟨W1, hW1⟩ : ∃ x, x = ((w.alloc (.cells #[.int .i64 p, .slice a 3 c] 26)).alloc (.cells #[] 2)) := ⟨_, rfl⟩
  have hb1 : Below w.heap.size w W1 := by rw [hW1]; exact (by repeat (first | exact .refl _ _ | apply bwD | apply bwA | (refine bwS ?_ (by first | omega | simp <;> omega) _) | refine bwC ?_ (by assumption)))
  have hz1 : W1.heap.size = w.heap.size + 1 + 1 := by rw [hW1]; simp
  have o1 : OwN W1 (w.heap.size + 1) (.slice (some ⟨w.heap.size + 1, 0, none⟩) 0 0) [] := by
    rw [hW1]
    have h := World.ownsRow_made (w.alloc (.cells #[.int .i64 p, .slice a 3 c] 26)) #[] 0 (base := w.heap.size + 1) (e := 2) (size := 1) (by simp) (by decide) rfl
    simpa [OwN] using h
  have hd1 : Bd W1 w.heap.size (.int .i64 p) (.slice a 3 c) := by rw [hW1]; exact Bd.below (heap_alloc_new w _) (by repeat (first | exact .refl _ _ | apply bwD | apply bwA | (refine bwS ?_ (by first | omega | simp <;> omega) _) | refine bwC ?_ (by assumption)))
  rw [← hW1]; clear hW1
  have hs1 := hs.bl hb1 hq
  have hcw : Chg q (q + 1) w W1 := Chg.refl.bl hb1
  have hzz : w.heap.size + 1 ≤ W1.heap.size := by omega
  clear hb1 hz1 hs
  go_loopw [5, 6] (fun ov iv wr => ∃ (k : Nat) (xs : List Int), k ≤ 8 ∧ xs.length = k ∧ Fp p xs ∧ iv = .int .i64 k ∧ OwN wr (w.heap.size + 1) ov xs ∧ Bd wr w.heap.size (.int .i64 p) (.slice a 3 c) ∧ Dce wr q ∧ Chg q (q + 1) w wr ∧ w.heap.size + 1 ≤ wr.heap.size) (fun _ iv _ => 8 - (intOf iv).toNat)
  case atStart => exact ⟨0, [], by omega, rfl, (fun x h => by cases h), rfl, o1, hd1, hs1, hcw, hzz⟩
  case round =>
    clear o1 hd1 hs1 hcw hzz
    obtain ⟨k, xs, hk, hxl, hfp, rfl, ho, hd, hsr, hcw, hzz⟩ := hrel
    obtain ⟨ad, nd, cd, rfl⟩ := ho.form
    have e0 := hd.c0; have e1 := hd.c1
    have HXL := Lib.hid hxl; clear hxl
    have HFP := Lib.hid hfp; clear hfp
    by_cases hlt : k < 8
    · have hlti : (k : Int) < 8 := by omega
      go_wp2_with fail
      refine (dbelow_c hsr (by omega) (by omega)).mono ?_; rintro e w3 ⟨x, rfl, hx0, hx1, hs3, hc3, hz3_⟩
      have hd3 := hd.chg hc3 (.inr (by omega)); have ho3 := ho.chg hc3 (by omega)
      have hcw3 := hcw.trans hc3
      have hzz3 : w.heap.size + 1 ≤ w3.heap.size := by omega
      have hx2 : x < p := by omega
      clear hx1 hz3_ hc3 hsr hcw hd ho e0 e1
      go_wp2_with (at_builtin; refine appn_one rfl _ _ rfl w3 (w.heap.size + 1) _ rfl (.slice ad nd cd) xs rfl x 1 rfl ho3 (by omega) (by have := HXL.out; omega) ?_; intro g' cap' w' hown' hgb' hg' hge)
      go_roundw
      case rel => exact ⟨k + 1, xs ++ [x], by omega, by rw [List.length_append, HXL.out]; rfl, (fun y hy => by rcases List.mem_append.1 hy with h | h; exact HFP.out y h; rw [List.mem_singleton.1 h]; exact ⟨hx0, hx2⟩), by go_num, hown', hd3.bl hgb' (by omega), hs3.bl hgb' (by omega), hcw3.bl (hgb'.mono (by omega)), by have := hgb'.size; omega⟩
      case measure => simp [intOf]; omega
    · obtain rfl : k = 8 := by omega
      go_wp2_with fail
      go_ret
      exact ⟨_, xs, rfl, HXL.out, HFP.out, ho.elr.more (by omega), hsr, hcw⟩
theorem elem9_c {q : Nat} {p : Int} {x : Value} {st : List Int} {w : World} (hs : Dce w q) (hd : Dok p st) (hx : El w x st) :
    Calls Try.prog 11 #[.pointer (some ⟨q, 0, none⟩), .agg #[.int .i64 p, x]] w fun e w' => ∃ (v : Value) (xs : List Int), e = .returned v ∧ Ev p (sz st.length) xs ∧ ElR w' w.heap.size v xs ∧ Dce w' q ∧ Chg q (q + 1) w w' := by
  obtain ⟨a, c, rfl, _⟩ := id hx.op
  have h1 := hd.hp.lo; have h2 := hd.hp.hi; have h3 := hd.hl
  clear hx hd
  generalize st.length = n at *
  rcases (show n = 0 ∨ n = 1 ∨ n = 2 ∨ n = 3 by omega) with rfl | rfl | rfl | rfl
  · exact (elem9_0 hs (by omega) (by omega)).mono fun e w' ⟨v, xs, a, b, c, d, f, g⟩ => ⟨v, xs, a, ⟨b, c⟩, d, f, g⟩
  · exact (elem9_1 hs (by omega) (by omega)).mono fun e w' ⟨v, xs, a, b, c, d, f, g⟩ => ⟨v, xs, a, ⟨b, c⟩, d, f, g⟩
  · exact (elem9_2 hs (by omega) (by omega)).mono fun e w' ⟨v, xs, a, b, c, d, f, g⟩ => ⟨v, xs, a, ⟨b, c⟩, d, f, g⟩
  · exact (elem9_3 hs (by omega) (by omega)).mono fun e w' ⟨v, xs, a, b, c, d, f, g⟩ => ⟨v, xs, a, ⟨b, c⟩, d, f, g⟩
end Go.Proofs.Ytgkceadllcjeoaa
/-
  The laws' bound on codes.
-/
namespace Go.Proofs.Ytgkceadllcjeoaa
open Go.RowKit

theorem big_c {a : Option Addr} {n c : Nat} {w : World} (hn : n ≤ 9223372036854775807) :
    Calls Try.prog 5 #[.slice a n c] w fun e w' => e = .returned (.bool (decide (4096 < n))) ∧ w = w' := by
  by_cases h : 4096 < n
  · have h2 : (4096 : Int) < (n : Int) := by omega
    rw [decide_eq_true h]
    go_enter Try.func5, Try.ntmps5
    go_wp2
    go_ret
    exact ⟨rfl, rfl⟩
  · have h2 : ¬ (4096 : Int) < (n : Int) := by omega
    rw [decide_eq_false h]
    go_enter Try.func5, Try.ntmps5
    go_wp2
    go_ret
    exact ⟨rfl, rfl⟩
end Go.Proofs.Ytgkceadllcjeoaa
