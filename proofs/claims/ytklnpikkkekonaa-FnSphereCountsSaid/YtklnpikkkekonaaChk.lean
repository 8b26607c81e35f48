/-
  The checks of spaces, of vectors and of lists of vectors.
-/
import Derived.Test.YtklnpikkkekonaaSpace
namespace Go.Proofs.Ytklnpikkkekonaa
open Go.RowKit

theorem boxed {w w1 : World} {u0 u1 : Value} {t : TypeId} (hb : Below (w.alloc (.cells #[u0, u1] t)).heap.size (w.alloc (.cells #[u0, u1] t)) w1) :
    w1.cell? ⟨w.heap.size, 0, none⟩ = some u0 ∧ w1.cell? ⟨w.heap.size, 1, none⟩ = some u1 :=
  ⟨kept hb (by simp [go_sem]), kept hb (by simp [go_sem])⟩
/-- Rows of rows, as values. -/
def Rl (w : World) (v : Value) (xss : List (List Int)) : Prop :=
  ∃ a c, v = .slice a xss.length c ∧ (xss = [] ∨ ∃ b off, a = some ⟨b, off, none⟩ ∧ ∀ j (h : j < xss.length), ∃ u, w.cell? ⟨b, off + j, none⟩ = some u ∧ Sl w u xss[j])
theorem Rl.below {w w' : World} {v : Value} {xss : List (List Int)} (h : Rl w v xss) (hb : Below w.heap.size w w') : Rl w' v xss := by
  obtain ⟨a, c, rfl, h⟩ := h
  refine ⟨a, c, rfl, ?_⟩
  rcases h with h | ⟨b, off, ha, h⟩
  · exact .inl h
  · refine .inr ⟨b, off, ha, fun j hj => ?_⟩
    obtain ⟨u, h1, h2⟩ := h j hj
    exact ⟨u, kept hb h1, h2.below hb⟩
theorem Rl.nil (w : World) : Rl w (.slice none 0 0) [] := ⟨none, 0, rfl, .inl rfl⟩
theorem Rl.one {w' : World} {v : Value} {xs : List Int} {b c : Nat} (h : Sl w' v xs) (hc : w'.cell? ⟨b, 0, none⟩ = some v) : Rl w' (.slice (some ⟨b, 0, none⟩) 1 c) [xs] := by
  refine ⟨_, c, rfl, .inr ⟨b, 0, rfl, fun j hj => ?_⟩⟩
  obtain rfl : j = 0 := by simpa using hj
  exact ⟨v, hc, h⟩
def isV (p : Int) (sq xs : List Int) : Bool := decide (xs.length = sq.length) && isL p xs
theorem isV_iff {p : Int} {sq xs : List Int} : isV p sq xs = true ↔ xs.length = sq.length ∧ Fp p xs := by simp [isV, isL_fp]
def chkV (p : Int) (sq : List Int) (xss : List (List Int)) : Int := if isSp p sq = true then (if xss.all (isV p sq) = true then 0 else 2) else 1
def extL (p : Int) (sq : List Int) : List Int := sq ++ [1, p - 1]
def chkP (p : Int) (sq : List Int) (xss yss : List (List Int)) : Int :=
  if isSp p sq = true then (if 4 < sq.length then 3 else if xss.all (isV p sq) = true ∧ yss.all (isV p (extL p sq)) = true then 0 else 2) else 1
theorem isvec_c {p : Int} {x y : Value} {sq xs : List Int} {w : World} (hx : Sl w x sq) (hy : Sl w y xs) (hm : xs.length ≤ 1048576) (hp : 0 ≤ p) (hp2 : p ≤ 1000) :
    Calls Try.prog 59 #[.agg #[.int .i64 p, x], y] w fun e w' => e = .returned (.bool (isV p sq xs)) ∧ Below w.heap.size w w' := by
  obtain ⟨a, c, rfl, _⟩ := hx
  obtain ⟨a2, c2, rfl, hy'⟩ := id hy
  have hy1 := hy.below (w' := w.alloc (.cells #[.int .i64 p, .slice a sq.length c] 26)) (by repeat (first | exact Below.refl _ _ | apply blw_drew | apply blw_alloc | (refine blw_set ?_ (by first | omega | (simp; done) | (simp; omega)) _) | refine below_chain ?_ (by assumption)))
  by_cases hl : xs.length = sq.length
  · have e : isV p sq xs = isL p xs := by simp [isV, hl]
    rw [e, hl]
    rw [hl] at hy1
    have HL := Lib.hid hl; clear hl e
    go_enter Try.func59, Try.ntmps59
    go_wp2_with (first
      | (go_at_call 23; refine dim_c.mono ?_; rintro e w1 ⟨rfl, hb1⟩; obtain ⟨d0, d1⟩ := boxed hb1)
      | (go_at_call 25; refine spfield_c.mono ?_; rintro e w2 ⟨rfl, hb2⟩)
      | (go_at_call 29; refine (is_c hp hp2 ((hy1.below hb1).below hb2) hm).mono ?_; rintro e w3 ⟨rfl, rfl⟩))
    go_ret
    exact ⟨rfl, (by repeat (first | exact Below.refl _ _ | apply blw_drew | apply blw_alloc | (refine blw_set ?_ (by first | omega | (simp; done) | (simp; omega)) _) | refine below_chain ?_ (by assumption)))⟩
  · have e : isV p sq xs = false := by simp [isV, hl]
    rw [e]
    have hne : ((xs.length : Int) == (sq.length : Int)) = false := by rw [beq_eq_false_iff_ne]; omega
    go_enter Try.func59, Try.ntmps59
    go_wp2_with (first
      | (go_at_call 23; refine dim_c.mono ?_; rintro e w1 ⟨rfl, hb1⟩; obtain ⟨d0, d1⟩ := boxed hb1))
    go_ret
    exact ⟨rfl, (by repeat (first | exact Below.refl _ _ | apply blw_drew | apply blw_alloc | (refine blw_set ?_ (by first | omega | (simp; done) | (simp; omega)) _) | refine below_chain ?_ (by assumption)))⟩
theorem chk1_c {p : Int} {x y : Value} {q : Nat} {sq xs : List Int} {w : World} (h0 : w.cell? ⟨q, 0, none⟩ = some (.int .i64 p)) (h1 : w.cell? ⟨q, 1, none⟩ = some x) (hx : Sl w x sq) (hy : Sl w y xs) (hm : xs.length ≤ 1048576) (hp : 0 ≤ p) (hp2 : p ≤ 1000) :
    Calls Try.prog 58 #[y, .pointer (some ⟨q, 0, none⟩)] w fun e w' => e = .returned (.bool (!isV p sq xs)) ∧ Below w.heap.size w w' := by
  obtain ⟨a, c, rfl, _⟩ := id hx
  obtain ⟨a2, c2, rfl, _⟩ := id hy
  cases hv : isV p sq xs
  · go_enter Try.func58, Try.ntmps58
    go_wp2_with (go_at_call 59; refine (isvec_c hx hy hm hp hp2).mono ?_; rintro e w1 ⟨rfl, hb1⟩; simp only [hv])
    go_ret
    exact ⟨rfl, (by repeat (first | exact Below.refl _ _ | apply blw_drew | apply blw_alloc | (refine blw_set ?_ (by first | omega | (simp; done) | (simp; omega)) _) | refine below_chain ?_ (by assumption)))⟩
  · go_enter Try.func58, Try.ntmps58
    go_wp2_with (go_at_call 59; refine (isvec_c hx hy hm hp hp2).mono ?_; rintro e w1 ⟨rfl, hb1⟩; simp only [hv])
    go_ret
    exact ⟨rfl, (by repeat (first | exact Below.refl _ _ | apply blw_drew | apply blw_alloc | (refine blw_set ?_ (by first | omega | (simp; done) | (simp; omega)) _) | refine below_chain ?_ (by assumption)))⟩
theorem Rl.get {w : World} {b off : Nat} {xss : List (List Int)} (h : ∀ j (h : j < xss.length), ∃ u, w.cell? ⟨b, off + j, none⟩ = some u ∧ Sl w u xss[j]) {m : Nat} (hm : m < xss.length) :
    ∃ a c xs, xs ∈ xss ∧ w.cell? ⟨b, off + m, none⟩ = some (.slice a xs.length c) ∧ Sl w (.slice a xs.length c) xs ∧ xss.take (m + 1) = xss.take m ++ [xs] := by
  obtain ⟨u, h1, a, c, rfl, h2⟩ := h m hm
  exact ⟨a, c, xss[m], List.getElem_mem hm, h1, ⟨a, c, rfl, h2⟩, List.take_succ_eq_append_getElem hm⟩
/-- Whether the first so many meet a test, one more. -/
theorem all_snoc {α : Type} {f : α → Bool} {l : List α} {m : Nat} {x : α} (h : (l.take m).all f = true) (ht : l.take (m + 1) = l.take m ++ [x]) : (l.take (m + 1)).all f = f x := by
  rw [ht, List.all_append, h]; simp
theorem all_no {α : Type} {f : α → Bool} {l : List α} {x : α} (hx : x ∈ l) (h : f x = false) : l.all f = false := by
  rw [List.all_eq_false]; exact ⟨x, hx, by simp [h]⟩
theorem idxchk_c {p : Int} {x l : Value} {q : Nat} {sq : List Int} {xss : List (List Int)} {w : World} (h0 : w.cell? ⟨q, 0, none⟩ = some (.int .i64 p)) (h1 : w.cell? ⟨q, 1, none⟩ = some x) (hx : Sl w x sq) (hl : Rl w l xss)
    (hm1 : xss.length ≤ 1048576) (hm : ∀ xs ∈ xss, xs.length ≤ 1048576) (hp : 0 ≤ p) (hp2 : p ≤ 1000) :
    Calls Try.prog 68 #[l, .func (Fn.func 58) #[] #[.pointer (some ⟨q, 0, none⟩)]] w fun e w' =>
      ∃ k : Int, e = .returned (.int .i64 k) ∧ decide (0 ≤ k) = !xss.all (isV p sq) ∧ -1 ≤ k ∧ k ≤ 1048576 ∧ Below w.heap.size w w' := by
  obtain ⟨a, c, rfl, rfl | ⟨b, off, rfl, hl⟩⟩ := hl
  · go_enter Try.func68, Try.ntmps68
    go_wp2
    refine wp_loop_rounds 1 ?_; rw [rounds_succ]
    go_wp2; go_ret; exact ⟨_, rfl, rfl, by decide, by decide, Below.refl _ _⟩
  go_enter Try.func68, Try.ntmps68
  go_wp2
  go_loopw [8] (fun i wr => ∃ k : Nat, k ≤ xss.length ∧ i = .int .i64 k ∧ (xss.take k).all (isV p sq) = true ∧ Below w.heap.size w wr) (fun i _ => xss.length - (intOf i).toNat)
  case atStart => exact ⟨0, Nat.zero_le _, rfl, rfl, Below.refl _ _⟩
  case round =>
    obtain ⟨k, hk, rfl, hr, hb⟩ := hrel
    by_cases hlt : k < xss.length
    · obtain ⟨a1, c1, xs, hxs, hc0, hs0, ht⟩ := Rl.get hl hlt
      have hc := kept hb hc0
      have hs := hs0.below hb
      have g0 := kept hb h0
      have g1 := kept hb h1
      have gx := hx.below hb
      have hmx := hm xs hxs
      have H := Lib.hid (And.intro (all_snoc hr ht) (@all_no _ (isV p sq) _ _ hxs)); clear hr ht
      cases hv : isV p sq xs
      · go_wp2_with (go_at_call 58; refine (chk1_c g0 g1 gx hs hmx hp hp2).mono ?_; rintro e w1 ⟨rfl, hb1⟩; simp only [hv])
        go_ret
        exact ⟨_, rfl, by rw [H.out.2 hv]; simp, by omega, by omega, below_chain hb hb1⟩
      · go_wp2_with (go_at_call 58; refine (chk1_c g0 g1 gx hs hmx hp hp2).mono ?_; rintro e w1 ⟨rfl, hb1⟩; simp only [hv])
        go_roundw
        case rel => exact ⟨k + 1, by omega, by go_num, by rw [H.out.1, hv], below_chain hb hb1⟩
        case measure => simp [intOf]; omega
    · have e : xss.take k = xss := take_all (by omega)
      rw [e] at hr
      have H := Lib.hid hr; clear hr e
      go_wp2
      go_ret
      exact ⟨_, rfl, by rw [H.out]; rfl, by decide, by decide, hb⟩
theorem conchk_c {p : Int} {x l : Value} {q : Nat} {sq : List Int} {xss : List (List Int)} {w : World} (h0 : w.cell? ⟨q, 0, none⟩ = some (.int .i64 p)) (h1 : w.cell? ⟨q, 1, none⟩ = some x) (hx : Sl w x sq) (hl : Rl w l xss)
    (hm1 : xss.length ≤ 1048576) (hm : ∀ xs ∈ xss, xs.length ≤ 1048576) (hp : 0 ≤ p) (hp2 : p ≤ 1000) :
    Calls Try.prog 57 #[l, .func (Fn.func 58) #[] #[.pointer (some ⟨q, 0, none⟩)]] w fun e w' =>
      e = .returned (.bool (!xss.all (isV p sq))) ∧ Below w.heap.size w w' := by
  obtain ⟨a2, c2, rfl, _⟩ := id hl
  go_enter Try.func57, Try.ntmps57
  go_wp2_with (go_at_call 68; refine (idxchk_c h0 h1 hx hl hm1 hm hp hp2).mono ?_; rintro e w1 ⟨k, rfl, hk, hk1, hk2, hb1⟩; have H := Lib.hid hk; clear hk)
  go_ret
  exact ⟨by rw [← H.out]; rfl, hb1⟩
theorem chkvec_c {p : Int} {x l : Value} {sq : List Int} {xss : List (List Int)} {w : World} (hx : Sl w x sq) (hl : Rl w l xss) (hm : sq.length ≤ 1048576) (hm1 : xss.length ≤ 1048576) (hm2 : ∀ xs ∈ xss, xs.length ≤ 1048576) :
    Calls Try.prog 36 #[.agg #[.int .i64 p, x], l] w fun e w' => e = .returned (.int .i64 (chkV p sq xss)) ∧ Below w.heap.size w w' := by
  obtain ⟨a, c, rfl, _⟩ := id hx
  obtain ⟨a2, c2, rfl, _⟩ := id hl
  have hx1 := hx.below (w' := w.alloc (.cells #[.int .i64 p, .slice a sq.length c] 26)) (by repeat (first | exact Below.refl _ _ | apply blw_drew | apply blw_alloc | (refine blw_set ?_ (by first | omega | (simp; done) | (simp; omega)) _) | refine below_chain ?_ (by assumption)))
  have hl1 := hl.below (w' := w.alloc (.cells #[.int .i64 p, .slice a sq.length c] 26)) (by repeat (first | exact Below.refl _ _ | apply blw_drew | apply blw_alloc | (refine blw_set ?_ (by first | omega | (simp; done) | (simp; omega)) _) | refine below_chain ?_ (by assumption)))
  obtain ⟨r, hr⟩ : ∃ r, r = chkV p sq xss := ⟨_, rfl⟩
  rw [← hr]
  unfold chkV at hr
  have H := Lib.hid hr; clear hr
  cases h1 : isSp p sq
  · obtain rfl : r = 1 := by rw [H.out, h1]; rfl
    go_enter Try.func36, Try.ntmps36
    go_wp2_with (go_at_call 28; refine (isspace_c hx1 hm).mono ?_; rintro e w1 ⟨rfl, hb1⟩; simp only [h1])
    go_ret
    exact ⟨rfl, (by repeat (first | exact Below.refl _ _ | apply blw_drew | apply blw_alloc | (refine blw_set ?_ (by first | omega | (simp; done) | (simp; omega)) _) | refine below_chain ?_ (by assumption)))⟩
  · have hp := (isSp_iff.1 h1).1
    have hp1 := hp.lo
    have hp2 := hp.hi
    cases h2 : xss.all (isV p sq)
    · obtain rfl : r = 2 := by rw [H.out, h1, h2]; rfl
      go_enter Try.func36, Try.ntmps36
      go_wp2_with (first
        | (go_at_call 28; refine (isspace_c hx1 hm).mono ?_; rintro e w1 ⟨rfl, hb1⟩; simp only [h1]; obtain ⟨d0, d1⟩ := boxed hb1)
        | (go_at_call 57; refine (conchk_c d0 d1 (hx1.below hb1) (hl1.below hb1) hm1 hm2 (by omega) (by omega)).mono ?_; rintro e w2 ⟨rfl, hb2⟩; simp only [h2]))
      go_ret
      exact ⟨rfl, (by repeat (first | exact Below.refl _ _ | apply blw_drew | apply blw_alloc | (refine blw_set ?_ (by first | omega | (simp; done) | (simp; omega)) _) | refine below_chain ?_ (by assumption)))⟩
    · obtain rfl : r = 0 := by rw [H.out, h1, h2]; rfl
      go_enter Try.func36, Try.ntmps36
      go_wp2_with (first
        | (go_at_call 28; refine (isspace_c hx1 hm).mono ?_; rintro e w1 ⟨rfl, hb1⟩; simp only [h1]; obtain ⟨d0, d1⟩ := boxed hb1)
        | (go_at_call 57; refine (conchk_c d0 d1 (hx1.below hb1) (hl1.below hb1) hm1 hm2 (by omega) (by omega)).mono ?_; rintro e w2 ⟨rfl, hb2⟩; simp only [h2]))
      go_ret
      exact ⟨rfl, (by repeat (first | exact Below.refl _ _ | apply blw_drew | apply blw_alloc | (refine blw_set ?_ (by first | omega | (simp; done) | (simp; omega)) _) | refine below_chain ?_ (by assumption)))⟩
end Go.Proofs.Ytklnpikkkekonaa
