/- Texts joined for a claim: HcA, HcB, Tree, LawH, LawE, HfL. -/
import Derived.Test.YtgkceadllcjeoaaDbU
import Derived.Test.YtgkceadllcjeoaaFlow
import Derived.Deep.DeepCutAuto
/-
  The checks of hermitian matrices: the program's.
-/
namespace Go.Proofs.Ytgkceadllcjeoaa
open Go.RowKit

theorem Dok.is {p : Int} {st : List Int} (h : Dok p st) : isD p st = true := isD_iff.2 ⟨h.hp, by have := h.hl; omega, h.hs⟩
structure Hsz (X : Her) : Prop where
  h1 : X.dg.length ≤ 1048576
  h2 : X.up.length ≤ 1048576
  h3 : ∀ xs ∈ X.up, xs.length ≤ 1048576
def Lh (w : World) (v : Value) (l : List Her) : Prop :=
  ∃ a c, v = .slice a l.length c ∧ (l = [] ∨ ∃ b off, a = some ⟨b, off, none⟩ ∧ ∀ j (h : j < l.length), ∃ d u, w.cell? ⟨b, off + j * 2, none⟩ = some d ∧ w.cell? ⟨b, off + j * 2 + 1, none⟩ = some u ∧ Hv w (.agg #[d, u]) l[j])
theorem Lh.below {w w' : World} {v : Value} {l : List Her} (h : Lh w v l) (hb : Below w.heap.size w w') : Lh w' v l := by
  obtain ⟨a, c, rfl, h⟩ := h
  refine ⟨a, c, rfl, ?_⟩
  rcases h with h | ⟨b, off, ha, h⟩
  · exact .inl h
  · refine .inr ⟨b, off, ha, fun j hj => ?_⟩
    obtain ⟨d, u, h1, h2, h3⟩ := h j hj
    exact ⟨d, u, kept hb h1, kept hb h2, h3.below hb⟩
theorem Lh.get {w : World} {b off : Nat} {l : List Her} (h : ∀ j (h : j < l.length), ∃ d u, w.cell? ⟨b, off + j * 2, none⟩ = some d ∧ w.cell? ⟨b, off + j * 2 + 1, none⟩ = some u ∧ Hv w (.agg #[d, u]) l[j]) {m : Nat} (hm : m < l.length) :
    ∃ d u X, X ∈ l ∧ w.cell? ⟨b, off + m * 2, none⟩ = some d ∧ w.cell? ⟨b, off + m * 2 + 1, none⟩ = some u ∧ Hv w (.agg #[d, u]) X ∧ l.take (m + 1) = l.take m ++ [X] := by
  obtain ⟨d, u, h1, h2, h3⟩ := h m hm
  exact ⟨d, u, l[m], List.getElem_mem hm, h1, h2, h3, List.take_succ_eq_append_getElem hm⟩
theorem Lh.one {w : World} {d u : Value} {X : Her} {b c : Nat} (h : Hv w (.agg #[d, u]) X) (h0 : w.cell? ⟨b, 0, none⟩ = some d) (h1 : w.cell? ⟨b, 1, none⟩ = some u) : Lh w (.slice (some ⟨b, 0, none⟩) 1 c) [X] := by
  refine ⟨_, c, rfl, .inr ⟨b, 0, rfl, fun j hj => ?_⟩⟩
  obtain rfl : j = 0 := by simpa using hj
  exact ⟨d, u, h0, h1, h⟩
theorem Lh.two {w : World} {d u d' u' : Value} {X Y : Her} {b c : Nat} (h : Hv w (.agg #[d, u]) X) (h0 : w.cell? ⟨b, 0, none⟩ = some d) (h1 : w.cell? ⟨b, 1, none⟩ = some u)
    (k : Hv w (.agg #[d', u']) Y) (h2 : w.cell? ⟨b, 2, none⟩ = some d') (h3 : w.cell? ⟨b, 3, none⟩ = some u') : Lh w (.slice (some ⟨b, 0, none⟩) 2 c) [X, Y] := by
  refine ⟨_, c, rfl, .inr ⟨b, 0, rfl, fun j hj => ?_⟩⟩
  simp at hj
  rcases (show j = 0 ∨ j = 1 by omega) with rfl | rfl
  · exact ⟨d, u, h0, h1, h⟩
  · exact ⟨d', u', h2, h3, k⟩
end Go.Proofs.Ytgkceadllcjeoaa
/-
  The reference's checks of hermitian matrices.
-/
namespace Go.Proofs.Ytgkceadllcjeoaa
open Go.RowKit

end Go.Proofs.Ytgkceadllcjeoaa
/-
  A region that draws its order, where at some steps one of two operations may come up: a tree of orders. Plain lemmas over any program.
-/
namespace Go.Proofs.Ytgkceadllcjeoaa
open Go.RowKit

section
variable {P : Program} {ops : Array Oper}
inductive Tr where
  | lin (segs : List (Bool × List (Nat × Nat)))
  | two (i m : Nat) (s : Tr) (j n : Nat) (t : Tr)
def Tr.lenOk : Tr → Nat → Bool
  | .lin segs, k => (flat segs).length == k
  | .two _ _ _ _ _ _, 0 => false
  | .two _ _ s _ _ t, k + 1 => s.lenOk k && t.lenOk k
def Tr.acts : Tr → Nat → Bool
  | .lin segs, i => (flat segs).any fun p => p.1 == i && decide (2 ≤ p.2)
  | .two i _ s j _ t, k => i == k || j == k || s.acts k || t.acts k
def stepA (P : Program) (ops : Array Oper) (w0 : World) (i m : Nat) (K : Act → World → Prop) (a : Act) (w : World) : Prop := match ops[i]? with
  | none => False
  | some o => if Region.wanted o (yielded ops a.tmps) = true then o.wp P a w (fun a' w' => obl m w0 w w' ∧ K a' w') NoQ else obl m w0 w w ∧ K (a.put o.dst undef) w
theorem act_stepK {F i m : Nat} {act : Nat → Bool} {Q : Act → World → Prop} {w0 : World} {L : List (Nat × Nat × World)} {fuel : Nat} {listed : Array Bool} {a : Act} {w : World} {o : Oper} {K : Act → World → Prop}
    (ho : ops[i]? = some o) (ha : act i = true) (hok : actOk ops F i m (bare L) = true) (hinv : Inv w0 L w) (hm : ¬ m < 2)
    (h : if Region.wanted o (yielded ops a.tmps) = true then o.wp P a w (fun a' w' => obl m w0 w w' ∧ K a' w') NoQ else obl m w0 w w ∧ K (a.put o.dst undef) w)
    (next : ∀ a' w', Inv w0 (L.map fun l => (l.1, actNext m l.2.1, l.2.2)) w' → K a' w' →
      wpAnyN P .any ops (NormQ Q) act (needN ops F (L.map fun l => (l.1, actNext m l.2.1, l.2.2))) fuel (listed.setIfInBounds i true) a' w') :
    wpOp P ops (NormQ Q) i (fun a' w' => (if act i = true then needN ops F L i w' else w' = w) ∧ wpAnyN P .any ops (NormQ Q) act (needN ops F L) fuel (listed.setIfInBounds i true) a' w') a w := by
  have same : ∀ (fuel : Nat) (listed : Array Bool) (a : Act) (w : World), wpAnyN P .any ops (NormQ Q) act (needN ops F (L.map fun l => (l.1, actNext m l.2.1, l.2.2))) fuel listed a w → wpAnyN P .any ops (NormQ Q) act (needN ops F L) fuel listed a w := by
    have e : needN ops F (L.map fun l => (l.1, actNext m l.2.1, l.2.2)) = needN ops F L := by
      funext j w'
      refine propext ⟨fun h l hl hn => h (l.1, actNext m l.2.1, l.2.2) (List.mem_map.2 ⟨l, hl, rfl⟩) hn, fun h l hl hn => ?_⟩
      obtain ⟨q, hq, rfl⟩ := List.mem_map.1 hl
      exact h q hq hn
    rw [e]
    exact fun _ _ _ _ h => h
  have step : ∀ a' w', obl m w0 w w' ∧ K a' w' → (if act i = true then needN ops F L i w' else w' = w) ∧ wpAnyN P .any ops (NormQ Q) act (needN ops F L) fuel (listed.setIfInBounds i true) a' w' := fun a' w' h' => by
    obtain ⟨h1, h2⟩ := act_need hok hinv (by omega) h'.1
    rw [if_pos ha]
    exact ⟨h1, same _ _ _ _ (next a' w' h2 h'.2)⟩
  unfold wpOp
  simp only [ho]
  split at h
  · rw [if_pos (by assumption)]
    exact .inl (Oper.wp_mono step (wp_noQ h))
  · rename_i hnw
    rw [if_neg hnw]
    have h2 := step _ _ h
    simpa using h2
theorem step_of {w0 : World} {i m : Nat} {K : Act → World → Prop} {a : Act} {w : World} (hi : (ops[i]?).isSome = true) (h : wpList P ops (NormQ fun a' w' => obl m w0 w w' ∧ K a' w') (segL ops [(i, m)]) a w) : stepA P ops w0 i m K a w := by
  obtain ⟨o, ho⟩ := Option.isSome_iff_exists.1 hi
  unfold stepA
  simp only [ho]
  rw [segL_cons ho] at h
  have h2 := wpList_norm h
  split at h2
  · rw [if_pos (by assumption)]
    exact Oper.wp_mono (fun a1 w1 h1 => h1) (wp_normQ h2)
  · rename_i hn
    rw [if_neg hn]
    exact h2
end
end Go.Proofs.Ytgkceadllcjeoaa
/-
  The laws' helpers over doublings and hermitian matrices: sizes, copies, comparison.
-/
namespace Go.Proofs.Ytgkceadllcjeoaa
open Go.RowKit

def Rs (w : World) (v : Value) (xss : List (List Int)) : Prop :=
  ∃ a c, v = .slice a xss.length c ∧ (xss = [] ∨ ∃ b off, a = some ⟨b, off, none⟩ ∧ ∀ j (h : j < xss.length), ∃ u, w.cell? ⟨b, off + j, none⟩ = some u ∧ Sl w u xss[j])
theorem Rs.below {w w' : World} {v : Value} {xss : List (List Int)} (h : Rs w v xss) (hb : Below w.heap.size w w') : Rs w' v xss := by
  obtain ⟨a, c, rfl, h⟩ := h
  refine ⟨a, c, rfl, ?_⟩
  rcases h with h | ⟨b, off, ha, h⟩
  · exact .inl h
  · refine .inr ⟨b, off, ha, fun j hj => ?_⟩
    obtain ⟨u, h1, h2⟩ := h j hj
    exact ⟨u, kept hb h1, h2.below hb⟩
theorem Re.rs {w : World} {v : Value} {xss : List (List Int)} (h : Re w v xss) : Rs w v xss := by
  obtain ⟨a, c, rfl, _, _, h⟩ := h
  refine ⟨a, c, rfl, ?_⟩
  rcases h with h | ⟨b, off, ha, h⟩
  · exact .inl h
  · refine .inr ⟨b, off, ha, fun j hj => ?_⟩
    obtain ⟨u, h1, h2⟩ := h j hj
    exact ⟨u, h1, h2.sl⟩
theorem Rs.get {w : World} {b off : Nat} {xss : List (List Int)} (h : ∀ j (h : j < xss.length), ∃ u, w.cell? ⟨b, off + j, none⟩ = some u ∧ Sl w u xss[j]) {m : Nat} (hm : m < xss.length) :
    ∃ a c xs, xs ∈ xss ∧ w.cell? ⟨b, off + m, none⟩ = some (.slice a xs.length c) ∧ Sl w (.slice a xs.length c) xs ∧ xss.take (m + 1) = xss.take m ++ [xs] ∧ xss.drop m = xs :: xss.drop (m + 1) := by
  obtain ⟨u, h1, a, c, rfl, h2⟩ := h m hm
  exact ⟨a, c, xss[m], List.getElem_mem hm, h1, ⟨a, c, rfl, h2⟩, List.take_succ_eq_append_getElem hm, List.drop_eq_getElem_cons hm⟩
def Hr (w : World) (v : Value) (X : Her) : Prop := ∃ d u, v = .agg #[d, u] ∧ Sl w d X.dg ∧ Rs w u X.up
theorem Hr.below {w w' : World} {v : Value} {X : Her} (h : Hr w v X) (hb : Below w.heap.size w w') : Hr w' v X := by
  obtain ⟨d, u, rfl, h1, h2⟩ := h
  exact ⟨d, u, rfl, h1.below hb, h2.below hb⟩
theorem Hv.hr {w : World} {v : Value} {X : Her} (h : Hv w v X) : Hr w v X := by
  obtain ⟨d, u, rfl, h1, h2⟩ := h
  exact ⟨d, u, rfl, h1.sl, h2.rs⟩
/-! ### Sizes -/
/-! ### Copies -/
theorem FrI.other {w : World} {B : Nat} {v : Value} {xs : List Int} (h : FrI w B v xs) {p : Addr} (hp : v.ownBlock ≠ some p.block) (u : Value) : FrI (w.setCell p u) B v xs := by
  obtain ⟨g, cap, rfl, h⟩ := h
  exact ⟨g, cap, rfl, h.other (fun e => hp (by rw [← e]; rfl)) u⟩
theorem FrR.other {w : World} {B : Nat} {v : Value} {us : List Value} {xss : List (List Int)} (h : FrR w B v us xss) {p : Addr} (hp : v.ownBlock ≠ some p.block) (hq : ∀ z ∈ us, z.ownBlock ≠ some p.block) (u : Value) : FrR (w.setCell p u) B v us xss := by
  obtain ⟨g0, cap0, e0, hB, hs, _⟩ := h.lt
  obtain ⟨g, cap, rfl, h1, h2, h3, h4⟩ := h
  cases e0
  exact ⟨g0, cap0, rfl, ownsRow_of h1 (Below.heap_setCell _ _ _ _ (fun e => hp (by rw [← e]; rfl))) hB, h2, fun j a b => (h3 j a b).other (hq _ (List.getElem_mem a)) u, h4⟩
end Go.Proofs.Ytgkceadllcjeoaa
/-
  The laws' helpers over doublings and hermitian matrices: comparison of what is equal.
-/
namespace Go.Proofs.Ytgkceadllcjeoaa
open Go.RowKit

end Go.Proofs.Ytgkceadllcjeoaa
/-
  The laws' helpers that compare rows, and rows of rows, on what is equal.
-/
namespace Go.Proofs.Ytgkceadllcjeoaa
open Go.RowKit

theorem like_c0 {x y : Value} {xs ys : List Int} {w : World} (hx : Sl w x xs) (hy : Sl w y ys) (hm : xs.length ≤ 1048576) :
    Calls Try.prog 17 #[x, y] w fun e w' => e = .returned (.bool (decide (xs = ys))) ∧ Below w.heap.size w w' := by
  by_cases hl : ys.length = xs.length
  · rcases two_rows hx hy hl with ⟨rfl, rfl, a, c, a2, c2, rfl, rfl⟩ | ⟨b, off, c, b2, off2, c2, rfl, rfl, hx, hy⟩
    · go_enter Try.func17, Try.ntmps17
      go_wp2
      refine wp_loop_rounds 1 ?_; rw [rounds_succ]
      go_wp2
      go_ret
      exact ⟨rfl, Below.refl _ _⟩
    have HL := Lib.hid hl; clear hl
    go_enter Try.func17, Try.ntmps17
    go_wp2
    go_loopw [5] (fun i wr => ∃ m : Nat, m ≤ xs.length ∧ i = .int .i64 m ∧ xs.take m = ys.take m ∧ Below w.heap.size w wr)
      (fun i _ => xs.length - (intOf i).toNat)
    case atStart => exact ⟨0, Nat.zero_le _, rfl, rfl, Below.refl _ _⟩
    case round =>
      obtain ⟨m, hm', rfl, heq, hb⟩ := hrel
      by_cases hlt : m < xs.length
      · obtain ⟨u, hxm, hcx, htx⟩ := (hx.below hb).get hlt
        have hlt2 : m < ys.length := by rw [HL.out]; exact hlt
        obtain ⟨z, hym, hcy, hty⟩ := (hy.below hb).get hlt2
        have H := Lib.hid (And.intro htx (And.intro hty heq)); clear htx hty heq
        by_cases huz : u = z
        · subst huz
          go_wp2
          refine region_flow [(false, [(0, 0), (1, 0), (2, 0), (3, 1), (4, 0), (5, 0), (6, 0), (7, 1), (8, 0)])] (by kernel_rfl) ?_
          refine norm_K fun K hK => ?_
          change wpList _ _ _ [_, _, _, _, _, _, _, _, _] _ _
          go_wp2
          first | (refine hK _ _ ⟨rfl, ?_⟩; clear hK K) | refine ⟨rfl, ?_⟩
          go_wp2
          go_roundw
          case rel => exact ⟨m + 1, by omega, by go_num, by rw [H.out.1, H.out.2.1, H.out.2.2], hb.drew⟩
          case measure => simp [intOf]; omega
        · have hd : decide (xs = ys) = false := by
            refine decide_eq_false fun he => huz ?_
            have h1 : xs.take (m + 1) = ys.take (m + 1) := by rw [he]
            rw [H.out.1, H.out.2.1, H.out.2.2] at h1
            have h2 := congrArg List.getLast? (List.append_cancel_left h1)
            simpa using h2
          have hne : (u != z) = true := by simpa using huz
          have HD := Lib.hid hd; clear hd
          go_wp2
          refine region_flow [(false, [(0, 0), (1, 0), (2, 0), (3, 1), (4, 0), (5, 0), (6, 0), (7, 1), (8, 0)])] (by kernel_rfl) ?_
          refine norm_K fun K hK => ?_
          change wpList _ _ _ [_, _, _, _, _, _, _, _, _] _ _
          go_wp2
          first | (refine hK _ _ ⟨rfl, ?_⟩; clear hK K) | refine ⟨rfl, ?_⟩
          go_wp2
          go_ret
          exact ⟨by rw [HD.out]; rfl, hb.drew⟩
      · obtain rfl : m = xs.length := by omega
        rw [take_all (Nat.le_refl _), take_all (by rw [HL.out]; exact Nat.le_refl _)] at heq
        have hd : decide (xs = ys) = true := decide_eq_true heq
        have HD := Lib.hid hd; clear hd heq
        go_wp2
        go_ret
        exact ⟨by rw [HD.out]; rfl, hb⟩
  · obtain ⟨a, c, rfl, _⟩ := hx
    obtain ⟨a2, c2, rfl, _⟩ := hy
    have hd : decide (xs = ys) = false := decide_eq_false fun he => hl (by rw [he])
    have hne : ((xs.length : Int) != (ys.length : Int)) = true := by rw [bne_iff_ne]; omega
    have HD := Lib.hid hd; clear hd
    go_enter Try.func17, Try.ntmps17
    go_wp2
    go_ret
    exact ⟨by rw [HD.out]; rfl, Below.refl _ _⟩
theorem like_c {x y : Value} {xs : List Int} {w : World} (hx : Sl w x xs) (hy : Sl w y xs) (hm : xs.length ≤ 1048576) :
    Calls Try.prog 17 #[x, y] w fun e w' => e = .returned (.bool true) ∧ Below w.heap.size w w' := by
  have h := like_c0 hx hy hm
  rwa [decide_eq_true rfl] at h
theorem same9_c {x y : Value} {xss : List (List Int)} {w : World} (hx : Rs w x xss) (hy : Rs w y xss) (hm : xss.length ≤ 1048576) (hr : ∀ xs ∈ xss, xs.length ≤ 1048576) :
    Calls Try.prog 9 #[x, y] w fun e w' => e = .returned (.bool true) ∧ Below w.heap.size w w' := by
  obtain ⟨a, c, rfl, hx⟩ := hx
  obtain ⟨a2, c2, rfl, hy⟩ := hy
  rcases hx with rfl | ⟨b, off, rfl, hx⟩
  · go_enter Try.func9, Try.ntmps9
    go_wp2
    refine wp_loop_rounds 1 ?_; rw [rounds_succ]
    go_wp2
    go_ret
    exact ⟨rfl, Below.refl _ _⟩
  rcases hy with rfl | ⟨b2, off2, rfl, hy⟩
  · go_enter Try.func9, Try.ntmps9
    go_wp2
    refine wp_loop_rounds 1 ?_; rw [rounds_succ]
    go_wp2
    go_ret
    exact ⟨rfl, Below.refl _ _⟩
  go_enter Try.func9, Try.ntmps9
  go_wp2
  go_loopw [5] (fun i wr => ∃ m : Nat, m ≤ xss.length ∧ i = .int .i64 m ∧ Below w.heap.size w wr)
    (fun i _ => xss.length - (intOf i).toNat)
  case atStart => exact ⟨0, Nat.zero_le _, rfl, Below.refl _ _⟩
  case round =>
    obtain ⟨m, hm', rfl, hb⟩ := hrel
    by_cases hlt : m < xss.length
    · obtain ⟨u, hc, hs⟩ := hx m hlt
      obtain ⟨u2, hc2, hs2⟩ := hy m hlt
      have hc := kept hb hc
      have hs := hs.below hb
      have hc2 := kept hb hc2
      have hs2 := hs2.below hb
      have hxl := hr _ (List.getElem_mem hlt)
      obtain ⟨q, hq⟩ : ∃ q, q = xss[m] := ⟨_, rfl⟩
      rw [← hq] at hs hs2 hxl
      clear hq
      go_wp2
      refine region_flow [(false, [(0, 0), (1, 0), (2, 0), (3, 1), (4, 0), (5, 0), (6, 0), (7, 1), (8, 4), (9, 0)])] (by kernel_rfl) ?_
      refine norm_K fun K hK => ?_
      change wpList _ _ _ [_, _, _, _, _, _, _, _, _, _] _ _
      go_wp2_with fail
      refine (like_c (hs.below (by repeat (first | exact .refl _ _ | apply bwD | apply bwA | (refine bwS ?_ (by first | omega | simp <;> omega) _) | refine bwC ?_ (by assumption)))) (hs2.below (by repeat (first | exact .refl _ _ | apply bwD | apply bwA | (refine bwS ?_ (by first | omega | simp <;> omega) _) | refine bwC ?_ (by assumption)))) hxl).mono ?_; rintro e w2 ⟨rfl, hb2⟩
      go_wp2_with fail
      first | (refine hK _ _ ⟨rfl, ?_⟩; clear hK K) | refine ⟨rfl, ?_⟩
      go_wp2
      go_roundw
      case rel => exact ⟨m + 1, by omega, by go_num, bwC hb.drew hb2⟩
      case measure => simp [intOf]; omega
    · obtain rfl : m = xss.length := by omega
      go_wp2
      go_ret
      exact ⟨rfl, hb⟩
end Go.Proofs.Ytgkceadllcjeoaa
