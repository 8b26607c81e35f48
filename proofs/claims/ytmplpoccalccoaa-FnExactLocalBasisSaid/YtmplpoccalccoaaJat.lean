/- Texts joined for a claim: LawE, HcC, HcE, LawT, LawM. -/
import Derived.Test.YtmplpoccalccoaaLawH
import Derived.Test.YtmplpoccalccoaaJap
import Derived.Lib.AppendZeros
import Derived.Test.YtmplpoccalccoaaJas
/-
  The laws' helpers over doublings and hermitian matrices: comparison of what is equal.
-/
namespace Go.Proofs.Ytmplpoccalccoaa
open Go.RowKit

theorem eqs_c {x y : Value} {xs : List Int} {w : World} (hx : Sl w x xs) (hy : Sl w y xs) (hm : xs.length ≤ 1048576) :
    Calls Try.prog 49 #[x, y] w fun e w' => e = .returned (.bool true) ∧ Below w.heap.size w w' := by
  have h := eq_c hx hy hm
  rwa [decide_eq_true rfl] at h
theorem eqss_c {x y : Value} {xss : List (List Int)} {w : World} (hx : Rs w x xss) (hy : Rs w y xss) (hm : xss.length ≤ 1048576) (hr : ∀ xs ∈ xss, xs.length ≤ 1048576) :
    Calls Try.prog 25 #[x, y] w fun e w' => e = .returned (.bool true) ∧ Below w.heap.size w w' := by
  obtain ⟨a, c, rfl, hx⟩ := hx
  obtain ⟨a2, c2, rfl, hy⟩ := hy
  rcases hx with rfl | ⟨b, off, rfl, hx⟩
  · go_enter Try.func25, Try.ntmps25
    go_wp2
    refine wp_loop_rounds 1 ?_; rw [rounds_succ]
    go_wp2
    go_ret
    exact ⟨rfl, Below.refl _ _⟩
  rcases hy with rfl | ⟨b2, off2, rfl, hy⟩
  · go_enter Try.func25, Try.ntmps25
    go_wp2
    refine wp_loop_rounds 1 ?_; rw [rounds_succ]
    go_wp2
    go_ret
    exact ⟨rfl, Below.refl _ _⟩
  go_enter Try.func25, Try.ntmps25
  go_wp2
  go_loopw [5] (fun i wr => ∃ m : Nat, m ≤ xss.length ∧ i = .int .i64 m ∧ Below w.heap.size w wr)
    (fun i _ => xss.length - (intOf i).toNat)
  case atStart => exact ⟨0, Nat.zero_le _, rfl, Below.refl _ _⟩
  case round =>
    obtain ⟨m, hm', rfl, hb⟩ := hrel
    by_cases hlt : m < xss.length
    · obtain ⟨u, hc, hs⟩ := hx m hlt
      obtain ⟨u2, hc2, hs2⟩ := hy m hlt
      have hc := kept hb hc
      have hs := hs.below hb
      have hc2 := kept hb hc2
      have hs2 := hs2.below hb
      have hxl := hr _ (List.getElem_mem hlt)
      obtain ⟨q, hq⟩ : ∃ q, q = xss[m] := ⟨_, rfl⟩
      rw [← hq] at hs hs2 hxl
      clear hq
      go_wp2
      refine region_flow [(false, [(0, 0), (1, 0), (2, 0), (3, 1), (4, 0), (5, 0), (6, 0), (7, 1), (8, 4), (9, 0)])] (by kernel_rfl) ?_
      refine norm_K fun K hK => ?_
      change wpList _ _ _ [_, _, _, _, _, _, _, _, _, _] _ _
      go_wp2_with fail
      refine (eqs_c (hs.below (by repeat (first | exact Below.refl _ _ | apply blw_drew | apply blw_alloc | (refine blw_set ?_ (by first | omega | (simp; done) | (simp; omega)) _) | refine below_chain ?_ (by assumption)))) (hs2.below (by repeat (first | exact Below.refl _ _ | apply blw_drew | apply blw_alloc | (refine blw_set ?_ (by first | omega | (simp; done) | (simp; omega)) _) | refine below_chain ?_ (by assumption)))) hxl).mono ?_; rintro e w2 ⟨rfl, hb2⟩
      go_wp2_with fail
      first | (refine hK _ _ ⟨rfl, ?_⟩; clear hK K) | refine ⟨rfl, ?_⟩
      go_wp2
      go_roundw
      case rel => exact ⟨m + 1, by omega, by go_num, below_chain hb.drew hb2⟩
      case measure => simp [intOf]; omega
    · obtain rfl : m = xss.length := by omega
      go_wp2
      go_ret
      exact ⟨rfl, hb⟩
theorem eqd_c {p : Int} {x y : Value} {xs : List Int} {w : World} (hx : Sl w x xs) (hy : Sl w y xs) (hm : xs.length ≤ 1048576) :
    Calls Try.prog 14 #[.agg #[.int .i64 p, x], .agg #[.int .i64 p, y]] w fun e w' => e = .returned (.bool true) ∧ Below w.heap.size w w' := by
  obtain ⟨a, c, rfl, _⟩ := id hx
  obtain ⟨a2, c2, rfl, _⟩ := id hy
  go_enter Try.func14, Try.ntmps14
  have hb0 : Below w.heap.size w ((w.alloc (.cells #[.int .i64 p, .slice a xs.length c] 32)).alloc (.cells #[.int .i64 p, .slice a2 xs.length c2] 32)) := (by repeat (first | exact Below.refl _ _ | apply blw_drew | apply blw_alloc | (refine blw_set ?_ (by first | omega | (simp; done) | (simp; omega)) _) | refine below_chain ?_ (by assumption)))
  have hx := hx.below hb0; have hy := hy.below hb0
  have d0 : ((w.alloc (.cells #[.int .i64 p, .slice a xs.length c] 32)).alloc (.cells #[.int .i64 p, .slice a2 xs.length c2] 32)).cell? ⟨w.heap.size, 0, none⟩ = some (.int .i64 p) := by simp [go_sem]
  have d1 : ((w.alloc (.cells #[.int .i64 p, .slice a xs.length c] 32)).alloc (.cells #[.int .i64 p, .slice a2 xs.length c2] 32)).cell? ⟨w.heap.size, 1, none⟩ = some (.slice a xs.length c) := by simp [go_sem]
  have e0 : ((w.alloc (.cells #[.int .i64 p, .slice a xs.length c] 32)).alloc (.cells #[.int .i64 p, .slice a2 xs.length c2] 32)).cell? ⟨w.heap.size + 1, 0, none⟩ = some (.int .i64 p) := by simp [go_sem]
  have e1 : ((w.alloc (.cells #[.int .i64 p, .slice a xs.length c] 32)).alloc (.cells #[.int .i64 p, .slice a2 xs.length c2] 32)).cell? ⟨w.heap.size + 1, 1, none⟩ = some (.slice a2 xs.length c2) := by simp [go_sem]
  go_wp2_with fail
  refine (eqs_c hx hy hm).mono ?_; rintro e w1 ⟨rfl, hb1⟩
  have hx := hx.below hb1; have hy := hy.below hb1; have d0 := kept hb1 d0; have d1 := kept hb1 d1; have e0 := kept hb1 e0; have e1 := kept hb1 e1
  go_wp2_with fail
  go_ret
  exact ⟨rfl, (by repeat (first | exact Below.refl _ _ | apply blw_drew | apply blw_alloc | (refine blw_set ?_ (by first | omega | (simp; done) | (simp; omega)) _) | refine below_chain ?_ (by assumption)))⟩
end Go.Proofs.Ytmplpoccalccoaa
/-
  Hermitian matrices by their parts; traces and determinants.
-/
namespace Go.Proofs.Ytmplpoccalccoaa
open Go.RowKit

end Go.Proofs.Ytmplpoccalccoaa
/-
  Hermitian matrices out of lists of numbers, and the lists of their numbers: the program's walks.
-/
namespace Go.Proofs.Ytmplpoccalccoaa
open Go.RowKit

theorem FrH.mk_ {w1 w2 : World} {B : Nat} {d u : Value} {us : List Value} {dg : List Int} {up : List (List Int)} (h1 : FrI w1 B d dg) (hb : Below w1.heap.size w1 w2) (h2 : FrR w2 w1.heap.size u us up) (hB : B ≤ w1.heap.size) : FrH w2 B (.agg #[d, u]) ⟨dg, up⟩ := by
  refine ⟨d, u, us, rfl, h1.below hb, h2.more hB, fun z hz e => ?_⟩
  obtain ⟨g, hg, hg1, _⟩ : ∃ g, z.ownBlock = some g ∧ w1.heap.size ≤ g ∧ g < w2.heap.size := by
    obtain ⟨_, _, _, _, h4, h5, h6⟩ := h2
    exact RowsA.mem ⟨h4, h5, h6⟩ hz
  obtain ⟨gd, hgd, _, hgd2⟩ := h1.blk
  rw [hg, hgd] at e
  cases e
  omega
theorem FrI.set_ {w : World} {B : Nat} {v : Value} {xs : List Int} (h : FrI w B v xs) {p : Addr} (hp : p.block < B) (u : Value) : FrI (w.setCell p u) B v xs := by
  obtain ⟨g, cap, rfl, h⟩ := h
  exact ⟨g, cap, rfl, h.other (by have := h.lt.1; omega) u⟩
theorem FrR.set_ {w : World} {B : Nat} {v : Value} {us : List Value} {xss : List (List Int)} (h : FrR w B v us xss) {p : Addr} (hp : p.block < B) (u : Value) : FrR (w.setCell p u) B v us xss := by
  obtain ⟨g0, cap0, e0, hB, hs, _⟩ := h.lt
  obtain ⟨g, cap, rfl, h1, h2, h3, h4⟩ := h
  cases e0
  exact ⟨g0, cap0, rfl, ownsRow_of h1 (Below.heap_setCell _ _ _ _ (by omega)) hB, h2, fun j a b => (h3 j a b).set_ hp u, h4⟩
theorem FrH.set_ {w : World} {B : Nat} {v : Value} {X : Her} (h : FrH w B v X) {p : Addr} (hp : p.block < B) (u : Value) : FrH (w.setCell p u) B v X := by
  obtain ⟨d, u', us, rfl, h1, h2, h3⟩ := h
  exact ⟨d, u', us, rfl, h1.set_ hp u, h2.set_ hp u, h3⟩
end Go.Proofs.Ytmplpoccalccoaa
/-
  What the laws with a matrix as result need beside: results kept over a store into an older block.
-/
namespace Go.Proofs.Ytmplpoccalccoaa
open Go.RowKit

theorem OwH.set_ {w : World} {B : Nat} {v : Value} {X : Her} (h : OwH w B v X) {p : Addr} (hp : p.block < B) (u : Value) : OwH (w.setCell p u) B v X := by
  rcases h with h | h
  · exact .inl h
  · exact .inr (h.set_ hp u)
theorem OwH.hr {w : World} {B : Nat} {v : Value} {X : Her} (h : OwH w B v X) : Hr w v X := h.hv.hr
theorem Hs.none : Hs ⟨[], []⟩ := ⟨⟨by simp, by simp, fun xs hx => by simp at hx⟩, by simp [sumL]⟩
end Go.Proofs.Ytmplpoccalccoaa
/-
  The laws' helpers over rows of rows that are parameters.
-/
namespace Go.Proofs.Ytmplpoccalccoaa
open Go.RowKit

structure Msz (M : List (List Int)) : Prop where
  h2 : M.length ≤ 1048576
  h3 : ∀ xs ∈ M, xs.length ≤ 1048576
  sum : sumL M ≤ 10000000
theorem FrR.rs {w : World} {B : Nat} {v : Value} {us : List Value} {xss : List (List Int)} (h : FrR w B v us xss) : Rs w v xss := h.re.rs
theorem RgR.chg {w w' : World} {lo hi lo' hi' : Nat} {v : Value} {us : List Value} {xss : List (List Int)} (h : RgR w lo' hi' v us xss) (hc : Chg lo hi w w') (hr : hi ≤ lo') : RgR w' lo' hi' v us xss := by
  obtain ⟨⟨k1, k2, k3, k4⟩, h5⟩ := h
  have far : ∀ {v : Value} {xs : List Int}, OwI w lo' v xs → OwI w' lo' v xs := fun ho => OwI.chg hc ho (fun g hg => .inr (Nat.le_trans hr (ho.blk g hg).1))
  refine ⟨⟨k1, fun j a b => far (k2 j a b), k3, k4⟩, ?_⟩
  rcases h5 with h5 | ⟨g, cap, rfl, h6, h7, h8⟩
  · exact .inl h5
  · exact .inr ⟨g, cap, rfl, ⟨h6.1, Nat.lt_of_lt_of_le h6.2 hc.size⟩, fun j a => hc.cell (h7 j a) (.inr (by omega)), h8⟩
theorem eqm_c {x y : Value} {M : List (List Int)} {w : World} (hx : Rs w x M) (hy : Rs w y M) (hm : Msz M) :
    Calls Try.prog 25 #[x, y] w fun e w' => e = .returned (.bool true) ∧ Below w.heap.size w w' := eqss_c hx hy hm.h2 hm.h3
end Go.Proofs.Ytmplpoccalccoaa
