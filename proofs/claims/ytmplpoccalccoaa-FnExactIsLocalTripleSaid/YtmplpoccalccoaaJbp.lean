/- Texts joined for a claim: LawT, LawM. -/
import Derived.Test.YtmplpoccalccoaaJbn
import Derived.Test.YtmplpoccalccoaaLawE
import Derived.Test.YtmplpoccalccoaaHcE
/-
  What the laws with a matrix as result need beside: results kept over a store into an older block.
-/
namespace Go.Proofs.Ytmplpoccalccoaa
open Go.RowKit

theorem OwH.set_ {w : World} {B : Nat} {v : Value} {X : Her} (h : OwH w B v X) {p : Addr} (hp : p.block < B) (u : Value) : OwH (w.setCell p u) B v X := by
  rcases h with h | h
  · exact .inl h
  · exact .inr (h.set_ hp u)
theorem OwH.hr {w : World} {B : Nat} {v : Value} {X : Her} (h : OwH w B v X) : Hr w v X := h.hv.hr
theorem Hs.none : Hs ⟨[], []⟩ := ⟨⟨by simp, by simp, fun xs hx => by simp at hx⟩, by simp [sumL]⟩
end Go.Proofs.Ytmplpoccalccoaa
/-
  The laws' helpers over rows of rows that are parameters.
-/
namespace Go.Proofs.Ytmplpoccalccoaa
open Go.RowKit

structure Mbig (M : List (List Int)) : Prop where
  h2 : M.length ≤ 9223372036854775807
  h3 : ∀ xs ∈ M, xs.length ≤ 9223372036854775807
structure Msz (M : List (List Int)) : Prop where
  h2 : M.length ≤ 1048576
  h3 : ∀ xs ∈ M, xs.length ≤ 1048576
  sum : sumL M ≤ 10000000
theorem szM_ms {M : List (List Int)} {left : Int} (h0 : 0 ≤ left) (h1 : left ≤ 1048576) (h : ¬ szR left M < 0) : Msz M := by
  unfold szR at h
  split at h
  · exact absurd (by decide) h
  · rename_i h2
    have h3 := szGo_sum (by omega) h
    exact ⟨by omega, szGo_pos (by omega) (by omega) h, by omega⟩
theorem FrR.rs {w : World} {B : Nat} {v : Value} {us : List Value} {xss : List (List Int)} (h : FrR w B v us xss) : Rs w v xss := h.re.rs
theorem RgR.chg {w w' : World} {lo hi lo' hi' : Nat} {v : Value} {us : List Value} {xss : List (List Int)} (h : RgR w lo' hi' v us xss) (hc : Chg lo hi w w') (hr : hi ≤ lo') : RgR w' lo' hi' v us xss := by
  obtain ⟨⟨k1, k2, k3, k4⟩, h5⟩ := h
  have far : ∀ {v : Value} {xs : List Int}, OwI w lo' v xs → OwI w' lo' v xs := fun ho => OwI.chg hc ho (fun g hg => .inr (Nat.le_trans hr (ho.blk g hg).1))
  refine ⟨⟨k1, fun j a b => far (k2 j a b), k3, k4⟩, ?_⟩
  rcases h5 with h5 | ⟨g, cap, rfl, h6, h7, h8⟩
  · exact .inl h5
  · exact .inr ⟨g, cap, rfl, ⟨h6.1, Nat.lt_of_lt_of_le h6.2 hc.size⟩, fun j a => hc.cell (h7 j a) (.inr (by omega)), h8⟩
theorem szm_c {x : Value} {M : List (List Int)} {left : Int} {w : World} (hx : Rs w x M) (hb : Mbig M) (h0 : 0 ≤ left) (h1 : left ≤ 1048576) :
    Calls Try.prog 18 #[x, .int .i64 left] w fun e w' => e = .returned (.int .i64 (szR left M)) ∧ Below w.heap.size w w' :=
  (szss_c hx h0 h1 hb.h2 hb.h3).mono fun e w' ⟨h, h2⟩ => ⟨h, by subst h2; exact Below.refl _ _⟩
theorem eqm_c {x y : Value} {M : List (List Int)} {w : World} (hx : Rs w x M) (hy : Rs w y M) (hm : Msz M) :
    Calls Try.prog 25 #[x, y] w fun e w' => e = .returned (.bool true) ∧ Below w.heap.size w w' := eqss_c hx hy hm.h2 hm.h3
end Go.Proofs.Ytmplpoccalccoaa
