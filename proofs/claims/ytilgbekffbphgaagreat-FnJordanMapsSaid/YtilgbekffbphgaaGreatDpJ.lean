import Derived.Test.YtilgbekffbphgaaGreatDpI
namespace Go.Proofs.YtilgbekffbphgaaGreat
open Go.RowKit
theorem chg_set_ {lo hi b k : Nat} {w w' : World} (h : Chg lo hi w w') (h1 : lo <= b) (h2 : b < hi) (u : Value) : Chg lo hi w (w'.setCell ⟨b, k, none⟩ u) :=
 h.trans ((Chg.set w' ⟨b, k, none⟩ u).wide (lo' := lo) (hi' := hi) h1 h2)
theorem ElR.shape_ {w : World} {B : Nat} {v : Value} {xs : List Int} (h : ElR w B v xs) : ∃ a c, v = .slice a xs.length c := by
 obtain ⟨a, c, rfl, _⟩ := h.1.op
 exact ⟨_, _, rfl⟩
theorem ReR.shape {w : World} {B : Nat} {v : Value} {xss : List (List Int)} (h : ReR w B v xss) : ∃ a c, v = .slice a xss.length c := by
 obtain ⟨a, c, rfl, _⟩ := h
 exact ⟨_, _, rfl⟩
theorem ReR.chg_ {w w' : World} {B lo hi : Nat} {v : Value} {xss : List (List Int)} (h : ReR w B v xss) (hc : Chg lo hi w w') (hr : hi <= B) : ReR w' B v xss :=
 h.keep hc.size fun b h1 h2 => hc.block b h2 (.inr (by omega))
theorem ReR.below_ {w w' : World} {B : Nat} {v : Value} {xss : List (List Int)} (h : ReR w B v xss) (hb : Below w.heap.size w w') : ReR w' B v xss := h.keep hb.size fun b _ h2 => hb.block b h2
theorem ReR.nil_ {w : World} {B c : Nat} {a : Option Addr} (hc : c <= 9223372036854775807) : ReR w B (.slice a 0 c) [] := ⟨a, c, rfl, Nat.zero_le _, hc, .inl rfl⟩
theorem ReR.cap {w : World} {B n c : Nat} {a : Option Addr} {xss : List (List Int)} (h : ReR w B (.slice a n c) xss) : n = xss.length /\ xss.length <= c /\ c <= 9223372036854775807 := by
 obtain ⟨_, _, e, h1, h2, _⟩ := h
 cases e
 exact ⟨rfl, h1, h2⟩
theorem ReR.tail {w : World} {B c n : Nat} {b off : Nat} {x : List Int} {xss : List (List Int)} (h : ReR w B (.slice (some ⟨b, off, none⟩) n c) (x :: xss)) : ReR w B (.slice (some ⟨b, off + 1, none⟩) (n - 1) (c - 1)) xss := by
 obtain ⟨a, c', e, h1, h2, h3⟩ := h
 cases e
 rw [List.length_cons] at h1
 refine ⟨some ⟨b, off + 1, none⟩, c - 1, by simp, by omega, by omega, ?_⟩
 rcases h3 with h3 | ⟨b', off', e, hB, h3⟩
 ·cases h3
 ·cases e
  refine .inr ⟨b, off + 1, rfl, hB, fun j hj => ?_⟩
  obtain ⟨u, hu, he⟩ := h3 (j + 1) (by rw [List.length_cons]; omega)
  exact ⟨u, by rw [show off + 1 + j = off + (j + 1) by omega]; exact hu, he⟩
end Go.Proofs.YtilgbekffbphgaaGreat
