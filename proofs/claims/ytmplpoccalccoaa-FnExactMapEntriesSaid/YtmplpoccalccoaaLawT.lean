/-
  What the laws with a matrix as result need beside: results kept over a store into an older block.
-/
import Derived.Test.YtmplpoccalccoaaMarkJ
import Derived.Test.YtmplpoccalccoaaLawE
import Derived.Test.YtmplpoccalccoaaJav
namespace Go.Proofs.Ytmplpoccalccoaa
open Go.RowKit

theorem OwH.set_ {w : World} {B : Nat} {v : Value} {X : Her} (h : OwH w B v X) {p : Addr} (hp : p.block < B) (u : Value) : OwH (w.setCell p u) B v X := by
  rcases h with h | h
  · exact .inl h
  · exact .inr (h.set_ hp u)
theorem OwH.hr {w : World} {B : Nat} {v : Value} {X : Her} (h : OwH w B v X) : Hr w v X := h.hv.hr
theorem Hs.none : Hs ⟨[], []⟩ := ⟨⟨by simp, by simp, fun xs hx => by simp at hx⟩, by simp [sumL]⟩
theorem isH_hs {p : Int} {st : List Int} {X : Her} (hd : Dok p st) (h : isH p (sz st.length) X = true) : Hs X := by
  have hs := sz_le hd
  obtain ⟨a, b, c, u, v, t, rfl, _, _, _, _, _, _, h1, h2, h3⟩ := isH_op h
  have e1 := h1.1; have e2 := h2.1; have e3 := h3.1
  refine ⟨⟨by simp, by simp, fun xs hx => ?_⟩, ?_⟩
  · simp only [List.mem_cons, List.not_mem_nil, or_false] at hx
    rcases hx with rfl | rfl | rfl <;> omega
  · simp only [sumL]; omega
end Go.Proofs.Ytmplpoccalccoaa
