/-
  Draws of a doubling and points of its plane.
-/
import Derived.Test.YtgcelfnjijhmkaaGreatDpA
import Derived.Test.YtgcelfnjijhmkaaGreatJbc
import Derived.Test.YtgcelfnjijhmkaaGreatHdA
namespace Go.Proofs.YtgcelfnjijhmkaaGreat
open Go.RowKit

theorem chg_set {lo hi b k : Nat} {w w' : World} (h : Chg lo hi w w') (h1 : lo ≤ b) (h2 : b < hi) (u : Value) : Chg lo hi w (w'.setCell ⟨b, k, none⟩ u) :=
  h.trans ((Chg.set w' ⟨b, k, none⟩ u).wide (lo' := lo) (hi' := hi) h1 h2)
def DrP3 (w : World) (e : Ending) (w' : World) : Prop := ∃ (p : Int) (v x y z : Value) (st : List Int) (X Y Z : Her), e = .returned (.tuple #[.agg #[.int .i64 p, v], x, y, z]) ∧ 0 ≤ p ∧ p ≤ 17 ∧ st.length ≤ 5 ∧ ElR w' w.heap.size v st ∧ HvR w' w.heap.size x X ∧ HvR w' w.heap.size y Y ∧ HvR w' w.heap.size z Z ∧ Hsz X ∧ Hsz Y ∧ Hsz Z ∧ Below w.heap.size w w'
theorem cell4 {w : World} {b i : Nat} {cs : Array Value} {T : TypeId} {x : Value} (h : w.heap[b]? = some (.cells cs T)) (e : cs[i]? = some x) : w.cell? ⟨b, i, none⟩ = some x := by
  unfold World.cell?
  simp [h, e]
theorem smE {p : Int} {n : Nat} {xs : List Int} (h : Ev p n xs) (hp : p ≤ 1000000) : Sm 1000000 xs := fun x hx => by have := h.2 x hx; omega
set_option maxHeartbeats 4000000 in
theorem sl17draw_c {q : Nat} {w : World} (hs : Src w q) :
    Calls Tryz.prog 58 #[.pointer (some ⟨q, 0, none⟩)] w fun e w' => DrD w q 0 17 5 e w' := by
  have hq := hs.lt
  have hbA : Below w.heap.size w (w.alloc (.cells #[.int .i64 0, .slice none 0 0] 26)) := (by repeat (first | exact Below.refl _ _ | apply blw_drew | apply blw_alloc | (refine blw_set ?_ (by first | omega | simp <;> omega) _) | refine below_chain ?_ (by assumption)))
  have hrA : Bd (w.alloc (.cells #[.int .i64 0, .slice none 0 0] 26)) w.heap.size (.int .i64 0) (.slice none 0 0) := heap_alloc_new w _
  have hzA : (w.alloc (.cells #[.int .i64 0, .slice none 0 0] 26)).heap.size = w.heap.size + 1 := by simp
  have hsA := hs.below hbA
  have hcA : Chg q (q + 1) w (w.alloc (.cells #[.int .i64 0, .slice none 0 0] 26)) := Chg.refl.bl hbA
  go_enter Tryz.func58, Tryz.ntmps58
  go_wp2_with fail
  generalize w.alloc (.cells #[.int .i64 0, .slice none 0 0] 26) = W1 at *
  refine (snext_c hsA (by decide) (by decide)).mono ?_; rintro e w2 ⟨x, rfl, hx0, hx1, hs2, hc2, hz2⟩
  have hr := hrA.chg hc2 (.inr (by omega)); have hcw := hcA.trans hc2
  have hx2 : x ≤ 23 := by omega
  have hz : w.heap.size + 1 ≤ w2.heap.size := by omega
  clear hx1 hz2 hzA hc2 hrA hcA hsA
  go_wp2_with fail
  refine (sdrawany_c hs2 (by omega) (by omega)).mono ?_; rintro e w4 ⟨p, v4, st, rfl, hp1, hp2, hl5, ho, hs4, hc4⟩
  have hr := hr.chg hc4 (.inr (by omega)); have hcw := hcw.trans hc4
  clear hc4 hs2
  obtain ⟨av, nv, cv, rfl⟩ := ho.form
  have rc0 := hr.c0; have rc1 := hr.c1; have rf0 := hr.f 0; have rf1 := hr.f 1
  go_wp2_with fail
  refine bodyPost_ret (v := .agg #[.int .i64 p, .slice av nv cv]) (by simp [results, Tryz.results58, go_sem, rc0, rc1]) rfl ?_
  refine ⟨p, _, st, rfl, hp1, hp2, hl5, ?_, ?_, ?_⟩
  · exact ((ho.set_ (p := ⟨w.heap.size, 0, none⟩) (by show w.heap.size < _; omega) _).set_ (p := ⟨w.heap.size, 1, none⟩) (by show w.heap.size < _; omega) _).more_ (by omega)
  · exact hs4.bl (B := q + 1) (((Below.refl _ _).setCell (p := ⟨w.heap.size, 0, none⟩) (by show _ ≤ w.heap.size; omega) _).setCell (p := ⟨w.heap.size, 1, none⟩) (by show _ ≤ w.heap.size; omega) _) (by omega)
  · exact hcw.bl (((Below.refl _ _).setCell (p := ⟨w.heap.size, 0, none⟩) (Nat.le_refl _) _).setCell (p := ⟨w.heap.size, 1, none⟩) (Nat.le_refl _) _)
end Go.Proofs.YtgcelfnjijhmkaaGreat
