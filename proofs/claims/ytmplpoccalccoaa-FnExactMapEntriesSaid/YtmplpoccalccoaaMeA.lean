/-
  MapEntries: what it computes. No program in sight.
-/
import Derived.Test.YtmplpoccalccoaaAut
import Derived.Test.YtmplpoccalccoaaHcU
namespace Go.Proofs.Ytmplpoccalccoaa

def tabB (p : Int) (M : List (List Int)) : Bool := decide (M.length ≤ 16) && M.all fun r => decide (r.length = (M.getD 0 []).length) && decide (1 ≤ r.length) && decide (r.length ≤ 16) && isL p r
def matP (p : Int) (n : Nat) (M : List (List Int)) : Bool := decide (0 < M.length) && tabB p M && decide (M.length = n) && decide ((M.getD 0 []).length = n)
theorem matP_eq {p : Int} {n : Nat} {M : List (List Int)} (h1 : 1 ≤ n) (h2 : n ≤ 16) : matP p n M = matB p n M := by
  rw [Bool.eq_iff_iff, matB_iff]
  unfold matP tabB Ev
  simp only [Bool.and_eq_true, decide_eq_true_eq, List.all_eq_true, isL_fp]
  constructor
  · rintro ⟨⟨⟨_, _, hall⟩, hl⟩, h0⟩
    exact ⟨hl, fun r hr => ⟨(hall r hr).1.1.1.trans h0, (hall r hr).2⟩⟩
  · rintro ⟨hl, h⟩
    have e0 := (h _ (get_mem (B := M) (i := 0) (by omega))).1
    exact ⟨⟨⟨by omega, by omega, fun r hr => ⟨⟨⟨(h r hr).1.trans e0.symm, by have := (h r hr).1; omega⟩, by have := (h r hr).1; omega⟩, (h r hr).2⟩⟩, hl⟩, e0⟩
theorem apply_ev {p : Int} {n : Nat} {M : List (List Int)} {v : List Int} (hp : 1 ≤ p) (h : matB p n M = true) : Ev p n (applyL p M v) := by
  refine ⟨by unfold applyL; rw [List.length_map]; exact (matB_iff.1 h).1, fun x hx => ?_⟩
  obtain ⟨r, _, rfl⟩ := List.mem_map.1 hx
  exact mod_fp hp
def mapH (p : Int) (M : List (List Int)) (X : Her) : Her := ⟨X.dg, X.up.map (applyL p M)⟩
theorem mapH_is {p : Int} {n : Nat} {M : List (List Int)} {X : Her} (hp : 1 ≤ p) (h : matB p n M = true) (hX : isH p n X = true) : isH p n (mapH p M X) = true := by
  obtain ⟨a, b, c, u, v, t, rfl, ha, ha', hb, hb', hc, hc', eu, ev, et⟩ := isH_op hX
  exact isH_mk ⟨ha, ha'⟩ ⟨hb, hb'⟩ ⟨hc, hc'⟩ (apply_ev hp h) (apply_ev hp h) (apply_ev hp h)
def RMapEntries1 (p0 : Int) (st0 : List Int) (M1 : List (List Int)) (X2 : Her) : Int :=
  if chkH p0 st0 [X2] = 0 then (if matB p0 (sz st0.length) M1 = true then (if autB p0 st0 M1 = true then 0 else 5) else 2) else chkH p0 st0 [X2]
def RMapEntries0 (p0 : Int) (st0 : List Int) (M1 : List (List Int)) (X2 : Her) : Her := if RMapEntries1 p0 st0 M1 X2 = 0 then mapH p0 M1 X2 else ⟨[], []⟩
end Go.Proofs.Ytmplpoccalccoaa
