/-
  Plain laws of products of vectors modulo p, and of the number of a sphere.
-/
import Derived.Test.YtklnpikkkekonaaRest
import Derived.Test.YtklnpikkkekonaaRing
namespace Go.Proofs.Ytklnpikkkekonaa

def tri : List Int → List Int → List Int → Int
  | s :: sq, v :: vs, w :: ws => v * s * w + tri sq vs ws
  | _, _, _ => 0
theorem tri_comm : ∀ sq v w, tri sq v w = tri sq w v
  | [], _, _ => by cases ‹List Int› <;> rfl
  | _ :: _, [], w => by cases w <;> rfl
  | _ :: _, _ :: _, [] => rfl
  | s :: sq, v :: vs, w :: ws => by
    simp only [tri, tri_comm sq vs ws]
    congr 1
    rw [Int.mul_comm v s, Int.mul_comm w s, Int.mul_assoc, Int.mul_assoc, Int.mul_comm v w]
theorem tri_app : ∀ {sq v w sq' v' w' : List Int}, v.length = sq.length → w.length = sq.length → tri (sq ++ sq') (v ++ v') (w ++ w') = tri sq v w + tri sq' v' w'
  | [], [], [], _, _, _, _, _ => by simp [tri]
  | s :: sq, v :: vs, w :: ws, sq', v', w', h1, h2 => by
    have h := tri_app (sq := sq) (v := vs) (w := ws) (sq' := sq') (v' := v') (w' := w') (by simpa using h1) (by simpa using h2)
    simp only [List.cons_append, tri, h]
    omega
  | [], _ :: _, _, _, _, _, h, _ => by simp at h
  | [], [], _ :: _, _, _, _, _, h => by simp at h
  | _ :: _, [], _, _, _, _, h, _ => by simp at h
  | _ :: _, _ :: _, [], _, _, _, _, h => by simp at h
theorem tri_zero : ∀ (sq v : List Int) (n : Nat), tri sq v (List.replicate n 0) = 0
  | [], _, _ => by simp [tri]
  | _ :: _, [], _ => by simp [tri]
  | _ :: _, _ :: _, 0 => by simp [tri]
  | s :: sq, v :: vs, n + 1 => by
    rw [List.replicate_succ]
    simp only [tri, tri_zero sq vs n, Int.mul_zero, Int.zero_add]
section
variable (n : Nat) [NeZero n]
theorem dot_tri : ∀ (sq v w : List Int), toF n (dotS (wgtL n sq v) w) = toF n (tri sq v w)
  | [], v, w => by cases v <;> simp [wgtL, dotS, tri]
  | _ :: _, [], w => by simp [wgtL, dotS, tri]
  | _ :: _, _ :: _, [] => by simp [wgtL, dotS, tri]
  | s :: sq, v :: vs, w :: ws => by
    have h := dot_tri sq vs ws
    simp only [wgtL, List.zipWith_cons_cons, dotS, tri, toF_add, toF_mul, toF_mod] at h ⊢
    rw [h]
theorem pair_tri (sq v w : List Int) : toF n (pairL n sq v w) = toF n (tri sq v w) := by
  unfold pairL dotL
  rw [toF_mod, dot_tri]
theorem pairL_comm' (sq v w : List Int) : pairL n sq v w = pairL n sq w v := by
  have h := (pair_tri n sq v w).trans ((congrArg (toF n) (tri_comm sq v w)).trans (pair_tri n sq w v).symm)
  rw [toF_eq] at h
  have hp : (1 : Int) ≤ n := by have := Nat.pos_of_neZero n; omega
  have h1 := pairL_fp (p := n) (sq := sq) (v := v) (w := w) hp
  have h2 := pairL_fp (p := n) (sq := sq) (v := w) (w := v) hp
  rwa [Int.emod_eq_of_lt h1.1 h1.2, Int.emod_eq_of_lt h2.1 h2.2] at h
theorem tri_scale (i : Int) : ∀ (sq v : List Int), toF n (tri sq (scaleL n v i) (scaleL n v i)) = toF n i * toF n i * toF n (tri sq v v)
  | [], v => by simp [tri, toF_zero]; grind
  | _ :: _, [] => by simp [tri, scaleL, toF_zero]; grind
  | s :: sq, v :: vs => by
    have h := tri_scale i sq vs
    simp only [scaleL, List.map_cons, tri, toF_add, toF_mul, toF_mod] at h ⊢
    rw [h]
    grind
end
theorem IsP.nat {p : Int} (h : IsP p) : ∃ n : Nat, p = n ∧ NeZero n := ⟨p.toNat, by have := h.lo; omega, ⟨by have := h.lo; omega⟩⟩
/-- The number of a sphere, in two ways. -/
theorem sphere_number {p : Int} {sq x : List Int} (hs : isSp p sq = true) (hl : x.length = sq.length + 2) (hw : weightL p sq x ≠ 0) :
    -2 * ((finL p sq x).getD sq.length 0 - (pointL p sq (placeL p sq x)).getD sq.length 0) % p = pairL p (extL p sq) x x * invL p (weightL p sq x) * invL p (weightL p sq x) % p := by
  obtain ⟨hp, n1, n2, hf⟩ := isSp_iff.1 hs
  have hlo := hp.lo
  have hwt := weightL_fp (p := p) (sq := sq) (x := x) (by omega)
  have ht := (inv_tab (a := weightL p sq x) hp (by omega) hwt.2).2.1
  have h2 := (inv_tab (a := 2) hp (by omega) (by omega)).2.1
  obtain ⟨n, rfl, hn⟩ := hp.nat
  obtain ⟨c, a, b, rfl⟩ : ∃ c a b, x = c ++ [a, b] := ⟨x.take sq.length, x.getD sq.length 0, x.getD (sq.length + 1) 0, by
    refine List.ext_getElem (by simp; omega) fun i h1 h2 => ?_
    by_cases hi : i < sq.length
    · rw [List.getElem_append_left (by simp; omega)]; simp
    · rw [List.getElem_append_right (by simp; omega)]
      simp only [List.length_take, hl]
      rcases (show i = sq.length ∨ i = sq.length + 1 by omega) with rfl | rfl
      · simp [show min sq.length (sq.length + 2) = sq.length by omega, hl]
      · simp [show min sq.length (sq.length + 2) = sq.length by omega, hl, show sq.length + 1 - sq.length = 1 by omega]⟩
  have hcl : c.length = sq.length := by simpa using hl
  have e1 : placeL n sq (c ++ [a, b]) = scaleL n c (invL n (weightL n sq (c ++ [a, b]))) := by
    unfold placeL; rw [← hcl, List.take_left]
  obtain ⟨i, hi⟩ : ∃ i, i = invL n (weightL n sq (c ++ [a, b])) := ⟨_, rfl⟩
  have wt : toF n (weightL n sq (c ++ [a, b])) = toF n b - toF n a := by
    unfold weightL
    rw [toF_mod, toF_neg, pair_tri]
    unfold extL infL
    rw [tri_app hcl (by simp), tri_zero]
    simp only [tri, toF_add, toF_mul, toF_zero, toF_one, toF_sub, toF_self]
    grind
  rw [← hi] at e1 ht ⊢
  rw [e1]
  have e2 : (finL n sq (c ++ [a, b])).getD sq.length 0 = a * i % n := by
    unfold finL scaleL
    rw [← hi, ← hcl]
    simp
  have e3 : (pointL n sq (scaleL n c i)).getD sq.length 0 = (hN n (-1) + hN n (pairL n sq (scaleL n c i) (scaleL n c i)) * 1) % n := by
    unfold pointL plusL infL
    have hc2 : (scaleL n c i).length = sq.length := by rw [scaleL_len, hcl]
    rw [List.zipWith_append (by simp [hc2])]
    rw [List.getD_eq_getElem?_getD, List.getElem?_append_right (by simp [hc2])]
    simp [hc2]
  rw [e2, e3, ← toF_eq]
  have nx : toF n (pairL n (extL n sq) (c ++ [a, b]) (c ++ [a, b])) = toF n (tri sq c c) + toF n a * toF n a - toF n b * toF n b := by
    rw [pair_tri]
    unfold extL
    rw [tri_app hcl hcl]
    simp only [tri, toF_add, toF_mul, toF_zero, toF_one, toF_sub, toF_self]
    grind
  have nc : toF n (pairL n sq (scaleL n c i) (scaleL n c i)) = toF n i * toF n i * toF n (tri sq c c) := by rw [pair_tri, tri_scale]
  have t1 : toF n (weightL n sq (c ++ [a, b])) * toF n i = 1 := by
    have h : toF n (weightL n sq (c ++ [a, b]) * i) = toF n 1 := by
      rw [toF_eq, ht, Int.emod_eq_of_lt (by omega) (by omega)]
    rwa [toF_mul, toF_one] at h
  have t2 : 2 * toF n (invL n 2) = 1 := by
    have h : toF n (2 * invL n 2) = toF n 1 := by
      rw [toF_eq, h2, Int.emod_eq_of_lt (by omega) (by omega)]
    rwa [toF_mul, toF_one, toF_two] at h
  unfold hN
  simp only [toF_mul, toF_sub, toF_mod, toF_add, toF_neg, toF_one, toF_two, nx, nc]
  rw [wt] at t1
  grind
end Go.Proofs.Ytklnpikkkekonaa
