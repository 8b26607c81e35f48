/-
  How many vectors have a norm: counted digit by digit; and as many are on a sphere. No program in sight.
-/
import Derived.Test.YtklnpikkkekonaaSphP
import Derived.Test.YtklnpikkkekonaaVec
namespace Go.Proofs.Ytklnpikkkekonaa

/-- How many rows of digits have the norm r. -/
def numI (n : Nat) : List Int → Int → Nat
  | [], r => if r % (n : Int) = 0 then 1 else 0
  | s :: sq, r => sumR n fun a => numI n sq (r - s * ((a : Int) * a))
theorem numI_mod {n : Nat} : ∀ (sq : List Int) {r t : Int}, r % (n : Int) = t % n → numI n sq r = numI n sq t
  | [], r, t, h => by simp only [numI, h]
  | s :: sq, r, t, h => by
    simp only [numI]
    exact sumR_congr fun a _ => numI_mod sq (by rw [Int.sub_emod, h, ← Int.sub_emod])
theorem sumR_bd {g : Nat → Nat} {b : Nat} (h : ∀ i, g i ≤ b) : ∀ k, sumR k g ≤ k * b
  | 0 => by simp [sumR]
  | k + 1 => by
    have h1 := sumR_bd h k
    have h2 := h k
    simp only [sumR, Nat.succ_mul]; omega
theorem numI_le {n : Nat} : ∀ (sq : List Int) (r : Int), numI n sq r ≤ n ^ sq.length
  | [], r => by simp only [numI]; split <;> simp
  | s :: sq, r => by
    simp only [numI, List.length_cons, Nat.pow_succ, Nat.mul_comm _ n]
    exact sumR_bd (fun a => numI_le sq _) n
theorem numI_snoc {n : Nat} (s : Int) : ∀ (sq : List Int) (r : Int), numI n (sq ++ [s]) r = sumR n fun a => numI n sq (r - s * ((a : Int) * a))
  | [], r => rfl
  | u :: sq, r => by
    show sumR n (fun x => numI n (sq ++ [s]) (r - u * ((x : Int) * x))) = sumR n fun a => sumR n fun x => numI n sq (r - s * ((a : Int) * a) - u * ((x : Int) * x))
    rw [← sumR_comm]
    refine sumR_congr fun x _ => ?_
    rw [numI_snoc s sq]
    refine sumR_congr fun a _ => ?_
    congr 1
    omega
theorem sumR_one {g : Nat → Nat} {k0 : Nat} : ∀ {n}, k0 < n → (∀ i, i < n → i ≠ k0 → g i = 0) → sumR n g = g k0
  | 0, h, _ => by omega
  | n + 1, h, hz => by
    simp only [sumR]
    by_cases e : k0 = n
    · subst e
      rw [sumR_congr (h := fun _ => 0) fun i hi => hz i (by omega) (by omega), sumR_zero]; omega
    · rw [sumR_one (n := n) (by omega) (fun i hi hne => hz i (by omega) hne), hz n (by omega) (fun e2 => e e2.symm)]; rfl
/-- A table of norms, one coordinate on. -/
theorem numI_tab {n : Nat} (hn : 0 < n) (s : Int) (sq : List Int) {d : Nat} (hd : d < n) :
    (sumR n fun i => sumR n fun x => if ((i : Int) + (x : Int) * x * s) % n = d then numI n sq i else 0) = numI n (sq ++ [s]) d := by
  rw [numI_snoc, sumR_comm]
  refine sumR_congr fun x _ => ?_
  have hk := Int.emod_nonneg ((d : Int) - s * ((x : Int) * x)) (b := (n : Int)) (by omega)
  have hk2 := Int.emod_lt_of_pos ((d : Int) - s * ((x : Int) * x)) (b := (n : Int)) (by omega)
  have e : (x : Int) * x * s = s * ((x : Int) * x) := Int.mul_comm _ _
  have hd2 : (d : Int) % n = d := Int.emod_eq_of_lt (by omega) (by omega)
  rw [sumR_one (k0 := (((d : Int) - s * ((x : Int) * x)) % n).toNat) (by omega) ?_]
  · rw [Int.toNat_of_nonneg hk, if_pos, numI_mod sq (Int.emod_emod_of_dvd _ (Int.dvd_refl _))]
    rw [e, Int.emod_add_emod, Int.sub_add_cancel, hd2]
  · intro i hi hne
    rw [if_neg]
    intro h
    apply hne
    have h1 : ((d : Int) - s * ((x : Int) * x)) % n = (i : Int) := by
      rw [← h, e, Int.emod_sub_emod, Int.add_sub_cancel, Int.emod_eq_of_lt (by omega) (by omega)]
    omega
/-- The numbers of a table, in a row. -/
def tabL (n : Nat) (f : Nat → Nat) : List Int := (List.range n).map fun d => ((f d : Nat) : Int)
theorem tabL_len {n : Nat} {f : Nat → Nat} : (tabL n f).length = n := by simp [tabL]
theorem tabL_get {n : Nat} {f : Nat → Nat} {d : Nat} (hd : d < n) : (tabL n f).getD d 0 = (f d : Int) := by
  simp [tabL, List.getD_eq_getElem?_getD, hd]
theorem tabL_congr {n : Nat} {f g : Nat → Nat} (h : ∀ d, d < n → f d = g d) : tabL n f = tabL n g :=
  List.map_congr_left fun d hd => by rw [h d (List.mem_range.1 hd)]
theorem tabL_zero {n : Nat} : tabL n (fun _ => 0) = List.replicate n 0 := by
  refine List.ext_getElem (by simp [tabL]) fun i h1 h2 => by simp [tabL]
theorem tabL_one {n : Nat} (_ : 0 < n) : (List.replicate n (0 : Int)).set 0 1 = tabL n (fun d => numI n [] d) := by
  refine List.ext_getElem (by simp [tabL]) fun i h1 h2 => ?_
  have hi : i < n := by simpa [tabL] using h2
  rw [List.getElem_set]
  simp only [tabL, List.getElem_map, List.getElem_range, numI, List.getElem_replicate]
  rw [Int.emod_eq_of_lt (by omega) (by omega)]
  by_cases h : i = 0
  · subst h; simp
  · rw [if_neg (fun e => h e.symm), if_neg (by omega)]; rfl
/-- The next table, while its sums run: i rows are done, and j numbers of the next. -/
def stepW (n : Nat) (s : Int) (T : Nat → Nat) (i j d : Nat) : Nat :=
  (sumR i fun a => sumR n fun x => if ((a : Int) + (x : Int) * x * s) % n = d then T a else 0) + sumR j fun x => if ((i : Int) + (x : Int) * x * s) % n = d then T i else 0
theorem stepW_row {n : Nat} {s : Int} {T : Nat → Nat} {i d : Nat} : stepW n s T i n d = stepW n s T (i + 1) 0 d := by simp only [stepW, sumR]; omega
theorem stepW_start {n : Nat} {s : Int} {T : Nat → Nat} {d : Nat} : stepW n s T 0 0 d = 0 := rfl
theorem stepW_le {n b : Nat} {s : Int} {T : Nat → Nat} (hT : ∀ a, T a ≤ b) {i j d : Nat} : stepW n s T i j d ≤ i * (n * b) + j * b := by
  unfold stepW
  have h1 := sumR_bd (g := fun a => sumR n fun x => if ((a : Int) + (x : Int) * x * s) % n = d then T a else 0) (b := n * b)
    (fun a => sumR_bd (b := b) (fun x => by split; exact hT a; exact Nat.zero_le _) n) i
  have h2 := sumR_bd (g := fun x : Nat => if ((i : Int) + (x : Int) * x * s) % n = d then T i else 0) (b := b) (fun x => by split; exact hT i; exact Nat.zero_le _) j
  omega
theorem stepW_set {n : Nat} (hn : 0 < n) {s : Int} {T : Nat → Nat} {i j : Nat} :
    (tabL n (stepW n s T i j)).set (((i : Int) + (j : Int) * j * s) % n).toNat ((tabL n (stepW n s T i j)).getD (((i : Int) + (j : Int) * j * s) % n).toNat 0 + (T i : Int)) = tabL n (stepW n s T i (j + 1)) := by
  have hk := Int.emod_nonneg ((i : Int) + (j : Int) * j * s) (b := (n : Int)) (by omega)
  have hk2 := Int.emod_lt_of_pos ((i : Int) + (j : Int) * j * s) (b := (n : Int)) (by omega)
  obtain ⟨k, hkk⟩ := Int.eq_ofNat_of_zero_le hk
  rw [tabL_get (by omega)]
  refine List.ext_getElem (by simp [tabL]) fun d h1 h2 => ?_
  have hd : d < n := by simpa [tabL] using h2
  rw [List.getElem_set]
  simp only [tabL, List.getElem_map, List.getElem_range]
  have e : stepW n s T i (j + 1) d = stepW n s T i j d + if ((i : Int) + (j : Int) * j * s) % n = d then T i else 0 := by simp only [stepW, sumR]; omega
  rw [e, hkk, Int.toNat_natCast]
  by_cases h : k = d
  · subst h
    rw [if_pos rfl, if_pos rfl]; omega
  · rw [if_neg h, if_neg (by omega)]; omega
theorem stepW_end {n : Nat} (hn : 0 < n) (s : Int) (sq : List Int) : tabL n (stepW n s (fun d => numI n sq d) n 0) = tabL n (fun d => numI n (sq ++ [s]) d) := by
  refine tabL_congr fun d hd => ?_
  rw [← numI_tab hn s sq hd]
  rfl
section
variable (n : Nat) [NeZero n]
theorem sumR_head {h : Nat → Nat} : ∀ k, sumR (k + 1) h = h 0 + sumR k (fun a => h (a + 1))
  | 0 => by simp [sumR]
  | k + 1 => by rw [sumR, sumR_head k, sumR]; omega
theorem toF_val (c : Fin n) : toF n ((c.val : Nat) : Int) = c := by
  apply Fin.ext
  have := c.isLt
  simp only [toF]
  rw [Int.emod_eq_of_lt (by omega) (by omega)]
  simp
theorem sumR_shift (g : Fin n → Nat) : ∀ m : Nat, (sumR n fun a => g (toF n (a : Nat) + toF n (m : Nat))) = sumR n fun a => g (toF n (a : Nat))
  | 0 => sumR_congr fun a _ => by rw [show ((0 : Nat) : Int) = 0 from rfl, toF_zero]; congr 1; grind
  | m + 1 => by
    rw [← sumR_shift g m]
    have h1 := sumR_head (h := fun a => g (toF n (a : Nat) + toF n (m : Nat))) n
    have h2 : sumR (n + 1) (fun a => g (toF n (a : Nat) + toF n (m : Nat))) = sumR n (fun a => g (toF n (a : Nat) + toF n (m : Nat))) + g (toF n (n : Nat) + toF n (m : Nat)) := rfl
    have h3 : toF n ((n : Nat) : Int) = toF n ((0 : Nat) : Int) := by rw [toF_self, show ((0 : Nat) : Int) = 0 from rfl, toF_zero]
    rw [h3] at h2
    have h4 : (sumR n fun a => g (toF n (a : Nat) + toF n ((m + 1 : Nat) : Int))) = sumR n fun a => g (toF n ((a + 1 : Nat) : Int) + toF n (m : Nat)) :=
      sumR_congr fun a _ => by
        congr 1
        rw [Int.natCast_add, Int.natCast_add, toF_add, toF_add]
        grind
    rw [h4]
    omega
theorem sumR_move (g : Fin n → Nat) (c : Fin n) : (sumR n fun a => g (toF n (a : Nat) - c)) = sumR n fun a => g (toF n (a : Nat)) := by
  rw [← sumR_shift n g (-c).val]
  refine sumR_congr fun a _ => ?_
  rw [toF_val]
  congr 1
  grind
/-- The norm of v - m. -/
def nrmF : List Int → List (Fin n) → List Int → Fin n
  | s :: sq, m :: ms, v :: vs => toF n s * ((toF n v - m) * (toF n v - m)) + nrmF sq ms vs
  | _, _, _ => 0
theorem numI_toF {sq : List Int} {r t : Int} (h : toF n r = toF n t) : numI n sq r = numI n sq t := numI_mod sq ((toF_eq n _ _).1 h)
theorem count_nrm : ∀ (sq : List Int) (ms : List (Fin n)) (r : Int), ms.length = sq.length → sumD n sq.length (fun v => if nrmF n sq ms v = toF n r then 1 else 0) = numI n sq r
  | [], [], r, _ => by
    simp only [sumD, List.length_nil, Nat.pow_zero, sumR, nrmF, numI]
    have e : (0 = toF n r) ↔ r % (n : Int) = 0 := by
      rw [← toF_zero n, toF_eq, Int.zero_emod]
      exact ⟨fun h => h.symm, fun h => h.symm⟩
    simp only [e]; omega
  | s :: sq, m :: ms, r, h => by
    have hp := Nat.pos_of_neZero n
    rw [List.length_cons, sumD_cons hp]
    have h1 : ∀ a : Nat, sumD n sq.length (fun v => if nrmF n (s :: sq) (m :: ms) ((a : Int) :: v) = toF n r then 1 else 0) = numI n sq ((r - s * ((toF n (a : Nat) - m).val * (toF n (a : Nat) - m).val : Nat) : Int)) := fun a => by
      rw [← count_nrm sq ms _ (by simpa using h)]
      congr 1
      funext v
      have e : (nrmF n (s :: sq) (m :: ms) ((a : Int) :: v) = toF n r) ↔ (nrmF n sq ms v = toF n ((r - s * ((toF n (a : Nat) - m).val * (toF n (a : Nat) - m).val : Nat) : Int))) := by
        simp only [nrmF]
        rw [toF_sub, toF_mul, Int.natCast_mul, toF_mul, toF_val]
        constructor <;> intro h <;> grind
      simp only [e]
    simp only [h1]
    rw [sumR_move n (fun y => numI n sq (r - s * ((y.val * y.val : Nat) : Int))) m]
    simp only [numI]
    refine sumR_congr fun a ha => numI_toF n ?_
    rw [toF_sub, toF_mul, Int.natCast_mul, toF_mul, toF_val, toF_sub, toF_mul, toF_mul]
  | [], _ :: _, _, h => by simp at h
  | _ :: _, [], _, h => by simp at h
theorem nrm_exp (i : Fin n) : ∀ (sq c v : List Int), c.length = sq.length → v.length = sq.length → nrmF n sq (c.map fun y => toF n y * i) v = toF n (tri sq v v) - 2 * i * toF n (tri sq c v) + i * i * toF n (tri sq c c)
  | [], [], [], _, _ => by simp only [nrmF, tri, toF_zero]; grind
  | s :: sq, a :: c, b :: v, h1, h2 => by
    have h := nrm_exp i sq c v (by simpa using h1) (by simpa using h2)
    simp only [List.map_cons, nrmF, tri, toF_add, toF_mul, h]
    grind
  | [], _ :: _, _, h, _ => by simp at h
  | [], [], _ :: _, _, h => by simp at h
  | _ :: _, [], _, h, _ => by simp at h
  | _ :: _, _ :: _, [], _, h => by simp at h
theorem tri_plus (k : Int) : ∀ (sq c v : List Int), v.length = sq.length → toF n (tri sq c (List.zipWith (fun x y => (x + k * y) % (n : Int)) v (List.replicate sq.length 0))) = toF n (tri sq c v)
  | [], c, v, h => by simp [tri]
  | _ :: _, [], v, h => by simp [tri]
  | s :: sq, a :: c, b :: v, h => by
    have h1 := tri_plus k sq c v (by simpa using h)
    simp only [List.length_cons, List.replicate_succ, List.zipWith_cons_cons, tri, toF_add, toF_mul, toF_mod, h1, toF_zero]
    grind
  | _ :: _, _ :: _, [], h => by simp at h
end
theorem sumD_congr {p n : Nat} {f g : List Int → Nat} (h : ∀ v, v.length = n → f v = g v) : sumD p n f = sumD p n g :=
  sumR_congr fun _ _ => h _ (digL_len _ _)
/-- On a sphere there are as many vectors as have its number as their norm. -/
theorem sphere_count {p : Int} {sq x : List Int} (hs : isSp p sq = true) (hl : x.length = sq.length + 2) (hw : weightL p sq x ≠ 0) :
    sumD p.toNat sq.length (onN p sq x) = numI p.toNat sq (pairL p (extL p sq) x x * invL p (weightL p sq x) * invL p (weightL p sq x) % p) := by
  obtain ⟨hp, n1, n2, hf⟩ := isSp_iff.1 hs
  have hlo := hp.lo
  have hwt := weightL_fp (p := p) (sq := sq) (x := x) (by omega)
  have ht := (inv_tab (a := weightL p sq x) hp (by omega) hwt.2).2.1
  have h2 := (inv_tab (a := 2) hp (by omega) (by omega)).2.1
  obtain ⟨n, rfl, hn⟩ := hp.nat
  obtain ⟨c, a, b, rfl⟩ : ∃ c a b, x = c ++ [a, b] := ⟨x.take sq.length, x.getD sq.length 0, x.getD (sq.length + 1) 0, by
    refine List.ext_getElem (by simp; omega) fun i h1 h2 => ?_
    by_cases hi : i < sq.length
    · rw [List.getElem_append_left (by simp; omega)]; simp
    · rw [List.getElem_append_right (by simp; omega)]
      simp only [List.length_take, hl]
      rcases (show i = sq.length ∨ i = sq.length + 1 by omega) with rfl | rfl
      · simp [show min sq.length (sq.length + 2) = sq.length by omega, hl]
      · simp [show min sq.length (sq.length + 2) = sq.length by omega, hl, show sq.length + 1 - sq.length = 1 by omega]⟩
  have hcl : c.length = sq.length := by simpa using hl
  obtain ⟨i, hi⟩ : ∃ i, i = invL n (weightL n sq (c ++ [a, b])) := ⟨_, rfl⟩
  have wt : toF n (weightL n sq (c ++ [a, b])) = toF n b - toF n a := by
    unfold weightL
    rw [toF_mod, toF_neg, pair_tri]
    unfold extL infL
    rw [tri_app hcl (by simp), tri_zero]
    simp only [tri, toF_add, toF_mul, toF_zero, toF_one, toF_sub, toF_self]
    grind
  rw [← hi] at ht ⊢
  have nx : toF n (pairL n (extL n sq) (c ++ [a, b]) (c ++ [a, b])) = toF n (tri sq c c) + toF n a * toF n a - toF n b * toF n b := by
    rw [pair_tri]
    unfold extL
    rw [tri_app hcl hcl]
    simp only [tri, toF_add, toF_mul, toF_zero, toF_one, toF_sub, toF_self]
    grind
  have t1 : toF n (weightL n sq (c ++ [a, b])) * toF n i = 1 := by
    have h : toF n (weightL n sq (c ++ [a, b]) * i) = toF n 1 := by
      rw [toF_eq, ht, Int.emod_eq_of_lt (by omega) (by omega)]
    rwa [toF_mul, toF_one] at h
  have t2 : 2 * toF n (invL n 2) = 1 := by
    have h : toF n (2 * invL n 2) = toF n 1 := by
      rw [toF_eq, h2, Int.emod_eq_of_lt (by omega) (by omega)]
    rwa [toF_mul, toF_one, toF_two] at h
  rw [wt] at t1
  rw [Int.toNat_natCast, ← count_nrm n sq (c.map fun y => toF n y * toF n i) _ (by simpa using hcl)]
  refine sumD_congr fun v hv => ?_
  have hon : toF n (pairL n (extL n sq) (c ++ [a, b]) (pointL n sq v)) = toF n (tri sq c v) + toF n a * (toF n (invL n 2) * (toF n (tri sq v v) - 1)) - toF n b * (toF n (invL n 2) * (toF n (tri sq v v) + 1)) := by
    rw [pair_tri]
    unfold extL pointL plusL infL
    rw [List.zipWith_append (by simp [hv]), tri_app hcl (by simp [hv])]
    rw [toF_add, tri_plus n _ sq c v hv]
    simp only [List.zipWith_cons_cons, List.zipWith_nil_left, tri, toF_add, toF_mul, toF_zero, toF_one, toF_sub, toF_self, toF_mod]
    unfold hN
    simp only [toF_mod, toF_mul, toF_neg, toF_one, pair_tri]
    grind
  have hz : onL n sq (c ++ [a, b]) v = true ↔ toF n (pairL n (extL n sq) (c ++ [a, b]) (pointL n sq v)) = 0 := by
    unfold onL
    have hb := pairL_fp (p := n) (sq := extL n sq) (v := c ++ [a, b]) (w := pointL n sq v) (by omega)
    rw [beq_iff_eq, ← toF_zero n, toF_eq, Int.zero_emod, Int.emod_eq_of_lt hb.1 hb.2]
  unfold onN
  rw [nrm_exp n (toF n i) sq c v hcl hv, toF_mod, toF_mul, toF_mul, nx]
  obtain ⟨A, hA⟩ : ∃ A, A = toF n (pairL n (extL n sq) (c ++ [a, b]) (pointL n sq v)) := ⟨_, rfl⟩
  rw [← hA] at hon hz
  have hiff : A = 0 ↔ toF n (tri sq v v) - 2 * toF n i * toF n (tri sq c v) + toF n i * toF n i * toF n (tri sq c c) = (toF n (tri sq c c) + toF n a * toF n a - toF n b * toF n b) * toF n i * toF n i := by
    generalize toF n (tri sq v v) = V at *
    generalize toF n (tri sq c v) = C at *
    generalize toF n (tri sq c c) = K at *
    generalize toF n i = I at *
    generalize toF n (invL n 2) = J at *
    generalize toF n a = a at *
    generalize toF n b = b at *
    clear ht h2 hwt nx wt hi hz hA
    constructor
    · intro h
      have e1 : C + a * (J * (V - 1)) - b * (J * (V + 1)) = 0 := by rw [← hon, h]
      grind
    · intro h
      rw [hon]
      grind
  by_cases h : onL n sq (c ++ [a, b]) v = true
  · rw [if_pos h, if_pos (hiff.1 (hz.1 h))]
  · rw [if_neg h, if_neg (fun e => h (hz.2 (hiff.2 e)))]
end Go.Proofs.Ytklnpikkkekonaa
