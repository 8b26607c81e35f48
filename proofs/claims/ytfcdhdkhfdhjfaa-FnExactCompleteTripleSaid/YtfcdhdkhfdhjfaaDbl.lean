/-
  Elements of a doubling as rows of numbers: conjugates, products, norms; the first number of a product with a conjugate is the norm. No program in sight.
-/
import Derived.Test.YtfcdhdkhfdhjfaaRow
namespace Go.Proofs.Ytfcdhdkhfdhjfaa

def sz (n : Nat) : Nat := 2 ^ n
def isD (p : Int) (st : List Int) : Bool := prB p && decide (st.length ≤ 4) && st.all fun s => inR s 1 (p - 1)
theorem isD_iff {p : Int} {st : List Int} : isD p st = true ↔ IsP p ∧ st.length ≤ 4 ∧ ∀ s ∈ st, 1 ≤ s ∧ s ≤ p - 1 := by
  unfold isD inR prB
  simp only [Bool.and_eq_true, decide_eq_true_eq, List.all_eq_true]
  exact ⟨fun ⟨⟨a, b⟩, c⟩ => ⟨a, b, c⟩, fun ⟨a, b, c⟩ => ⟨⟨a, b⟩, c⟩⟩
def isE (p : Int) (n : Nat) (xs : List Int) : Bool := decide (xs.length = n) && isL p xs
theorem isE_iff {p : Int} {n : Nat} {xs : List Int} : isE p n xs = true ↔ xs.length = n ∧ Fp p xs := by simp [isE, isL_fp]
def Ev (p : Int) (n : Nat) (xs : List Int) : Prop := xs.length = n ∧ Fp p xs
def conjL (p : Int) (xs : List Int) : List Int := xs.take 1 ++ scaleL p (xs.drop 1) (-1)
theorem conjL_len {p : Int} {xs : List Int} : (conjL p xs).length = xs.length := by
  unfold conjL
  rw [List.length_append, scaleL_len, List.length_take, List.length_drop]; omega
theorem fp_app {p : Int} {xs ys : List Int} (h : Fp p xs) (k : Fp p ys) : Fp p (xs ++ ys) := fun x hx => by
  rcases List.mem_append.1 hx with h1 | h1
  · exact h x h1
  · exact k x h1
theorem fp_take {p : Int} {xs : List Int} (h : Fp p xs) (k : Nat) : Fp p (xs.take k) := fun x hx => h x (List.mem_of_mem_take hx)
theorem fp_drop {p : Int} {xs : List Int} (h : Fp p xs) (k : Nat) : Fp p (xs.drop k) := fun x hx => h x (List.mem_of_mem_drop hx)
theorem conjL_fp {p : Int} {xs : List Int} (hp : 1 ≤ p) (h : Fp p xs) : Fp p (conjL p xs) := fp_app (fp_take h _) (scaleL_fp hp)
theorem Ev.conj {p : Int} {n : Nat} {xs : List Int} (hp : 1 ≤ p) (h : Ev p n xs) : Ev p n (conjL p xs) := ⟨by rw [conjL_len]; exact h.1, conjL_fp hp h.2⟩
def mulR (p : Int) : List Int → List Int → List Int → List Int
  | [], x, y => [x.getD 0 0 * y.getD 0 0 % p]
  | g :: r, x, y => plusL p (mulR p r (x.take (x.length / 2)) (y.take (x.length / 2))) (mulR p r (conjL p (y.drop (x.length / 2))) (x.drop (x.length / 2))) g ++
      plusL p (mulR p r (y.drop (x.length / 2)) (x.take (x.length / 2))) (mulR p r (x.drop (x.length / 2)) (conjL p (y.take (x.length / 2)))) 1
def mulL (p : Int) (st x y : List Int) : List Int := mulR p st.reverse x y
theorem half_len {x : List Int} {n : Nat} (h : x.length = 2 ^ (n + 1)) : x.length / 2 = 2 ^ n := by rw [h, Nat.pow_succ]; omega
theorem mulR_len {p : Int} : ∀ {rs x y : List Int}, x.length = 2 ^ rs.length → y.length = 2 ^ rs.length → (mulR p rs x y).length = 2 ^ rs.length
  | [], x, y, _, _ => rfl
  | g :: r, x, y, hx, hy => by
    have h2 := half_len hx
    have e : x.length = 2 ^ r.length + 2 ^ r.length := by rw [hx, List.length_cons, Nat.pow_succ]; omega
    have e' : y.length = 2 ^ r.length + 2 ^ r.length := by rw [hy, List.length_cons, Nat.pow_succ]; omega
    have l1 : (x.take (2 ^ r.length)).length = 2 ^ r.length := by rw [List.length_take]; omega
    have l2 : (x.drop (2 ^ r.length)).length = 2 ^ r.length := by rw [List.length_drop]; omega
    have l3 : (y.take (2 ^ r.length)).length = 2 ^ r.length := by rw [List.length_take]; omega
    have l4 : (y.drop (2 ^ r.length)).length = 2 ^ r.length := by rw [List.length_drop]; omega
    unfold mulR
    rw [h2, List.length_append, plusL_len, plusL_len, mulR_len l1 l3, mulR_len l4 l1]
    · rw [List.length_cons, Nat.pow_succ]; omega
    · rw [mulR_len l2 (by rw [conjL_len]; exact l3), mulR_len l4 l1]
    · rw [mulR_len (by rw [conjL_len]; exact l4) l2, mulR_len l1 l3]
theorem mulR_fp {p : Int} (hp : 1 ≤ p) : ∀ {rs x y : List Int}, Fp p (mulR p rs x y)
  | [], x, y => fun z hz => by
    simp only [mulR, List.mem_singleton] at hz
    subst hz
    exact mod_fp hp
  | g :: r, x, y => by
    unfold mulR
    exact fp_app (plusL_fp hp) (plusL_fp hp)
theorem mulL_ev {p : Int} {st x y : List Int} (hp : 1 ≤ p) (hx : Ev p (sz st.length) x) (hy : Ev p (sz st.length) y) : Ev p (sz st.length) (mulL p st x y) :=
  ⟨by unfold mulL sz; rw [mulR_len (by rw [List.length_reverse]; exact hx.1) (by rw [List.length_reverse]; exact hy.1), List.length_reverse], mulR_fp hp⟩
theorem scale_neg {p : Int} {xs : List Int} : scaleL p xs (p - 1) = scaleL p xs (-1) := by
  unfold scaleL
  refine List.map_congr_left fun x _ => ?_
  rw [Int.mul_sub, Int.sub_eq_add_neg, Int.add_comm, Int.add_mul_emod_self_right]
  congr 1; omega
theorem plus_scale {p k : Int} : ∀ {xs ys : List Int}, plusL p xs (scaleL p ys k) 1 = plusL p xs ys k
  | [], ys => by simp [plusL]
  | x :: xs, [] => by simp [plusL, scaleL]
  | x :: xs, y :: ys => by
    have := plus_scale (p := p) (k := k) (xs := xs) (ys := ys)
    simp only [plusL, scaleL, List.map_cons, List.zipWith_cons_cons] at this ⊢
    rw [this, Int.one_mul, Int.add_emod_emod, Int.mul_comm y k]
/-! ### Norms -/
def normL (p : Int) (st x : List Int) : Int := (mulL p st x (conjL p x)).getD 0 0
def diagR (p : Int) : List Int → List Int
  | [] => [1]
  | g :: r => diagR p r ++ scaleL p (diagR p r) (p - g)
theorem diagR_len {p : Int} : ∀ {rs : List Int}, (diagR p rs).length = 2 ^ rs.length
  | [] => rfl
  | g :: r => by
    unfold diagR
    rw [List.length_append, scaleL_len, diagR_len, List.length_cons, Nat.pow_succ]; omega
theorem diagR_fp {p : Int} (hp : 2 ≤ p) : ∀ {rs : List Int}, Fp p (diagR p rs)
  | [] => fun x hx => by simp [diagR] at hx; omega
  | g :: r => fp_app (diagR_fp hp) (scaleL_fp (by omega))
def dotD : List Int → List Int → List Int → Int
  | d :: ds, x :: xs, y :: ys => d * x * y + dotD ds xs ys
  | _, _, _ => 0
theorem dotD_app : ∀ {d1 d2 x1 x2 y1 y2 : List Int}, x1.length = d1.length → y1.length = d1.length → dotD (d1 ++ d2) (x1 ++ x2) (y1 ++ y2) = dotD d1 x1 y1 + dotD d2 x2 y2
  | [], d2, [], x2, [], y2, _, _ => by simp [dotD]
  | d :: d1, d2, x :: x1, x2, y :: y1, y2, h, k => by
    simp only [List.cons_append, dotD]
    rw [dotD_app (by simpa using h) (by simpa using k)]
    omega
theorem mod_ex (p a : Int) : ∃ k, a % p = a + p * k := ⟨-(a / p), by have := Int.emod_add_mul_ediv a p; grind⟩
theorem dotD_scale {p c : Int} : ∀ {d x y : List Int}, ∃ k, dotD (scaleL p d c) x y = c * dotD d x y + p * k
  | [], _, _ => ⟨0, by simp [scaleL, dotD]⟩
  | _ :: _, [], _ => ⟨0, by simp [scaleL, dotD]⟩
  | _ :: _, _ :: _, [] => ⟨0, by simp [scaleL, dotD]⟩
  | d :: ds, x :: xs, y :: ys => by
    obtain ⟨k, hk⟩ := dotD_scale (p := p) (c := c) (d := ds) (x := xs) (y := ys)
    obtain ⟨j, hj⟩ := mod_ex p (d * c)
    refine ⟨k + j * x * y, ?_⟩
    simp only [scaleL, List.map_cons, dotD] at hk ⊢
    rw [hj, hk]; grind
theorem dotD_scx {p c : Int} : ∀ {d x y : List Int}, ∃ k, dotD d (scaleL p x c) y = c * dotD d x y + p * k
  | [], _, _ => ⟨0, by simp [dotD]⟩
  | _ :: _, [], _ => ⟨0, by simp [scaleL, dotD]⟩
  | _ :: _, _ :: _, [] => ⟨0, by simp [scaleL, dotD]⟩
  | d :: ds, x :: xs, y :: ys => by
    obtain ⟨k, hk⟩ := dotD_scx (p := p) (c := c) (d := ds) (x := xs) (y := ys)
    obtain ⟨j, hj⟩ := mod_ex p (x * c)
    refine ⟨k + d * j * y, ?_⟩
    simp only [scaleL, List.map_cons, dotD] at hk ⊢
    rw [hj, hk]; grind
theorem dotD_comm : ∀ {d x y : List Int}, dotD d x y = dotD d y x
  | [], _, _ => by simp [dotD]
  | _ :: _, [], [] => rfl
  | _ :: _, [], _ :: _ => rfl
  | _ :: _, _ :: _, [] => rfl
  | d :: ds, x :: xs, y :: ys => by
    simp only [dotD]
    rw [dotD_comm, Int.mul_assoc, Int.mul_comm x y, ← Int.mul_assoc]
theorem dotD_conj {p : Int} {d x y : List Int} : ∃ k, dotD d (conjL p x) (conjL p y) = dotD d x y + p * k := by
  match d, x, y with
  | [], x, y => exact ⟨0, by simp [dotD]⟩
  | d :: ds, [], y => exact ⟨0, by simp [conjL, scaleL, dotD]⟩
  | d :: ds, x :: xs, [] => exact ⟨0, by simp [conjL, scaleL, dotD]⟩
  | d :: ds, x :: xs, y :: ys =>
    obtain ⟨k, hk⟩ := dotD_scx (p := p) (c := -1) (d := ds) (x := xs) (y := scaleL p ys (-1))
    obtain ⟨j, hj⟩ := dotD_scx (p := p) (c := -1) (d := ds) (x := ys) (y := xs)
    rw [dotD_comm (x := scaleL p ys (-1)), dotD_comm (x := ys)] at hj
    refine ⟨k - j, ?_⟩
    simp only [conjL, List.take_succ_cons, List.take_zero, List.drop_succ_cons, List.drop_zero, List.cons_append, List.nil_append, dotD]
    rw [hk, hj]; grind
theorem conj_conj {p : Int} {xs : List Int} (h : Fp p xs) : conjL p (conjL p xs) = xs := by
  match xs with
  | [] => rfl
  | x :: xs =>
    simp only [conjL, List.take_succ_cons, List.take_zero, List.drop_succ_cons, List.drop_zero, List.cons_append, List.nil_append, scaleL, List.map_map]
    congr 1
    refine (List.map_congr_left fun a ha => ?_).trans (List.map_id _)
    have hb := h a (List.mem_cons_of_mem _ ha)
    simp only [Function.comp_apply, id]
    obtain ⟨j, hj⟩ := mod_ex p (a * -1)
    rw [hj, show (a * -1 + p * j) * -1 = a + p * (-j) by grind, Int.add_mul_emod_self_left]
    exact Int.emod_eq_of_lt hb.1 hb.2
theorem getD_plus {p k : Int} {xs ys : List Int} (h1 : 0 < xs.length) (h2 : 0 < ys.length) : (plusL p xs ys k).getD 0 0 = (xs.getD 0 0 + k * ys.getD 0 0) % p := by
  match xs, ys with
  | x :: xs, y :: ys => simp [plusL]
theorem getD_app {xs ys : List Int} (h1 : 0 < xs.length) : (xs ++ ys).getD 0 0 = xs.getD 0 0 := by
  match xs with
  | x :: xs => simp
theorem conj_split {p : Int} {xs : List Int} {k : Nat} (hk : 0 < k) (hl : k ≤ xs.length) : (conjL p xs).take k = conjL p (xs.take k) ∧ (conjL p xs).drop k = scaleL p (xs.drop k) (-1) := by
  match xs, k with
  | x :: xs, k + 1 =>
    simp only [conjL, List.take_succ_cons, List.take_zero, List.drop_succ_cons, List.drop_zero, List.cons_append, List.nil_append, scaleL]
    exact ⟨by rw [List.map_take], by rw [List.map_drop]⟩
  | [], k + 1 => simp at hl
theorem mulR_first {p : Int} (hp : 2 ≤ p) : ∀ {rs x y : List Int}, x.length = 2 ^ rs.length → y.length = 2 ^ rs.length → Fp p x → Fp p y → ∃ k, (mulR p rs x (conjL p y)).getD 0 0 = dotD (diagR p rs) x y + p * k
  | [], x, y, hx, hy, _, _ => by
    obtain ⟨a, rfl⟩ : ∃ a, x = [a] := List.length_eq_one_iff.1 hx
    obtain ⟨b, rfl⟩ : ∃ b, y = [b] := List.length_eq_one_iff.1 hy
    obtain ⟨j, hj⟩ := mod_ex p (a * b)
    exact ⟨j, by simp [mulR, conjL, scaleL, diagR, dotD, hj]⟩
  | g :: r, x, y, hx, hy, fx, fy => by
    have h2 := half_len hx
    have hpos : 0 < 2 ^ r.length := Nat.pow_pos (by decide)
    have e : x.length = 2 ^ r.length + 2 ^ r.length := by rw [hx, List.length_cons, Nat.pow_succ]; omega
    have e' : y.length = 2 ^ r.length + 2 ^ r.length := by rw [hy, List.length_cons, Nat.pow_succ]; omega
    have l1 : (x.take (2 ^ r.length)).length = 2 ^ r.length := by rw [List.length_take]; omega
    have l2 : (x.drop (2 ^ r.length)).length = 2 ^ r.length := by rw [List.length_drop]; omega
    have l3 : (y.take (2 ^ r.length)).length = 2 ^ r.length := by rw [List.length_take]; omega
    have l4 : (y.drop (2 ^ r.length)).length = 2 ^ r.length := by rw [List.length_drop]; omega
    obtain ⟨s1, s2⟩ := conj_split (p := p) (xs := y) hpos (by omega)
    have l5 : (conjL p (scaleL p (y.drop (2 ^ r.length)) (-1))).length = 2 ^ r.length := by rw [conjL_len, scaleL_len, l4]
    have l6 : (conjL p (y.take (2 ^ r.length))).length = 2 ^ r.length := by rw [conjL_len, l3]
    obtain ⟨k1, hk1⟩ := mulR_first hp (rs := r) l1 l3 (fp_take fx _) (fp_take fy _)
    have fc : Fp p (conjL p (x.drop (2 ^ r.length))) := conjL_fp (by omega) (fp_drop fx _)
    obtain ⟨k2, hk2⟩ := mulR_first hp (rs := r) (y := conjL p (x.drop (2 ^ r.length))) l5 (by rw [conjL_len, l2]) (conjL_fp (by omega) (scaleL_fp (by omega))) fc
    rw [conj_conj (fp_drop fx _)] at hk2
    obtain ⟨k3, hk3⟩ := dotD_conj (p := p) (d := diagR p r) (x := scaleL p (y.drop (2 ^ r.length)) (-1)) (y := x.drop (2 ^ r.length))
    obtain ⟨k4, hk4⟩ := dotD_scx (p := p) (c := -1) (d := diagR p r) (x := y.drop (2 ^ r.length)) (y := x.drop (2 ^ r.length))
    obtain ⟨k5, hk5⟩ := dotD_scale (p := p) (c := p - g) (d := diagR p r) (x := x.drop (2 ^ r.length)) (y := y.drop (2 ^ r.length))
    rw [dotD_comm (x := y.drop _)] at hk4
    unfold mulR diagR
    rw [h2, s1, s2, getD_app (by rw [plusL_len, mulR_len l1 l6]; exact hpos; rw [mulR_len l5 l2, mulR_len l1 l6]), getD_plus (by rw [mulR_len l1 l6]; exact hpos) (by rw [mulR_len l5 l2]; exact hpos), hk1, hk2, hk3, hk4]
    have hd : dotD (diagR p r ++ scaleL p (diagR p r) (p - g)) x y = dotD (diagR p r) (x.take (2 ^ r.length)) (y.take (2 ^ r.length)) + dotD (scaleL p (diagR p r) (p - g)) (x.drop (2 ^ r.length)) (y.drop (2 ^ r.length)) := by
      rw [← dotD_app (by rw [l1, diagR_len]) (by rw [l3, diagR_len]), List.take_append_drop, List.take_append_drop]
    rw [hd, hk5]
    obtain ⟨j, hj⟩ := mod_ex p (dotD (diagR p r) (x.take (2 ^ r.length)) (y.take (2 ^ r.length)) + p * k1 + g * (-1 * dotD (diagR p r) (x.drop (2 ^ r.length)) (y.drop (2 ^ r.length)) + p * k4 + p * k3 + p * k2))
    exact ⟨j + k1 + g * (k4 + k3 + k2) - dotD (diagR p r) (x.drop (2 ^ r.length)) (y.drop (2 ^ r.length)) - k5, by rw [hj]; grind⟩
theorem normL_fp {p : Int} {st x : List Int} (hp : 1 ≤ p) : 0 ≤ normL p st x ∧ normL p st x < p := by
  unfold normL
  rw [List.getD_eq_getElem?_getD]
  cases hx : (mulL p st x (conjL p x))[0]? with
  | none => simp; omega
  | some y => exact mulR_fp hp y (List.mem_of_getElem? hx)
theorem norm_diag {p : Int} (hp : 2 ≤ p) {st x : List Int} (h : Ev p (sz st.length) x) : normL p st x = dotD (diagR p st.reverse) x x % p := by
  obtain ⟨k, hk⟩ := mulR_first hp (rs := st.reverse) (x := x) (y := x) (by rw [List.length_reverse]; exact h.1) (by rw [List.length_reverse]; exact h.1) h.2 h.2
  have hb := normL_fp (p := p) (st := st) (x := x) (by omega)
  have e : normL p st x = dotD (diagR p st.reverse) x x + p * k := hk
  have h3 : normL p st x % p = normL p st x := Int.emod_eq_of_lt hb.1 hb.2
  rw [← h3, e, Int.add_mul_emod_self_left]
end Go.Proofs.Ytfcdhdkhfdhjfaa
