/- Texts joined for a claim: Dbl, Law, Space, Mem, Her. -/
import Derived.Test.YteaaepbnoiecoaaGreatJac
import Derived.Deep.OwnRows
namespace Go.Proofs.YteaaepbnoiecoaaGreat
def sz (n : Nat) : Nat := 2 ^ n
def isD (p : Int) (st : List Int) : Bool := prB p && decide (st.length <= 4) && st.all fun s => inR s 1 (p - 1)
theorem isD_iff {p : Int} {st : List Int} : isD p st = true ↔ IsP p /\ st.length <= 4 /\ ∀ s ∈ st, 1 <= s /\ s <= p - 1 := by
 unfold isD inR prB
 simp only [Bool.and_eq_true, decide_eq_true_eq, List.all_eq_true]
 exact ⟨fun ⟨⟨a, b⟩, c⟩ => ⟨a, b, c⟩, fun ⟨a, b, c⟩ => ⟨⟨a, b⟩, c⟩⟩
def isE (p : Int) (n : Nat) (xs : List Int) : Bool := decide (xs.length = n) && isL p xs
theorem isE_iff {p : Int} {n : Nat} {xs : List Int} : isE p n xs = true ↔ xs.length = n /\ Fp p xs := by simp [isE, isL_fp]
def Ev (p : Int) (n : Nat) (xs : List Int) : Prop := xs.length = n /\ Fp p xs
def conjL (p : Int) (xs : List Int) : List Int := xs.take 1 ++ scaleL p (xs.drop 1) (-1)
theorem conjL_len {p : Int} {xs : List Int} : (conjL p xs).length = xs.length := by
 unfold conjL
 rw [List.length_append, scaleL_len, List.length_take, List.length_drop]; omega
theorem fp_app {p : Int} {xs ys : List Int} (h : Fp p xs) (k : Fp p ys) : Fp p (xs ++ ys) := fun x hx => by
 rcases List.mem_append.1 hx with h1 | h1
 ·exact h x h1
 ·exact k x h1
theorem fp_take {p : Int} {xs : List Int} (h : Fp p xs) (k : Nat) : Fp p (xs.take k) := fun x hx => h x (List.mem_of_mem_take hx)
theorem fp_drop {p : Int} {xs : List Int} (h : Fp p xs) (k : Nat) : Fp p (xs.drop k) := fun x hx => h x (List.mem_of_mem_drop hx)
theorem conjL_fp {p : Int} {xs : List Int} (hp : 1 <= p) (h : Fp p xs) : Fp p (conjL p xs) := fp_app (fp_take h _) (scaleL_fp hp)
theorem Ev.conj {p : Int} {n : Nat} {xs : List Int} (hp : 1 <= p) (h : Ev p n xs) : Ev p n (conjL p xs) := ⟨by rw [conjL_len]; exact h.1, conjL_fp hp h.2⟩
def mulR (p : Int) : List Int -> List Int -> List Int -> List Int
 | [], x, y => [x.getD 0 0 * y.getD 0 0 % p]
 | g :: r, x, y => plusL p (mulR p r (x.take (x.length / 2)) (y.take (x.length / 2))) (mulR p r (conjL p (y.drop (x.length / 2))) (x.drop (x.length / 2))) g ++
   plusL p (mulR p r (y.drop (x.length / 2)) (x.take (x.length / 2))) (mulR p r (x.drop (x.length / 2)) (conjL p (y.take (x.length / 2)))) 1
def mulL (p : Int) (st x y : List Int) : List Int := mulR p st.reverse x y
theorem half_len {x : List Int} {n : Nat} (h : x.length = 2 ^ (n + 1)) : x.length / 2 = 2 ^ n := by rw [h, Nat.pow_succ]; omega
theorem mulR_len {p : Int} : ∀ {rs x y : List Int}, x.length = 2 ^ rs.length -> y.length = 2 ^ rs.length -> (mulR p rs x y).length = 2 ^ rs.length
 | [], x, y, _, _ => rfl
 | g :: r, x, y, hx, hy => by
  have h2 := half_len hx
  have e : x.length = 2 ^ r.length + 2 ^ r.length := by rw [hx, List.length_cons, Nat.pow_succ]; omega
  have e' : y.length = 2 ^ r.length + 2 ^ r.length := by rw [hy, List.length_cons, Nat.pow_succ]; omega
  have l1 : (x.take (2 ^ r.length)).length = 2 ^ r.length := by rw [List.length_take]; omega
  have l2 : (x.drop (2 ^ r.length)).length = 2 ^ r.length := by rw [List.length_drop]; omega
  have l3 : (y.take (2 ^ r.length)).length = 2 ^ r.length := by rw [List.length_take]; omega
  have l4 : (y.drop (2 ^ r.length)).length = 2 ^ r.length := by rw [List.length_drop]; omega
  unfold mulR
  rw [h2, List.length_append, plusL_len, plusL_len, mulR_len l1 l3, mulR_len l4 l1]
  ·rw [List.length_cons, Nat.pow_succ]; omega
  ·rw [mulR_len l2 (by rw [conjL_len]; exact l3), mulR_len l4 l1]
  ·rw [mulR_len (by rw [conjL_len]; exact l4) l2, mulR_len l1 l3]
theorem mulR_fp {p : Int} (hp : 1 <= p) : ∀ {rs x y : List Int}, Fp p (mulR p rs x y)
 | [], x, y => fun z hz => by
  simp only [mulR, List.mem_singleton] at hz
  subst hz
  exact mod_fp hp
 | g :: r, x, y => by
  unfold mulR
  exact fp_app (plusL_fp hp) (plusL_fp hp)
theorem mulL_ev {p : Int} {st x y : List Int} (hp : 1 <= p) (hx : Ev p (sz st.length) x) (hy : Ev p (sz st.length) y) : Ev p (sz st.length) (mulL p st x y) :=
 ⟨by unfold mulL sz; rw [mulR_len (by rw [List.length_reverse]; exact hx.1) (by rw [List.length_reverse]; exact hy.1), List.length_reverse], mulR_fp hp⟩
theorem scale_neg {p : Int} {xs : List Int} : scaleL p xs (p - 1) = scaleL p xs (-1) := by
 unfold scaleL
 refine List.map_congr_left fun x _ => ?_
 rw [Int.mul_sub, Int.sub_eq_add_neg, Int.add_comm, Int.add_mul_emod_self_right]
 congr 1; omega
theorem plus_scale {p k : Int} : ∀ {xs ys : List Int}, plusL p xs (scaleL p ys k) 1 = plusL p xs ys k
 | [], ys => by simp [plusL]
 | x :: xs, [] => by simp [plusL, scaleL]
 | x :: xs, y :: ys => by
  have := plus_scale (p := p) (k := k) (xs := xs) (ys := ys)
  simp only [plusL, scaleL, List.map_cons, List.zipWith_cons_cons] at this ⊢
  rw [this, Int.one_mul, Int.add_emod_emod, Int.mul_comm y k]
/-! ### Norms -/
def normL (p : Int) (st x : List Int) : Int := (mulL p st x (conjL p x)).getD 0 0
def diagR (p : Int) : List Int -> List Int
 | [] => [1]
 | g :: r => diagR p r ++ scaleL p (diagR p r) (p - g)
theorem diagR_len {p : Int} : ∀ {rs : List Int}, (diagR p rs).length = 2 ^ rs.length
 | [] => rfl
 | g :: r => by
  unfold diagR
  rw [List.length_append, scaleL_len, diagR_len, List.length_cons, Nat.pow_succ]; omega
theorem diagR_fp {p : Int} (hp : 2 <= p) : ∀ {rs : List Int}, Fp p (diagR p rs)
 | [] => fun x hx => by simp [diagR] at hx; omega
 | g :: r => fp_app (diagR_fp hp) (scaleL_fp (by omega))
def dotD : List Int -> List Int -> List Int -> Int
 | d :: ds, x :: xs, y :: ys => d * x * y + dotD ds xs ys
 | _, _, _ => 0
theorem dotD_app : ∀ {d1 d2 x1 x2 y1 y2 : List Int}, x1.length = d1.length -> y1.length = d1.length -> dotD (d1 ++ d2) (x1 ++ x2) (y1 ++ y2) = dotD d1 x1 y1 + dotD d2 x2 y2
 | [], d2, [], x2, [], y2, _, _ => by simp [dotD]
 | d :: d1, d2, x :: x1, x2, y :: y1, y2, h, k => by
  simp only [List.cons_append, dotD]
  rw [dotD_app (by simpa using h) (by simpa using k)]
  omega
theorem mod_ex (p a : Int) : ∃ k, a % p = a + p * k := ⟨-(a / p), by have := Int.emod_add_mul_ediv a p; grind⟩
theorem dotD_scale {p c : Int} : ∀ {d x y : List Int}, ∃ k, dotD (scaleL p d c) x y = c * dotD d x y + p * k
 | [], _, _ => ⟨0, by simp [scaleL, dotD]⟩
 | _ :: _, [], _ => ⟨0, by simp [scaleL, dotD]⟩
 | _ :: _, _ :: _, [] => ⟨0, by simp [scaleL, dotD]⟩
 | d :: ds, x :: xs, y :: ys => by
  obtain ⟨k, hk⟩ := dotD_scale (p := p) (c := c) (d := ds) (x := xs) (y := ys)
  obtain ⟨j, hj⟩ := mod_ex p (d * c)
  refine ⟨k + j * x * y, ?_⟩
  simp only [scaleL, List.map_cons, dotD] at hk ⊢
  rw [hj, hk]; grind
theorem dotD_scx {p c : Int} : ∀ {d x y : List Int}, ∃ k, dotD d (scaleL p x c) y = c * dotD d x y + p * k
 | [], _, _ => ⟨0, by simp [dotD]⟩
 | _ :: _, [], _ => ⟨0, by simp [scaleL, dotD]⟩
 | _ :: _, _ :: _, [] => ⟨0, by simp [scaleL, dotD]⟩
 | d :: ds, x :: xs, y :: ys => by
  obtain ⟨k, hk⟩ := dotD_scx (p := p) (c := c) (d := ds) (x := xs) (y := ys)
  obtain ⟨j, hj⟩ := mod_ex p (x * c)
  refine ⟨k + d * j * y, ?_⟩
  simp only [scaleL, List.map_cons, dotD] at hk ⊢
  rw [hj, hk]; grind
theorem dotD_comm : ∀ {d x y : List Int}, dotD d x y = dotD d y x
 | [], _, _ => by simp [dotD]
 | _ :: _, [], [] => rfl
 | _ :: _, [], _ :: _ => rfl
 | _ :: _, _ :: _, [] => rfl
 | d :: ds, x :: xs, y :: ys => by
  simp only [dotD]
  rw [dotD_comm, Int.mul_assoc, Int.mul_comm x y, <- Int.mul_assoc]
theorem dotD_conj {p : Int} {d x y : List Int} : ∃ k, dotD d (conjL p x) (conjL p y) = dotD d x y + p * k := by
 match d, x, y with
 | [], x, y => exact ⟨0, by simp [dotD]⟩
 | d :: ds, [], y => exact ⟨0, by simp [conjL, scaleL, dotD]⟩
 | d :: ds, x :: xs, [] => exact ⟨0, by simp [conjL, scaleL, dotD]⟩
 | d :: ds, x :: xs, y :: ys =>
  obtain ⟨k, hk⟩ := dotD_scx (p := p) (c := -1) (d := ds) (x := xs) (y := scaleL p ys (-1))
  obtain ⟨j, hj⟩ := dotD_scx (p := p) (c := -1) (d := ds) (x := ys) (y := xs)
  rw [dotD_comm (x := scaleL p ys (-1)), dotD_comm (x := ys)] at hj
  refine ⟨k - j, ?_⟩
  simp only [conjL, List.take_succ_cons, List.take_zero, List.drop_succ_cons, List.drop_zero, List.cons_append, List.nil_append, dotD]
  rw [hk, hj]; grind
theorem conj_conj {p : Int} {xs : List Int} (h : Fp p xs) : conjL p (conjL p xs) = xs := by
 match xs with
 | [] => rfl
 | x :: xs =>
  simp only [conjL, List.take_succ_cons, List.take_zero, List.drop_succ_cons, List.drop_zero, List.cons_append, List.nil_append, scaleL, List.map_map]
  congr 1
  refine (List.map_congr_left fun a ha => ?_).trans (List.map_id _)
  have hb := h a (List.mem_cons_of_mem _ ha)
  simp only [Function.comp_apply, id]
  obtain ⟨j, hj⟩ := mod_ex p (a * -1)
  rw [hj, show (a * -1 + p * j) * -1 = a + p * (-j) by grind, Int.add_mul_emod_self_left]
  exact Int.emod_eq_of_lt hb.1 hb.2
theorem getD_plus {p k : Int} {xs ys : List Int} (h1 : 0 < xs.length) (h2 : 0 < ys.length) : (plusL p xs ys k).getD 0 0 = (xs.getD 0 0 + k * ys.getD 0 0) % p := by
 match xs, ys with
 | x :: xs, y :: ys => simp [plusL]
theorem getD_app {xs ys : List Int} (h1 : 0 < xs.length) : (xs ++ ys).getD 0 0 = xs.getD 0 0 := by
 match xs with
 | x :: xs => simp
theorem conj_split {p : Int} {xs : List Int} {k : Nat} (hk : 0 < k) (hl : k <= xs.length) : (conjL p xs).take k = conjL p (xs.take k) /\ (conjL p xs).drop k = scaleL p (xs.drop k) (-1) := by
 match xs, k with
 | x :: xs, k + 1 =>
  simp only [conjL, List.take_succ_cons, List.take_zero, List.drop_succ_cons, List.drop_zero, List.cons_append, List.nil_append, scaleL]
  exact ⟨by rw [List.map_take], by rw [List.map_drop]⟩
 | [], k + 1 => simp at hl
theorem mulR_first {p : Int} (hp : 2 <= p) : ∀ {rs x y : List Int}, x.length = 2 ^ rs.length -> y.length = 2 ^ rs.length -> Fp p x -> Fp p y -> ∃ k, (mulR p rs x (conjL p y)).getD 0 0 = dotD (diagR p rs) x y + p * k
 | [], x, y, hx, hy, _, _ => by
  obtain ⟨a, rfl⟩ : ∃ a, x = [a] := List.length_eq_one_iff.1 hx
  obtain ⟨b, rfl⟩ : ∃ b, y = [b] := List.length_eq_one_iff.1 hy
  obtain ⟨j, hj⟩ := mod_ex p (a * b)
  exact ⟨j, by simp [mulR, conjL, scaleL, diagR, dotD, hj]⟩
 | g :: r, x, y, hx, hy, fx, fy => by
  have h2 := half_len hx
  have hpos : 0 < 2 ^ r.length := Nat.pow_pos (by decide)
  have e : x.length = 2 ^ r.length + 2 ^ r.length := by rw [hx, List.length_cons, Nat.pow_succ]; omega
  have e' : y.length = 2 ^ r.length + 2 ^ r.length := by rw [hy, List.length_cons, Nat.pow_succ]; omega
  have l1 : (x.take (2 ^ r.length)).length = 2 ^ r.length := by rw [List.length_take]; omega
  have l2 : (x.drop (2 ^ r.length)).length = 2 ^ r.length := by rw [List.length_drop]; omega
  have l3 : (y.take (2 ^ r.length)).length = 2 ^ r.length := by rw [List.length_take]; omega
  have l4 : (y.drop (2 ^ r.length)).length = 2 ^ r.length := by rw [List.length_drop]; omega
  obtain ⟨s1, s2⟩ := conj_split (p := p) (xs := y) hpos (by omega)
  have l5 : (conjL p (scaleL p (y.drop (2 ^ r.length)) (-1))).length = 2 ^ r.length := by rw [conjL_len, scaleL_len, l4]
  have l6 : (conjL p (y.take (2 ^ r.length))).length = 2 ^ r.length := by rw [conjL_len, l3]
  obtain ⟨k1, hk1⟩ := mulR_first hp (rs := r) l1 l3 (fp_take fx _) (fp_take fy _)
  have fc : Fp p (conjL p (x.drop (2 ^ r.length))) := conjL_fp (by omega) (fp_drop fx _)
  obtain ⟨k2, hk2⟩ := mulR_first hp (rs := r) (y := conjL p (x.drop (2 ^ r.length))) l5 (by rw [conjL_len, l2]) (conjL_fp (by omega) (scaleL_fp (by omega))) fc
  rw [conj_conj (fp_drop fx _)] at hk2
  obtain ⟨k3, hk3⟩ := dotD_conj (p := p) (d := diagR p r) (x := scaleL p (y.drop (2 ^ r.length)) (-1)) (y := x.drop (2 ^ r.length))
  obtain ⟨k4, hk4⟩ := dotD_scx (p := p) (c := -1) (d := diagR p r) (x := y.drop (2 ^ r.length)) (y := x.drop (2 ^ r.length))
  obtain ⟨k5, hk5⟩ := dotD_scale (p := p) (c := p - g) (d := diagR p r) (x := x.drop (2 ^ r.length)) (y := y.drop (2 ^ r.length))
  rw [dotD_comm (x := y.drop _)] at hk4
  unfold mulR diagR
  rw [h2, s1, s2, getD_app (by rw [plusL_len, mulR_len l1 l6]; exact hpos; rw [mulR_len l5 l2, mulR_len l1 l6]), getD_plus (by rw [mulR_len l1 l6]; exact hpos) (by rw [mulR_len l5 l2]; exact hpos), hk1, hk2, hk3, hk4]
  have hd : dotD (diagR p r ++ scaleL p (diagR p r) (p - g)) x y = dotD (diagR p r) (x.take (2 ^ r.length)) (y.take (2 ^ r.length)) + dotD (scaleL p (diagR p r) (p - g)) (x.drop (2 ^ r.length)) (y.drop (2 ^ r.length)) := by
   rw [<- dotD_app (by rw [l1, diagR_len]) (by rw [l3, diagR_len]), List.take_append_drop, List.take_append_drop]
  rw [hd, hk5]
  obtain ⟨j, hj⟩ := mod_ex p (dotD (diagR p r) (x.take (2 ^ r.length)) (y.take (2 ^ r.length)) + p * k1 + g * (-1 * dotD (diagR p r) (x.drop (2 ^ r.length)) (y.drop (2 ^ r.length)) + p * k4 + p * k3 + p * k2))
  exact ⟨j + k1 + g * (k4 + k3 + k2) - dotD (diagR p r) (x.drop (2 ^ r.length)) (y.drop (2 ^ r.length)) - k5, by rw [hj]; grind⟩
theorem normL_fp {p : Int} {st x : List Int} (hp : 1 <= p) : 0 <= normL p st x /\ normL p st x < p := by
 unfold normL
 rw [List.getD_eq_getElem?_getD]
 cases hx : (mulL p st x (conjL p x))[0]? with
 | none => simp; omega
 | some y => exact mulR_fp hp y (List.mem_of_getElem? hx)
theorem norm_diag {p : Int} (hp : 2 <= p) {st x : List Int} (h : Ev p (sz st.length) x) : normL p st x = dotD (diagR p st.reverse) x x % p := by
 obtain ⟨k, hk⟩ := mulR_first hp (rs := st.reverse) (x := x) (y := x) (by rw [List.length_reverse]; exact h.1) (by rw [List.length_reverse]; exact h.1) h.2 h.2
 have hb := normL_fp (p := p) (st := st) (x := x) (by omega)
 have e : normL p st x = dotD (diagR p st.reverse) x x + p * k := hk
 have h3 : normL p st x % p = normL p st x := Int.emod_eq_of_lt hb.1 hb.2
 rw [<- h3, e, Int.add_mul_emod_self_left]
open Go.RowKit
def FrW (w : World) (B : Nat) (v : Value) (xs : List Int) : Prop := ∃ g cap cap', v = .slice (some ⟨g, 0, none⟩) xs.length cap /\ OwnI w B g xs.length cap' xs
def OwI (w : World) (B : Nat) (v : Value) (xs : List Int) : Prop := (v = .slice none 0 0 /\ xs = []) \/ FrW w B v xs
def Cp (v : Value) : Prop := ∃ a n c, v = .slice a n c /\ n <= c /\ c <= 9223372036854775807
section
variable {w w' : World} {B : Nat} {v : Value} {xs : List Int}
theorem FrI.wide (h : FrI w B v xs) : FrW w B v xs := by
 obtain ⟨g, cap, rfl, h⟩ := h
 exact ⟨g, cap, cap, rfl, h⟩
theorem FrI.cp (h : FrI w B v xs) : Cp v := by
 obtain ⟨g, cap, rfl, h⟩ := h
 have := h.caps
 simp only [maxLen] at this
 exact ⟨_, _, _, rfl, this.1, this.2⟩
theorem OwnI.cp {g n cap : Nat} (h : OwnI w B g n cap xs) : Cp (.slice (some ⟨g, 0, none⟩) n cap) := by
 have := h.caps
 simp only [maxLen] at this
 exact ⟨_, _, _, rfl, this.1, this.2⟩
theorem OwnI.first {g n cap k : Nat} (h : OwnI w B g n cap xs) (hk : k <= n) : OwnI w B g k cap (xs.take k) := by
 obtain ⟨cur, hh, hc, ht⟩ := h.row
 refine OwnI.mk_ h.lt.1 hh hc ?_ (Nat.le_trans hk h.caps.1) h.caps.2
 rw [List.map_take, <- ht, List.take_take, Nat.min_eq_left hk]
theorem OwI.sl (h : OwI w B v xs) : Sl w v xs := by
 rcases h with ⟨rfl, rfl⟩ | ⟨g, cap, cap', rfl, h⟩
 ·exact Sl.nil w
 ·exact h.at.sl
theorem OwI.below (h : OwI w B v xs) (hb : Below w.heap.size w w') : OwI w' B v xs := by
 rcases h with h | ⟨g, cap, cap', rfl, h⟩
 ·exact .inl h
 ·exact .inr ⟨g, cap, cap', rfl, h.below hb⟩
theorem OwI.more {B' : Nat} (h : OwI w B v xs) (hB : B' <= B) : OwI w B' v xs := by
 rcases h with h | ⟨g, cap, cap', rfl, h⟩
 ·exact .inl h
 ·exact .inr ⟨g, cap, cap', rfl, h.rebase (Nat.le_trans hB h.lt.1)⟩
theorem OwI.far {row : Option Nat} (h : OwI w B v xs) (hg : w.grownBy w' row) (hr : ∀ g, row = some g -> g < B) : OwI w' B v xs := by
 rcases h with h | ⟨g, cap, cap', rfl, h⟩
 ·exact .inl h
 ·exact .inr ⟨g, cap, cap', rfl, h.grown hg (fun e => by have := hr g e.symm; have := h.lt; omega)⟩
theorem OwI.blk (h : OwI w B v xs) : ∀ g, v.ownBlock = some g -> B <= g /\ g < w.heap.size := by
 rcases h with ⟨rfl, _⟩ | ⟨g, cap, cap', rfl, h⟩
 ·intro g hg; cases hg
 ·intro g' hg
  cases hg
  exact h.lt
end
theorem made_list (v : Value) (n : Nat) : (madeCells #[v] n).toList = List.replicate n v := by
 refine List.ext_getElem (by simp [madeCells]) fun i h1 h2 => ?_
 simp [madeCells, Nat.mod_one]
theorem kept {W w1 : World} (hb : Below W.heap.size W w1) {b o : Nat} {v : Value} (h : W.cell? ⟨b, o, none⟩ = some v) : w1.cell? ⟨b, o, none⟩ = some v := by
 rw [hb.cell (p := ⟨b, o, none⟩) (World.block_lt_of_cell? W _ h)]; exact h
theorem OwnI.other {w : World} {B g n cap : Nat} {xs : List Int} (h : OwnI w B g n cap xs) {p : Addr} (hp : g ≠ p.block) (u : Value) : OwnI (w.setCell p u) B g n cap xs := by
 obtain ⟨cur, hh, hc, ht⟩ := h.row
 exact OwnI.mk_ h.lt.1 (by rw [<- hh]; exact Below.heap_setCell _ _ _ _ hp) hc ht h.caps.1 h.caps.2
theorem sprime_c {p : Int} {w : World} : Calls Tryz.prog 73 #[.int .i64 p] w fun e w' => e = .returned (.bool (prB p)) /\ w = w' := by
 by_cases h3 : p = 3
 ·subst h3; go_enter Tryz.func73, Tryz.ntmps73; go_wp2; go_ret; exact ⟨rfl, rfl⟩
 by_cases h5 : p = 5
 ·subst h5; go_enter Tryz.func73, Tryz.ntmps73; go_wp2; go_ret; exact ⟨rfl, rfl⟩
 by_cases h7 : p = 7
 ·subst h7; go_enter Tryz.func73, Tryz.ntmps73; go_wp2; go_ret; exact ⟨rfl, rfl⟩
 by_cases h11 : p = 11
 ·subst h11; go_enter Tryz.func73, Tryz.ntmps73; go_wp2; go_ret; exact ⟨rfl, rfl⟩
 by_cases h13 : p = 13
 ·subst h13; go_enter Tryz.func73, Tryz.ntmps73; go_wp2; go_ret; exact ⟨rfl, rfl⟩
 have e : prB p = false := by simp [prB, IsP, *]
 have E := Lib.hid e; clear e
 have g3 : (p == 3) = false := by simpa using h3
 have g5 : (p == 5) = false := by simpa using h5
 have g7 : (p == 7) = false := by simpa using h7
 have g11 : (p == 11) = false := by simpa using h11
 have g13 : (p == 13) = false := by simpa using h13
 go_enter Tryz.func73, Tryz.ntmps73; go_wp2; go_ret; exact ⟨by rw [E.out]; rfl, rfl⟩
theorem sin_c {n l h : Int} {w : World} :
  Calls Tryz.prog 74 #[.int .i64 n, .int .i64 l, .int .i64 h] w fun e w' => e = .returned (.bool (inR n l h)) /\ w = w' := by
 by_cases h1 : l <= n
 ·go_enter Tryz.func74, Tryz.ntmps74
  go_wp2
  go_ret
  exact ⟨by simp [inR, *], rfl⟩
 ·go_enter Tryz.func74, Tryz.ntmps74
  go_wp2
  go_ret
  exact ⟨by simp [inR]; omega, rfl⟩
theorem prB_iff {p : Int} : prB p = true ↔ IsP p := by simp [prB]
/-! ### Slices with their capacities -/
def El (w : World) (v : Value) (xs : List Int) : Prop := Sl w v xs /\ Cp v
section
variable {w w' : World} {B g n cap : Nat} {v : Value} {xs : List Int}
theorem El.sl (h : El w v xs) : Sl w v xs := h.1
theorem El.below (h : El w v xs) (hb : Below w.heap.size w w') : El w' v xs := ⟨h.1.below hb, h.2⟩
theorem FrI.el (h : FrI w B v xs) : El w v xs := ⟨h.sl, h.cp⟩
theorem OwnI.el (h : OwnI w B g n cap xs) : El w (.slice (some ⟨g, 0, none⟩) n cap) xs := ⟨h.sl, h.cp⟩
theorem El.nil (w : World) : El w (.slice none 0 0) [] := ⟨Sl.nil w, none, 0, 0, rfl, Nat.le_refl _, by decide⟩
theorem El.op (h : El w v xs) : ∃ a c, v = .slice a xs.length c /\ xs.length <= c /\ c <= 9223372036854775807 /\ (xs = [] \/ ∃ b off, a = some ⟨b, off, none⟩ /\ At w b off xs) := by
 obtain ⟨⟨a, c, rfl, h⟩, a2, n2, c2, e, h1, h2⟩ := h
 cases e
 exact ⟨a, c, rfl, h1, h2, h⟩
theorem El.mk_ {a : Option Addr} {c : Nat} (h1 : xs.length <= c) (h2 : c <= 9223372036854775807) (h : xs = [] \/ ∃ b off, a = some ⟨b, off, none⟩ /\ At w b off xs) : El w (.slice a xs.length c) xs :=
 ⟨⟨a, c, rfl, h⟩, a, _, c, rfl, h1, h2⟩
theorem El.op1 (h : El w v xs) (hne : 0 < xs.length) : ∃ b off c, v = .slice (some ⟨b, off, none⟩) xs.length c /\ xs.length <= c /\ c <= 9223372036854775807 /\ At w b off xs := by
 obtain ⟨a, c, rfl, h1, h2, rfl | ⟨b, off, rfl, h3⟩⟩ := h.op
 ·simp at hne
 ·exact ⟨b, off, c, rfl, h1, h2, h3⟩
theorem At.el {b off c : Nat} (h : At w b off xs) (h1 : xs.length <= c) (h2 : c <= 9223372036854775807) : El w (.slice (some ⟨b, off, none⟩) xs.length c) xs := El.mk_ h1 h2 (.inr ⟨b, off, rfl, h⟩)
theorem At.elT {b off c k : Nat} (h : At w b off xs) (hk : k <= xs.length) (h1 : k <= c) (h2 : c <= 9223372036854775807) : El w (.slice (some ⟨b, off, none⟩) k c) (xs.take k) := by
 have h3 := (h.take k).el (c := c) (by rw [List.length_take]; omega) h2
 rw [List.length_take, Nat.min_eq_left hk] at h3
 exact h3
theorem At.elD {b off c k n : Nat} (h : At w b off xs) (hk : xs.length - k = n) (h1 : n <= c) (h2 : c <= 9223372036854775807) : El w (.slice (some ⟨b, off + k, none⟩) n c) (xs.drop k) := by
 have h3 := (h.drop k).el (c := c) (by rw [List.length_drop]; omega) h2
 rw [List.length_drop, hk] at h3
 exact h3
end
/-! ### Rows of rows -/
def Re (w : World) (v : Value) (xss : List (List Int)) : Prop :=
 ∃ a c, v = .slice a xss.length c /\ xss.length <= c /\ c <= 9223372036854775807 /\ (xss = [] \/ ∃ b off, a = some ⟨b, off, none⟩ /\ ∀ j (h : j < xss.length), ∃ u, w.cell? ⟨b, off + j, none⟩ = some u /\ El w u xss[j])
theorem Re.below {w w' : World} {v : Value} {xss : List (List Int)} (h : Re w v xss) (hb : Below w.heap.size w w') : Re w' v xss := by
 obtain ⟨a, c, rfl, h1, h2, h⟩ := h
 refine ⟨a, c, rfl, h1, h2, ?_⟩
 rcases h with h | ⟨b, off, ha, h⟩
 ·exact .inl h
 ·refine .inr ⟨b, off, ha, fun j hj => ?_⟩
  obtain ⟨u, h3, h4⟩ := h j hj
  exact ⟨u, kept hb h3, h4.below hb⟩
theorem Re.nil (w : World) : Re w (.slice none 0 0) [] := ⟨none, 0, rfl, Nat.le_refl _, by decide, .inl rfl⟩
theorem Re.one {w : World} {v : Value} {xs : List Int} {b c : Nat} (h : El w v xs) (hc : w.cell? ⟨b, 0, none⟩ = some v) (h1 : 1 <= c) (h2 : c <= 9223372036854775807) : Re w (.slice (some ⟨b, 0, none⟩) 1 c) [xs] := by
 refine ⟨_, c, rfl, h1, h2, .inr ⟨b, 0, rfl, fun j hj => ?_⟩⟩
 obtain rfl : j = 0 := by simpa using hj
 exact ⟨v, hc, h⟩
theorem Re.two {w : World} {v u : Value} {xs ys : List Int} {b c : Nat} (h : El w v xs) (hc : w.cell? ⟨b, 0, none⟩ = some v) (h' : El w u ys) (hc' : w.cell? ⟨b, 1, none⟩ = some u) (h1 : 2 <= c) (h2 : c <= 9223372036854775807) : Re w (.slice (some ⟨b, 0, none⟩) 2 c) [xs, ys] := by
 refine ⟨_, c, rfl, h1, h2, .inr ⟨b, 0, rfl, fun j hj => ?_⟩⟩
 simp at hj
 rcases (show j = 0 \/ j = 1 by omega) with rfl | rfl
 ·exact ⟨v, hc, h⟩
 ·exact ⟨u, hc', h'⟩
theorem Re.get {w : World} {b off : Nat} {xss : List (List Int)} (h : ∀ j (h : j < xss.length), ∃ u, w.cell? ⟨b, off + j, none⟩ = some u /\ El w u xss[j]) {m : Nat} (hm : m < xss.length) :
  ∃ a c xs, xs ∈ xss /\ w.cell? ⟨b, off + m, none⟩ = some (.slice a xs.length c) /\ El w (.slice a xs.length c) xs /\ xss.take (m + 1) = xss.take m ++ [xs] := by
 obtain ⟨u, h1, h2⟩ := h m hm
 obtain ⟨a, c, rfl, _⟩ := h2.op
 exact ⟨a, c, xss[m], List.getElem_mem hm, h1, h2, List.take_succ_eq_append_getElem hm⟩
/-! ### Hermitian matrices -/
structure Her where
 dg : List Int
 up : List (List Int)
def Hv (w : World) (v : Value) (X : Her) : Prop := ∃ d u, v = .agg #[d, u] /\ El w d X.dg /\ Re w u X.up
theorem Hv.below {w w' : World} {v : Value} {X : Her} (h : Hv w v X) (hb : Below w.heap.size w w') : Hv w' v X := by
 obtain ⟨d, u, rfl, h1, h2⟩ := h
 exact ⟨d, u, rfl, h1.below hb, h2.below hb⟩
/-! ### What a call made -/
def FrR (w : World) (B : Nat) (v : Value) (us : List Value) (xss : List (List Int)) : Prop :=
 ∃ g cap, v = .slice (some ⟨g, 0, none⟩) us.length cap /\ w.ownsRow B 24 1 v us.length us /\ us.length = xss.length /\ (∀ j (h : j < us.length) (h' : j < xss.length), FrI w B us[j] xss[j]) /\ us.Pairwise fun a b => a.ownBlock ≠ b.ownBlock
def FrH (w : World) (B : Nat) (v : Value) (X : Her) : Prop := ∃ d u us, v = .agg #[d, u] /\ FrI w B d X.dg /\ FrR w B u us X.up /\ ∀ z ∈ us, z.ownBlock ≠ d.ownBlock
def OwH (w : World) (B : Nat) (v : Value) (X : Her) : Prop := (v = .agg #[.slice none 0 0, .slice none 0 0] /\ X = ⟨[], []⟩) \/ FrH w B v X
section
variable {w w' : World} {B B' : Nat} {v : Value} {us : List Value} {xss : List (List Int)} {X : Her}
theorem FrR.lt (h : FrR w B v us xss) : ∃ g cap, v = .slice (some ⟨g, 0, none⟩) us.length cap /\ B <= g /\ g < w.heap.size /\ us.length <= cap /\ cap <= maxLen := by
 obtain ⟨g, cap, rfl, h, hl, _⟩ := h
 have hlt := World.ownsRow.lt h g rfl
 rcases h.2 with h2 | ⟨g', cap', cur, hv, hg', hh, h3, h4, _⟩
 ·cases h2.1
 ·cases hv; exact ⟨g, cap, rfl, hlt.1, hlt.2, by omega, h4⟩
theorem ownsRow_of {w w' : World} {B' : Nat} {E : TypeId} {s g n m cap : Nat} {us : List Value} (h : w.ownsRow B E s (.slice (some ⟨g, 0, none⟩) m cap) n us) (hg : w'.heap[g]? = w.heap[g]?) (hB : B' <= g) : w'.ownsRow B' E s (.slice (some ⟨g, 0, none⟩) m cap) n us := by
 refine ⟨h.1, ?_⟩
 rcases h.2 with h2 | ⟨g', cap', cur, hv, hg', hh, h3, h4, h5, h6⟩
 ·cases h2.1
 ·cases hv
  exact .inr ⟨g, cap, cur, rfl, hB, by rw [hg]; exact hh, h3, h4, h5, h6⟩
theorem FrR.below (h : FrR w B v us xss) (hb : Below w.heap.size w w') : FrR w' B v us xss := by
 obtain ⟨g0, cap0, e0, hB, hs, _⟩ := h.lt
 obtain ⟨g, cap, rfl, h1, h2, h3, h4⟩ := h
 cases e0
 exact ⟨g0, cap0, rfl, ownsRow_of h1 (hb.block _ hs) hB, h2, fun j a b => (h3 j a b).below hb, h4⟩
theorem FrR.more (h : FrR w B v us xss) (hB : B' <= B) : FrR w B' v us xss := by
 obtain ⟨g0, cap0, e0, hB0, hs, _⟩ := h.lt
 obtain ⟨g, cap, rfl, h1, h2, h3, h4⟩ := h
 cases e0
 exact ⟨g0, cap0, rfl, ownsRow_of h1 rfl (by omega), h2, fun j a b => (h3 j a b).more hB, h4⟩
theorem FrR.re (h : FrR w B v us xss) : Re w v xss := by
 obtain ⟨g0, cap0, e0, hB0, hs, hc1, hc2⟩ := h.lt
 obtain ⟨g, cap, rfl, h1, h2, h3, h4⟩ := h
 cases e0
 simp only [maxLen] at hc2
 refine ⟨_, cap0, by rw [h2], by omega, by omega, .inr ⟨g0, 0, rfl, fun j hj => ⟨us[j]'(by omega), ?_, (h3 j (by omega) hj).el⟩⟩⟩
 have := World.ownsRow.cells h1 (g := g0) rfl j (us[j]'(by omega)) (by simp)
 rw [addz] at this
 rw [Nat.zero_add]; exact this
theorem FrH.below (h : FrH w B v X) (hb : Below w.heap.size w w') : FrH w' B v X := by
 obtain ⟨d, u, us, rfl, h1, h2, h3⟩ := h
 exact ⟨d, u, us, rfl, h1.below hb, h2.below hb, h3⟩
theorem FrH.more (h : FrH w B v X) (hB : B' <= B) : FrH w B' v X := by
 obtain ⟨d, u, us, rfl, h1, h2, h3⟩ := h
 exact ⟨d, u, us, rfl, h1.more hB, h2.more hB, h3⟩
theorem FrH.hv (h : FrH w B v X) : Hv w v X := by
 obtain ⟨d, u, us, rfl, h1, h2, h3⟩ := h
 exact ⟨d, u, rfl, h1.el, h2.re⟩
theorem OwH.hv (h : OwH w B v X) : Hv w v X := by
 rcases h with ⟨rfl, rfl⟩ | h
 ·exact ⟨_, _, rfl, El.nil w, Re.nil w⟩
 ·exact h.hv
theorem OwH.below (h : OwH w B v X) (hb : Below w.heap.size w w') : OwH w' B v X := by
 rcases h with h | h
 ·exact .inl h
 ·exact .inr (h.below hb)
theorem OwH.more (h : OwH w B v X) (hB : B' <= B) : OwH w B' v X := by
 rcases h with h | h
 ·exact .inl h
 ·exact .inr (h.more hB)
end
end Go.Proofs.YteaaepbnoiecoaaGreat
namespace Go.Proofs.YteaaepbnoiecoaaGreat
def Her.d (X : Her) (i : Nat) : Int := X.dg.getD i 0
def Her.r (X : Her) (i : Nat) : List Int := X.up.getD i []
def oneL (n i : Nat) : List Int := (List.replicate n 0).set i 1
def cycL (p : Int) (st x y z : List Int) : Int := 2 * (mulL p st (mulL p st x y) z).getD 0 0 % p
def chk3 (p : Int) (st : List Int) (xss : List (List Int)) : Int :=
 if isD p st = true then (if 3 < st.length then 3 else if xss.all (isE p (sz st.length)) = true then 0 else 2) else 1
end Go.Proofs.YteaaepbnoiecoaaGreat
