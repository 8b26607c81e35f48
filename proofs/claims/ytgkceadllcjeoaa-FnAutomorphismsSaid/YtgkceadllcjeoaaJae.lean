/- Texts joined for a claim: Mem, Inv. -/
import Derived.Test.YtgkceadllcjeoaaJad
/-
  Plain predicates on memory: slices with their capacities, rows of rows, hermitian matrices; what a call made of these.
-/
namespace Go.Proofs.Ytgkceadllcjeoaa
open Go.RowKit

/-! ### Slices with their capacities -/
def El (w : World) (v : Value) (xs : List Int) : Prop := Sl w v xs ∧ Cp v
section
variable {w w' : World} {B g n cap : Nat} {v : Value} {xs : List Int}
theorem El.sl (h : El w v xs) : Sl w v xs := h.1
theorem El.below (h : El w v xs) (hb : Below w.heap.size w w') : El w' v xs := ⟨h.1.below hb, h.2⟩
theorem FrI.el (h : FrI w B v xs) : El w v xs := ⟨h.sl, h.cp⟩
theorem OwnI.el (h : OwnI w B g n cap xs) : El w (.slice (some ⟨g, 0, none⟩) n cap) xs := ⟨h.sl, h.cp⟩
theorem El.nil (w : World) : El w (.slice none 0 0) [] := ⟨Sl.nil w, none, 0, 0, rfl, Nat.le_refl _, by decide⟩
theorem El.op (h : El w v xs) : ∃ a c, v = .slice a xs.length c ∧ xs.length ≤ c ∧ c ≤ 9223372036854775807 ∧ (xs = [] ∨ ∃ b off, a = some ⟨b, off, none⟩ ∧ At w b off xs) := by
  obtain ⟨⟨a, c, rfl, h⟩, a2, n2, c2, e, h1, h2⟩ := h
  cases e
  exact ⟨a, c, rfl, h1, h2, h⟩
theorem El.mk_ {a : Option Addr} {c : Nat} (h1 : xs.length ≤ c) (h2 : c ≤ 9223372036854775807) (h : xs = [] ∨ ∃ b off, a = some ⟨b, off, none⟩ ∧ At w b off xs) : El w (.slice a xs.length c) xs :=
  ⟨⟨a, c, rfl, h⟩, a, _, c, rfl, h1, h2⟩
theorem El.op1 (h : El w v xs) (hne : 0 < xs.length) : ∃ b off c, v = .slice (some ⟨b, off, none⟩) xs.length c ∧ xs.length ≤ c ∧ c ≤ 9223372036854775807 ∧ At w b off xs := by
  obtain ⟨a, c, rfl, h1, h2, rfl | ⟨b, off, rfl, h3⟩⟩ := h.op
  · simp at hne
  · exact ⟨b, off, c, rfl, h1, h2, h3⟩
theorem At.el {b off c : Nat} (h : At w b off xs) (h1 : xs.length ≤ c) (h2 : c ≤ 9223372036854775807) : El w (.slice (some ⟨b, off, none⟩) xs.length c) xs := El.mk_ h1 h2 (.inr ⟨b, off, rfl, h⟩)
theorem At.elT {b off c k : Nat} (h : At w b off xs) (hk : k ≤ xs.length) (h1 : k ≤ c) (h2 : c ≤ 9223372036854775807) : El w (.slice (some ⟨b, off, none⟩) k c) (xs.take k) := by
  have h3 := (h.take k).el (c := c) (by rw [List.length_take]; omega) h2
  rw [List.length_take, Nat.min_eq_left hk] at h3
  exact h3
theorem At.elD {b off c k n : Nat} (h : At w b off xs) (hk : xs.length - k = n) (h1 : n ≤ c) (h2 : c ≤ 9223372036854775807) : El w (.slice (some ⟨b, off + k, none⟩) n c) (xs.drop k) := by
  have h3 := (h.drop k).el (c := c) (by rw [List.length_drop]; omega) h2
  rw [List.length_drop, hk] at h3
  exact h3
end
/-! ### Rows of rows -/
def Re (w : World) (v : Value) (xss : List (List Int)) : Prop :=
  ∃ a c, v = .slice a xss.length c ∧ xss.length ≤ c ∧ c ≤ 9223372036854775807 ∧ (xss = [] ∨ ∃ b off, a = some ⟨b, off, none⟩ ∧ ∀ j (h : j < xss.length), ∃ u, w.cell? ⟨b, off + j, none⟩ = some u ∧ El w u xss[j])
theorem Re.below {w w' : World} {v : Value} {xss : List (List Int)} (h : Re w v xss) (hb : Below w.heap.size w w') : Re w' v xss := by
  obtain ⟨a, c, rfl, h1, h2, h⟩ := h
  refine ⟨a, c, rfl, h1, h2, ?_⟩
  rcases h with h | ⟨b, off, ha, h⟩
  · exact .inl h
  · refine .inr ⟨b, off, ha, fun j hj => ?_⟩
    obtain ⟨u, h3, h4⟩ := h j hj
    exact ⟨u, kept hb h3, h4.below hb⟩
theorem Re.nil (w : World) : Re w (.slice none 0 0) [] := ⟨none, 0, rfl, Nat.le_refl _, by decide, .inl rfl⟩
theorem Re.one {w : World} {v : Value} {xs : List Int} {b c : Nat} (h : El w v xs) (hc : w.cell? ⟨b, 0, none⟩ = some v) (h1 : 1 ≤ c) (h2 : c ≤ 9223372036854775807) : Re w (.slice (some ⟨b, 0, none⟩) 1 c) [xs] := by
  refine ⟨_, c, rfl, h1, h2, .inr ⟨b, 0, rfl, fun j hj => ?_⟩⟩
  obtain rfl : j = 0 := by simpa using hj
  exact ⟨v, hc, h⟩
theorem Re.two {w : World} {v u : Value} {xs ys : List Int} {b c : Nat} (h : El w v xs) (hc : w.cell? ⟨b, 0, none⟩ = some v) (h' : El w u ys) (hc' : w.cell? ⟨b, 1, none⟩ = some u) (h1 : 2 ≤ c) (h2 : c ≤ 9223372036854775807) : Re w (.slice (some ⟨b, 0, none⟩) 2 c) [xs, ys] := by
  refine ⟨_, c, rfl, h1, h2, .inr ⟨b, 0, rfl, fun j hj => ?_⟩⟩
  simp at hj
  rcases (show j = 0 ∨ j = 1 by omega) with rfl | rfl
  · exact ⟨v, hc, h⟩
  · exact ⟨u, hc', h'⟩
theorem Re.get {w : World} {b off : Nat} {xss : List (List Int)} (h : ∀ j (h : j < xss.length), ∃ u, w.cell? ⟨b, off + j, none⟩ = some u ∧ El w u xss[j]) {m : Nat} (hm : m < xss.length) :
    ∃ a c xs, xs ∈ xss ∧ w.cell? ⟨b, off + m, none⟩ = some (.slice a xs.length c) ∧ El w (.slice a xs.length c) xs ∧ xss.take (m + 1) = xss.take m ++ [xs] := by
  obtain ⟨u, h1, h2⟩ := h m hm
  obtain ⟨a, c, rfl, _⟩ := h2.op
  exact ⟨a, c, xss[m], List.getElem_mem hm, h1, h2, List.take_succ_eq_append_getElem hm⟩
/-! ### Hermitian matrices -/
structure Her where
  dg : List Int
  up : List (List Int)
def Hv (w : World) (v : Value) (X : Her) : Prop := ∃ d u, v = .agg #[d, u] ∧ El w d X.dg ∧ Re w u X.up
theorem Hv.below {w w' : World} {v : Value} {X : Her} (h : Hv w v X) (hb : Below w.heap.size w w') : Hv w' v X := by
  obtain ⟨d, u, rfl, h1, h2⟩ := h
  exact ⟨d, u, rfl, h1.below hb, h2.below hb⟩
/-! ### What a call made -/
def FrR (w : World) (B : Nat) (v : Value) (us : List Value) (xss : List (List Int)) : Prop :=
  ∃ g cap, v = .slice (some ⟨g, 0, none⟩) us.length cap ∧ w.ownsRow B 24 1 v us.length us ∧ us.length = xss.length ∧ (∀ j (h : j < us.length) (h' : j < xss.length), FrI w B us[j] xss[j]) ∧ us.Pairwise fun a b => a.ownBlock ≠ b.ownBlock
def FrH (w : World) (B : Nat) (v : Value) (X : Her) : Prop := ∃ d u us, v = .agg #[d, u] ∧ FrI w B d X.dg ∧ FrR w B u us X.up ∧ ∀ z ∈ us, z.ownBlock ≠ d.ownBlock
def OwH (w : World) (B : Nat) (v : Value) (X : Her) : Prop := (v = .agg #[.slice none 0 0, .slice none 0 0] ∧ X = ⟨[], []⟩) ∨ FrH w B v X
section
variable {w w' : World} {B B' : Nat} {v : Value} {us : List Value} {xss : List (List Int)} {X : Her}
theorem FrR.lt (h : FrR w B v us xss) : ∃ g cap, v = .slice (some ⟨g, 0, none⟩) us.length cap ∧ B ≤ g ∧ g < w.heap.size ∧ us.length ≤ cap ∧ cap ≤ maxLen := by
  obtain ⟨g, cap, rfl, h, hl, _⟩ := h
  have hlt := World.ownsRow.lt h g rfl
  rcases h.2 with h2 | ⟨g', cap', cur, hv, hg', hh, h3, h4, _⟩
  · cases h2.1
  · cases hv; exact ⟨g, cap, rfl, hlt.1, hlt.2, by omega, h4⟩
theorem ownsRow_of {w w' : World} {B' : Nat} {E : TypeId} {s g n m cap : Nat} {us : List Value} (h : w.ownsRow B E s (.slice (some ⟨g, 0, none⟩) m cap) n us) (hg : w'.heap[g]? = w.heap[g]?) (hB : B' ≤ g) : w'.ownsRow B' E s (.slice (some ⟨g, 0, none⟩) m cap) n us := by
  refine ⟨h.1, ?_⟩
  rcases h.2 with h2 | ⟨g', cap', cur, hv, hg', hh, h3, h4, h5, h6⟩
  · cases h2.1
  · cases hv
    exact .inr ⟨g, cap, cur, rfl, hB, by rw [hg]; exact hh, h3, h4, h5, h6⟩
theorem FrR.below (h : FrR w B v us xss) (hb : Below w.heap.size w w') : FrR w' B v us xss := by
  obtain ⟨g0, cap0, e0, hB, hs, _⟩ := h.lt
  obtain ⟨g, cap, rfl, h1, h2, h3, h4⟩ := h
  cases e0
  exact ⟨g0, cap0, rfl, ownsRow_of h1 (hb.block _ hs) hB, h2, fun j a b => (h3 j a b).below hb, h4⟩
theorem FrR.more (h : FrR w B v us xss) (hB : B' ≤ B) : FrR w B' v us xss := by
  obtain ⟨g0, cap0, e0, hB0, hs, _⟩ := h.lt
  obtain ⟨g, cap, rfl, h1, h2, h3, h4⟩ := h
  cases e0
  exact ⟨g0, cap0, rfl, ownsRow_of h1 rfl (by omega), h2, fun j a b => (h3 j a b).more hB, h4⟩
theorem FrR.re (h : FrR w B v us xss) : Re w v xss := by
  obtain ⟨g0, cap0, e0, hB0, hs, hc1, hc2⟩ := h.lt
  obtain ⟨g, cap, rfl, h1, h2, h3, h4⟩ := h
  cases e0
  simp only [maxLen] at hc2
  refine ⟨_, cap0, by rw [h2], by omega, by omega, .inr ⟨g0, 0, rfl, fun j hj => ⟨us[j]'(by omega), ?_, (h3 j (by omega) hj).el⟩⟩⟩
  have := World.ownsRow.cells h1 (g := g0) rfl j (us[j]'(by omega)) (by simp)
  rw [addz] at this
  rw [Nat.zero_add]; exact this
theorem FrH.below (h : FrH w B v X) (hb : Below w.heap.size w w') : FrH w' B v X := by
  obtain ⟨d, u, us, rfl, h1, h2, h3⟩ := h
  exact ⟨d, u, us, rfl, h1.below hb, h2.below hb, h3⟩
theorem FrH.more (h : FrH w B v X) (hB : B' ≤ B) : FrH w B' v X := by
  obtain ⟨d, u, us, rfl, h1, h2, h3⟩ := h
  exact ⟨d, u, us, rfl, h1.more hB, h2.more hB, h3⟩
theorem FrH.hv (h : FrH w B v X) : Hv w v X := by
  obtain ⟨d, u, us, rfl, h1, h2, h3⟩ := h
  exact ⟨d, u, rfl, h1.el, h2.re⟩
theorem OwH.hv (h : OwH w B v X) : Hv w v X := by
  rcases h with ⟨rfl, rfl⟩ | h
  · exact ⟨_, _, rfl, El.nil w, Re.nil w⟩
  · exact h.hv
theorem OwH.below (h : OwH w B v X) (hb : Below w.heap.size w w') : OwH w' B v X := by
  rcases h with h | h
  · exact .inl h
  · exact .inr (h.below hb)
theorem OwH.more (h : OwH w B v X) (hB : B' ≤ B) : OwH w B' v X := by
  rcases h with h | h
  · exact .inl h
  · exact .inr (h.more hB)
end
end Go.Proofs.Ytgkceadllcjeoaa
/-
  Inverses of numbers, and differences of rows of numbers.
-/
namespace Go.Proofs.Ytgkceadllcjeoaa
open Go.RowKit

theorem inv_all : ∀ p ∈ [3, 5, 7, 11, 13], ∀ a ∈ List.range p, a ≠ 0 → 1 ≤ invL (p : Nat) (a : Nat) ∧ (a : Int) * invL (p : Nat) (a : Nat) % (p : Nat) = 1 ∧ ∀ b ∈ List.range p, 1 ≤ b → (b : Int) < invL (p : Nat) (a : Nat) → (a : Int) * b % (p : Nat) ≠ 1 := by decide +kernel
theorem inv_tab {p a : Int} (hp : IsP p) (h1 : 1 ≤ a) (h2 : a < p) : 1 ≤ invL p a ∧ a * invL p a % p = 1 ∧ ∀ b, 1 ≤ b → b < invL p a → a * b % p ≠ 1 := by
  obtain ⟨n, rfl⟩ := Int.eq_ofNat_of_zero_le (show 0 ≤ p by have := hp.lo; omega)
  obtain ⟨m, rfl⟩ := Int.eq_ofNat_of_zero_le (show 0 ≤ a by omega)
  have hi := (invL_fp (p := (n : Int)) (a := (m : Int)) (by have := hp.lo; omega)).2
  obtain ⟨k1, k2, k3⟩ := inv_all n (by unfold IsP at hp; simp; omega) m (by simp; omega) (by omega)
  refine ⟨k1, k2, fun b hb1 hb2 => ?_⟩
  obtain ⟨j, rfl⟩ := Int.eq_ofNat_of_zero_le (show 0 ≤ b by omega)
  exact k3 j (by simp; omega) (by omega) hb2
theorem sinv_c {p a : Int} {w : World} (hp : IsP p) (h1 : 1 ≤ a) (h2 : a < p) :
    Calls Try.prog 49 #[.int .i64 p, .int .i64 a] w fun e w' => e = .returned (.int .i64 (invL p a)) ∧ w = w' := by
  obtain ⟨t1, t2, t3⟩ := inv_tab hp h1 h2
  have hi := (invL_fp (p := p) (a := a) (by have := hp.lo; omega)).2
  have hp1 := hp.lo
  have hp2 := hp.hi
  obtain ⟨q, hq⟩ : ∃ q, q = invL p a := ⟨_, rfl⟩
  rw [← hq] at t1 t2 t3 hi ⊢
  clear hq
  have T2 := Lib.hid t2; have T3 := Lib.hid t3; clear t2 t3 hp
  go_enter Try.func49, Try.ntmps49
  go_wp2
  go_loop [5] (fun i => ∃ b : Int, 1 ≤ b ∧ b ≤ q ∧ i = .int .i64 b) (fun i => (q - intOf i).toNat)
  case atStart => exact ⟨1, by omega, t1, rfl⟩
  case round =>
    obtain ⟨b, hb1, hb2, rfl⟩ := hrel
    have hm := mulb (A := 13) (B := 13) (k := a) (y := b) (by omega) (by omega) (by omega) (by omega)
    have h0 : 0 ≤ a * b := Int.mul_nonneg (by omega) (by omega)
    by_cases hlt : b < q
    · have e1 : (a * b % p != 1) = true := by
        rw [bne_iff_ne]; exact T3.out b hb1 hlt
      go_wp2
      go_round
      case rel => exact ⟨b + 1, by omega, by omega, by go_num⟩
      case measure => simp [intOf]; omega
    · obtain rfl : b = q := by omega
      have e1 : (a * b % p != 1) = false := by
        rw [T2.out]; rfl
      go_wp2
      go_ret
      exact ⟨rfl, rfl⟩
theorem below_le {a b : World} (h : Below a.heap.size a b) : a.heap.size ≤ b.heap.size := h.size
theorem plusL_cong {p k k' : Int} (h : k % p = k' % p) : ∀ {xs ys : List Int}, plusL p xs ys k = plusL p xs ys k'
  | [], _ => by simp [plusL]
  | _ :: _, [] => by simp [plusL]
  | x :: xs, y :: ys => by
    have hr := plusL_cong h (xs := xs) (ys := ys)
    simp only [plusL, List.zipWith_cons_cons] at hr ⊢
    rw [hr, Int.add_emod, Int.mul_emod, h, ← Int.mul_emod, ← Int.add_emod]
theorem zw_scale2 {p k m : Int} : ∀ {xs ys : List Int}, plusL p xs (scaleL p ys k) m = plusL p xs ys (k * m)
  | [], _ => by simp [plusL]
  | _ :: _, [] => by simp [plusL, scaleL]
  | x :: xs, y :: ys => by
    have hr := zw_scale2 (p := p) (k := k) (m := m) (xs := xs) (ys := ys)
    simp only [plusL, scaleL, List.map_cons, List.zipWith_cons_cons] at hr ⊢
    rw [hr]
    congr 1
    rw [Int.add_emod, Int.mul_emod m, Int.emod_emod, ← Int.mul_emod, ← Int.add_emod]
    congr 2
    rw [Int.mul_comm y k, ← Int.mul_assoc, Int.mul_comm m k]
theorem sminus_c {p : Int} {x y : Value} {xs ys : List Int} {w : World} (hp : 1 ≤ p) (hp2 : p ≤ 1000)
    (hx : Sl w x xs) (hy : Sl w y ys) (sx : Sm 1000000 xs) (sy : Sm 1000000 ys) (hl : ys.length = xs.length) (hm : xs.length ≤ 1000000) :
    Calls Try.prog 142 #[.int .i64 p, x, y] w fun e w' => ∃ v, e = .returned v ∧ FrI w' w.heap.size v (plusL p xs ys (p - 1)) ∧ Below w.heap.size w w' := by
  have HL := Lib.hid hl; clear hl
  have hm2 : ys.length ≤ 1000000 := by rw [HL.out]; exact hm
  have hx1 := hx
  go_enter Try.func142, Try.ntmps142
  go_wp2_with fail
  refine (sscale_c hp hp2 (by omega) (by omega) hy sy hm2).mono ?_; rintro e w21 ⟨z, rfl, hz, hb21⟩
  have hx := hx.below hb21
  go_wp2_with fail
  refine (sadd_c hp hp2 hx hz.sl sx ((scaleL_fp hp).sm (by omega) (by omega)) (by rw [scaleL_len]; exact HL.out) hm).mono ?_; rintro e w22 ⟨t, rfl, ht, hb22⟩
  have hx := hx.below hb22; have hz := hz.below hb22
  go_wp2_with fail
  go_ret
  refine ⟨_, rfl, ?_, (by repeat (first | exact .refl _ _ | apply bwD | apply bwA | (refine bwS ?_ (by first | omega | simp <;> omega) _) | refine bwC ?_ (by assumption)))⟩
  rw [zw_scale2, Int.mul_one] at ht
  exact ht.more (below_le (by repeat (first | exact .refl _ _ | apply bwD | apply bwA | (refine bwS ?_ (by first | omega | simp <;> omega) _) | refine bwC ?_ (by assumption))))
end Go.Proofs.Ytgkceadllcjeoaa
