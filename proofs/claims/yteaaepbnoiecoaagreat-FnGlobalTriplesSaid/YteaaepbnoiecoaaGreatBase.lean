import Derived.Test.YteaaepbnoiecoaaGreatRows
import Derived.WalkKit
import Derived.WalkSpells
import Derived.Lib.Hide
import Derived.Deep.AppendLies
import Derived.Test.YteaaepbnoiecoaaGreatFlow
namespace Go.Proofs.YteaaepbnoiecoaaGreat
open Go.RowKit
/-! ### Worlds -/
theorem bwA {a w : World} (h : Below a.heap.size a w) (o : Obj) : Below a.heap.size a (w.alloc o) := h.alloc h.size o
theorem bwD {a w : World} (h : Below a.heap.size a w) : Below a.heap.size a w.drew := h.drew
theorem bwS {a w : World} {p : Addr} (h : Below a.heap.size a w) (hp : a.heap.size <= p.block) (u : Value) : Below a.heap.size a (w.setCell p u) := h.setCell hp u
theorem bwT {a b : World} (h : Below a.heap.size a b := by repeat (first | exact .refl _ _ | apply bwD | apply bwA | (refine bwS ?_ (by first | omega | simp <;> omega) _) | refine bwC ?_ (by assumption))) : Below a.heap.size a b := h
theorem blw_grown {a w w' : World} {g : Nat} (h : Below a.heap.size a w) (hg : w.grownBy w' (some g)) (hr : a.heap.size <= g) : Below a.heap.size a w' :=
 h.grown hg h.size (fun k hk => by cases hk; exact hr)
/-! ### A row of integers -/
def At (w : World) (b off : Nat) (xs : List Int) : Prop := ∀ j, j < xs.length -> w.cell? ⟨b, off + j, none⟩ = some (.int .i64 (xs.getD j 0))
section
variable {w w' : World} {b off : Nat} {xs : List Int}
theorem At.lt (h : At w b off xs) (hx : 0 < xs.length) : b < w.heap.size := World.block_lt_of_cell? w _ (h 0 hx)
theorem At.below (h : At w b off xs) (hb : Below w.heap.size w w') : At w' b off xs := by
 intro j hj
 rw [hb.cell (p := ⟨b, off + j, none⟩) (h.lt (by omega))]
 exact h j hj
theorem At.belowN {B : Nat} (h : At w b off xs) (hb : Below B w w') (hB : b < B) : At w' b off xs := by
 intro j hj
 rw [hb.cell (p := ⟨b, off + j, none⟩) hB]
 exact h j hj
theorem At.grown {row : Option Nat} (h : At w b off xs) (hg : w.grownBy w' row) (hne : some b ≠ row) : At w' b off xs := by
 intro j hj
 exact hg.cell (h j hj) hne
theorem At.get (h : At w b off xs) {m : Nat} (hm : m < xs.length) :
  ∃ x, x ∈ xs /\ w.cell? ⟨b, off + m, none⟩ = some (.int .i64 x) /\ xs.take (m + 1) = xs.take m ++ [x] := by
 refine ⟨xs[m], by simp, ?_, ?_⟩
 ·rw [h m hm]; simp [hm]
 ·rw [List.take_succ_eq_append_getElem hm]
theorem At.take (h : At w b off xs) (k : Nat) : At w b off (xs.take k) := by
 intro j hj
 rw [List.length_take] at hj
 rw [h j (by omega)]
 simp [show j < k by omega]
theorem At.drop (h : At w b off xs) (k : Nat) : At w b (off + k) (xs.drop k) := by
 intro j hj
 rw [List.length_drop] at hj
 rw [Nat.add_assoc, h (k + j) (by omega)]
 simp
end
def Sm (M : Int) (xs : List Int) : Prop := ∀ x ∈ xs, -M <= x /\ x <= M
def Fp (p : Int) (xs : List Int) : Prop := ∀ x ∈ xs, 0 <= x /\ x < p
theorem Fp.sm {p M : Int} {xs : List Int} (h : Fp p xs) (hp : p <= M + 1) (hM : 0 <= M) : Sm M xs := fun x hx => by
 have := h x hx
 omega
theorem mulb {k y A B : Int} (h1 : -A <= k) (h2 : k <= A) (h3 : -B <= y) (h4 : y <= B) : -(A * B) <= k * y /\ k * y <= A * B := by
 have a1 : (k + A) * (y + B) ≥ 0 := Int.mul_nonneg (by omega) (by omega)
 have a2 : (A - k) * (B - y) ≥ 0 := Int.mul_nonneg (by omega) (by omega)
 have a3 : (k + A) * (B - y) ≥ 0 := Int.mul_nonneg (by omega) (by omega)
 have a4 : (A - k) * (y + B) ≥ 0 := Int.mul_nonneg (by omega) (by omega)
 constructor <;> grind
/-! ### A row of integers that the call itself made -/
theorem infoI : (Tryz.prog.info? 2).map (fun i => (i.zero, i.size, i.bytes)) = some (some (.int .i64 0), 1, 8) := by kernel_rfl
def OwnI (w : World) (B : Nat) (g n cap : Nat) (xs : List Int) : Prop :=
 w.ownsRow B 2 1 (.slice (some ⟨g, 0, none⟩) n cap) n (xs.map (Value.int .i64))
theorem addo (g o j : Nat) : (⟨g, o, none⟩ : Addr).add j = ⟨g, o + j, none⟩ := by unfold Addr.add; split <;> simp_all
theorem addz (g j : Nat) : (⟨g, 0, none⟩ : Addr).add j = ⟨g, j, none⟩ := by unfold Addr.add; split <;> simp_all
section
variable {w w' : World} {B B' g n cap : Nat} {xs : List Int}
theorem OwnI.len (h : OwnI w B g n cap xs) : xs.length = n := by have := h.1; simpa using this
theorem OwnI.at (h : OwnI w B g n cap xs) : At w g 0 xs := by
 intro j hj
 have := World.ownsRow.cells h (g := g) rfl j (.int .i64 (xs.getD j 0)) (by simp [hj])
 rw [addz] at this
 rw [Nat.zero_add]; exact this
theorem OwnI.lt (h : OwnI w B g n cap xs) : B <= g /\ g < w.heap.size := World.ownsRow.lt h g rfl
theorem OwnI.caps (h : OwnI w B g n cap xs) : n <= cap /\ cap <= maxLen := by
 rcases h.2 with h2 | ⟨g', cap', cur, hv, hg', hh, h3, h4, _⟩
 ·cases h2.1
 ·cases hv; exact ⟨h3, h4⟩
theorem OwnI.row (h : OwnI w B g n cap xs) : ∃ cur, w.heap[g]? = some (.cells cur 2 (0, 0)) /\ cur.size = cap /\ cur.toList.take n = xs.map (Value.int .i64) := by
 rcases h.2 with h2 | ⟨g', cap', cur, hv, hg', hh, h3, h4, h5, h6⟩
 ·cases h2.1
 ·cases hv; exact ⟨cur, hh, by simpa using h5, by simpa using h6⟩
theorem OwnI.mk_ {cur : Array Value} (hB : B <= g) (hg : w.heap[g]? = some (.cells cur 2 (0, 0))) (hc : cur.size = cap) (ht : cur.toList.take n = xs.map (Value.int .i64)) (hn : n <= cap) (hm : cap <= maxLen) : OwnI w B g n cap xs := by
 refine ⟨?_, .inr ⟨g, cap, cur, rfl, hB, hg, hn, hm, by simpa using hc, by simpa using ht⟩⟩
 rw [<- ht]; simp; omega
theorem OwnI.belowN (h : OwnI w B g n cap xs) (hb : Below B' w w') (hg : g < B') : OwnI w' B g n cap xs := by
 obtain ⟨cur, hh, hc, ht⟩ := h.row
 exact OwnI.mk_ h.lt.1 (by rw [hb.block _ hg]; exact hh) hc ht h.caps.1 h.caps.2
theorem OwnI.below (h : OwnI w B g n cap xs) (hb : Below w.heap.size w w') : OwnI w' B g n cap xs := h.belowN hb h.lt.2
theorem OwnI.grown {row : Option Nat} (h : OwnI w B g n cap xs) (hg : w.grownBy w' row) (hne : some g ≠ row) : OwnI w' B g n cap xs := by
 obtain ⟨cur, hh, hc, ht⟩ := h.row
 exact OwnI.mk_ h.lt.1 (by rw [hg.block _ h.lt.2 hne]; exact hh) hc ht h.caps.1 h.caps.2
theorem OwnI.alloc (h : OwnI w B g n cap xs) (o : Obj) : OwnI (w.alloc o) B g n cap xs := World.ownsRow.alloc h o
theorem OwnI.new (h : B <= w.heap.size) : OwnI (w.alloc (.cells #[] 2)) B w.heap.size 0 0 [] := World.ownsRow_made _ _ _ h (by decide) rfl
theorem OwnI.rebase (h : OwnI w B g n cap xs) (hB : B' <= g) : OwnI w B' g n cap xs := by
 obtain ⟨cur, hh, hc, ht⟩ := h.row
 exact OwnI.mk_ hB hh hc ht h.caps.1 h.caps.2
theorem OwnI.lit (h : B <= w.heap.size) (xs : List Int) (hl : xs.length <= 1000) : OwnI (w.alloc (.cells (xs.map (Value.int .i64)).toArray 2)) B w.heap.size xs.length xs.length xs :=
 OwnI.mk_ h (heap_alloc_new w _) (by simp) (by simp [List.take_of_length_le]) (Nat.le_refl _) (by simp [maxLen]; omega)
theorem OwnI.free (h : OwnI w B g n cap xs) (i : Nat) : w.frozen? ⟨g, i, none⟩ = false := by
 obtain ⟨cur, hh, _⟩ := h.row
 simp [World.frozen?, hh]
theorem OwnI.set (h : OwnI w B g n cap xs) {i : Nat} (x : Int) : OwnI (w.setCell ⟨g, i, none⟩ (.int .i64 x)) B g n cap (xs.set i x) := by
 obtain ⟨cur, hh, hc, ht⟩ := h.row
 have hl := h.len
 have hcap := h.caps
 refine OwnI.mk_ (cur := cur.setIfInBounds i (.int .i64 x)) h.lt.1 ?_ (by simpa using hc) ?_ hcap.1 hcap.2
 ·simp [World.setCell, Array.getElem?_modify, hh]
 ·rw [List.map_set, <- ht]
  simp [List.take_set]
end
section
variable {ops : Array Oper} {rest : List Oper} {o : Oper} {a : Act} {Q : Exit -> Act -> World -> Prop} {K : Act -> World -> Prop} {E : Prop}
theorem app_run (W : World) (B g m cap : Nat) (ys : List Int) (b off : Nat) (k c : Nat) (zs : List Int) (ty : TypeId)
    (hown : OwnI W B g m cap ys) (hB : B <= W.heap.size) (hz : At W b off zs) (hk : zs.length = k) (hk0 : 0 < k) (hm : m + k <= 1000000000) :
    ∃ g' cap' w', (Builtin.append_ #[24, 24] ty #[.slice (some ⟨g, 0, none⟩) m cap, .slice (some ⟨b, off, none⟩) k c]).run Tryz.prog W = .ok (.slice (some ⟨g', 0, none⟩) (m + k) cap') w' /\
      OwnI w' B g' (m + k) cap' (ys ++ zs) /\ W.grownBy w' (some g) /\ (g' = g \/ g' = W.heap.size) := by
  obtain ⟨i0, hi, hz0, hz1, hz2⟩ := info_parts infoI
  obtain ⟨g', cap', w', h1, h2, h3, h4, h5⟩ := run_append_lies (P := Tryz.prog) W 24 ty B 2 i0 (.int .i64 0) 1 8 Tryz.underlying24 hi hz0 hz1 hz2 rfl (by decide) _ _ _ hown ⟨b, off, none⟩ k c (zs.map (Value.int .i64)) (by simp [hk])
    (by intro j u hj
        simp only [List.getElem?_map, Option.map_eq_some_iff] at hj
        obtain ⟨x, hx, rfl⟩ := hj
        obtain ⟨hlt, rfl⟩ := List.getElem?_eq_some_iff.1 hx
        rw [addo, hz j hlt]; simp [hlt])
    (by intro u hu
        simp only [List.mem_map] at hu
        obtain ⟨x, _, rfl⟩ := hu
        rfl) hk0 (by simp only [maxLen]; omega) (by omega) hB _ rfl
  refine ⟨g', cap', w', h1, by simpa [OwnI] using h2, by simpa [Value.ownBlock] using h3, ?_⟩
  rcases h4 with h4 | h4
  · left; simpa [Value.ownBlock] using h4.symm
  · right; exact h4
theorem app_int (hgd : o.guard = none) (s x : Operand)
  (ho : o.op = .call { callee := .builtin .append, args := #[s, x], argTypes := #[24, 24] })
  (W : World) (B g m cap : Nat) (ys : List Int) (hs : a.eval s = .slice (some ⟨g, 0, none⟩) m cap) (b off : Nat) (k c : Nat) (zs : List Int) (hx : a.eval x = .slice (some ⟨b, off, none⟩) k c)
  (hown : OwnI W B g m cap ys) (hB : B <= W.heap.size) (hz : At W b off zs) (hk : zs.length = k) (hk0 : 0 < k) (hm : m + k <= 1000000000)
  (h : ∀ g' cap' w', OwnI w' B g' (m + k) cap' (ys ++ zs) -> W.grownBy w' (some g) -> (g' = g \/ g' = W.heap.size) -> wpList Tryz.prog ops Q rest (a.put o.dst (.slice (some ⟨g', 0, none⟩) (m + k) cap')) w') :
  wpList Tryz.prog ops Q (o :: rest) a W := by
 obtain ⟨g', cap', w', h1, h2, h3, h4⟩ := app_run W B g m cap ys b off k c zs o.type hown hB hz hk hk0 hm
 refine wpList_plain hgd fun _ hK => ?_
 unfold Oper.wp execOp
 simp only [ho, resolve, invoke, builtin, Sem.run_bind, Sem.run_pure, Result.andThen_ok, List.map_toArray, List.map_cons, List.map_nil, hs, hx, h1]
 exact hK _ _ (h g' cap' w' h2 h3 h4)
theorem app_one (hgd : o.guard = none) (s x : Operand)
  (ho : o.op = .call { callee := .builtin .append, args := #[s, x], argTypes := #[24, 24] })
  (W : World) (B g m cap : Nat) (ys : List Int) (hs : a.eval s = .slice (some ⟨g, 0, none⟩) m cap) (z : Int) (c : Nat) (hx : a.eval x = .slice (some ⟨W.heap.size, 0, none⟩) 1 c)
  (hown : OwnI W B g m cap ys) (hB : B <= W.heap.size) (hm : m <= 100000000)
  (h : ∀ g' cap' w', OwnI w' B g' (m + 1) cap' (ys ++ [z]) -> Below B W w' -> W.grownBy w' (some g) -> (g' = g \/ g' = W.heap.size + 1) -> wpList Tryz.prog ops Q rest (a.put o.dst (.slice (some ⟨g', 0, none⟩) (m + 1) cap')) w') :
  wpList Tryz.prog ops Q (o :: rest) a (W.alloc (.cells #[.int .i64 z] 2)) := by
 refine app_int hgd s x ho (W.alloc (.cells #[.int .i64 z] 2)) B g m cap ys hs _ 0 1 c [z] hx (hown.alloc _) (by simp; omega) ?_ rfl (by decide) (by omega) ?_
 ·intro j hj
  obtain rfl : j = 0 := by simpa using hj
  simp [go_sem]
 ·intro g' cap' w' h1 h2 h3
  have hlt := hown.lt
  refine h g' cap' w' h1 (((Below.refl B W).alloc hB _).grown h2 (by simp; omega) (fun k hk => by cases hk; exact hlt.1)) ⟨h2.os, h2.tape, h2.output, by have := h2.size; simp at this; omega, fun k hk hne => ?_⟩ (by simpa using h3)
  rw [h2.block k (by simp; omega) hne]
  exact Below.heap_alloc _ _ _ hk
end
/-! ### Slices of integers, as values -/
def Sl (w : World) (v : Value) (xs : List Int) : Prop := ∃ a c, v = .slice a xs.length c /\ (xs = [] \/ ∃ b off, a = some ⟨b, off, none⟩ /\ At w b off xs)
def FrI (w : World) (B : Nat) (v : Value) (xs : List Int) : Prop := ∃ g cap, v = .slice (some ⟨g, 0, none⟩) xs.length cap /\ OwnI w B g xs.length cap xs
section
variable {w w' : World} {B g n cap : Nat} {v : Value} {xs : List Int}
theorem Sl.below (h : Sl w v xs) (hb : Below w.heap.size w w') : Sl w' v xs := by
 obtain ⟨a, c, rfl, h⟩ := h
 refine ⟨a, c, rfl, ?_⟩
 rcases h with h | ⟨b, off, ha, h⟩
 ·exact .inl h
 ·exact .inr ⟨b, off, ha, h.below hb⟩
theorem At.sl {b off : Nat} {c : Nat} (h : At w b off xs) : Sl w (.slice (some ⟨b, off, none⟩) xs.length c) xs := ⟨_, c, rfl, .inr ⟨b, off, rfl, h⟩⟩
theorem OwnI.sl (h : OwnI w B g n cap xs) : Sl w (.slice (some ⟨g, 0, none⟩) n cap) xs := by
 obtain rfl := h.len
 exact h.at.sl
theorem FrI.sl (h : FrI w B v xs) : Sl w v xs := by
 obtain ⟨g, cap, rfl, h⟩ := h
 exact h.sl
theorem OwnI.fr (h : OwnI w B g n cap xs) : FrI w B (.slice (some ⟨g, 0, none⟩) n cap) xs := by
 obtain rfl := h.len
 exact ⟨g, cap, rfl, h⟩
theorem FrI.below (h : FrI w B v xs) (hb : Below w.heap.size w w') : FrI w' B v xs := by
 obtain ⟨g, cap, rfl, h⟩ := h
 exact ⟨g, cap, rfl, h.below hb⟩
theorem FrI.more {B' : Nat} (h : FrI w B v xs) (hB : B' <= B) : FrI w B' v xs := by
 obtain ⟨g, cap, rfl, h⟩ := h
 exact ⟨g, cap, rfl, h.rebase (Nat.le_trans hB h.lt.1)⟩
theorem Sl.nil (w : World) : Sl w (.slice none 0 0) [] := ⟨none, 0, rfl, .inl rfl⟩
end
def IsP (p : Int) : Prop := p = 3 \/ p = 5 \/ p = 7 \/ p = 11 \/ p = 13
instance (p : Int) : Decidable (IsP p) := by unfold IsP; infer_instance
def prB (p : Int) : Bool := decide (IsP p)
theorem IsP.lo {p : Int} (h : IsP p) : 3 <= p := by unfold IsP at h; omega
theorem IsP.hi {p : Int} (h : IsP p) : p <= 13 := by unfold IsP at h; omega
def inR (n l h : Int) : Bool := decide (l <= n) && decide (n <= h)
def isL (p : Int) (xs : List Int) : Bool := xs.all fun n => inR n 0 (p - 1)
theorem isL_fp {p : Int} {xs : List Int} : isL p xs = true ↔ Fp p xs := by
 unfold isL Fp inR
 rw [List.all_eq_true]
 constructor
 ·intro h x hx
  have := h x hx
  simp at this
  omega
 ·intro h x hx
  have := h x hx
  simp
  omega
/-! ### The plain functions of numbers and rows of numbers -/
def powL (p a : Int) : Nat -> Int
 | 0 => 1
 | k + 1 => powL p a k * a % p
def invL (p a : Int) : Int := powL p a (p - 2).toNat
def plusL (p : Int) (xs ys : List Int) (k : Int) : List Int := List.zipWith (fun x y => (x + k * y) % p) xs ys
def scaleL (p : Int) (xs : List Int) (k : Int) : List Int := xs.map fun x => x * k % p
def dotS : List Int -> List Int -> Int
 | x :: xs, y :: ys => x * y + dotS xs ys
 | _, _ => 0
def dotL (p : Int) (xs ys : List Int) : Int := dotS xs ys % p
theorem plusL_len {p k : Int} {xs ys : List Int} (h : ys.length = xs.length) : (plusL p xs ys k).length = xs.length := by unfold plusL; rw [List.length_zipWith, h, Nat.min_self]
theorem scaleL_len {p k : Int} {xs : List Int} : (scaleL p xs k).length = xs.length := by unfold scaleL; rw [List.length_map]
theorem mod_fp {p x : Int} (hp : 1 <= p) : 0 <= x % p /\ x % p < p := ⟨Int.emod_nonneg _ (by omega), Int.emod_lt_of_pos _ (by omega)⟩
theorem mem_zipWith {f : Int -> Int -> Int} {P : Int -> Prop} (h : ∀ a b, P (f a b)) : ∀ (xs ys : List Int), ∀ z ∈ List.zipWith f xs ys, P z
 | [], _, z, hz => by simp at hz
 | _ :: _, [], z, hz => by simp at hz
 | x :: xs, y :: ys, z, hz => by
  rw [List.zipWith_cons_cons] at hz
  rcases List.mem_cons.1 hz with rfl | hz
  ·exact h _ _
  ·exact mem_zipWith h xs ys z hz
theorem plusL_fp {p k : Int} {xs ys : List Int} (hp : 1 <= p) : Fp p (plusL p xs ys k) := mem_zipWith (fun _ _ => mod_fp hp) xs ys
theorem scaleL_fp {p k : Int} {xs : List Int} (hp : 1 <= p) : Fp p (scaleL p xs k) := fun z hz => by
 obtain ⟨x, _, rfl⟩ := List.mem_map.1 hz
 exact mod_fp hp
theorem powL_fp {p a : Int} (hp : 2 <= p) : ∀ k, 0 <= powL p a k /\ powL p a k < p
 | 0 => by simp [powL]; omega
 | k + 1 => mod_fp (by omega)
theorem invL_fp {p a : Int} (hp : 2 <= p) : 0 <= invL p a /\ invL p a < p := powL_fp hp _
theorem plusL_snoc {p k x y : Int} {xs ys : List Int} (h : xs.length = ys.length) : plusL p (xs ++ [x]) (ys ++ [y]) k = plusL p xs ys k ++ [(x + k * y) % p] := by
 unfold plusL
 rw [List.zipWith_append h]; rfl
theorem scaleL_snoc {p k x : Int} {xs : List Int} : scaleL p (xs ++ [x]) k = scaleL p xs k ++ [x * k % p] := by unfold scaleL; rw [List.map_append]; rfl
theorem isL_snoc {p x : Int} {xs : List Int} : isL p (xs ++ [x]) = (isL p xs && inR x 0 (p - 1)) := by unfold isL; rw [List.all_append]; simp
theorem dotS_snoc {x y : Int} : ∀ {xs ys : List Int}, xs.length = ys.length -> dotS (xs ++ [x]) (ys ++ [y]) = dotS xs ys + x * y
 | [], [], _ => by simp [dotS]
 | a :: xs, b :: ys, h => by
  have := dotS_snoc (x := x) (y := y) (xs := xs) (ys := ys) (by simpa using h)
  simp only [List.cons_append, dotS, this]
  omega
theorem dotS_bd {M N : Int} (hM : 0 <= M) (hN : 0 <= N) : ∀ {xs ys : List Int}, Sm M xs -> Sm N ys -> -(xs.length * (M * N)) <= dotS xs ys /\ dotS xs ys <= xs.length * (M * N)
 | [], _, _, _ => by simp [dotS]
 | x :: xs, [], _, _ => by
  have : 0 <= ((x :: xs).length : Int) * (M * N) := Int.mul_nonneg (by omega) (Int.mul_nonneg hM hN)
  simp only [dotS]
  omega
 | x :: xs, y :: ys, hx, hy => by
  have h1 := dotS_bd hM hN (xs := xs) (ys := ys) (fun z hz => hx z (List.mem_cons_of_mem _ hz)) (fun z hz => hy z (List.mem_cons_of_mem _ hz))
  have hx1 := hx x List.mem_cons_self
  have hy1 := hy y List.mem_cons_self
  have h2 := mulb hx1.1 hx1.2 hy1.1 hy1.2
  have h3 : (((x :: xs).length : Nat) : Int) * (M * N) = xs.length * (M * N) + M * N := by
   rw [List.length_cons]; push_cast; rw [Int.add_mul, Int.one_mul]
  simp only [dotS]
  rw [h3]
  omega
theorem tmodb {n p : Int} (hp : 1 <= p) : -p < n.tmod p /\ n.tmod p < p /\ n.tmod p % p = n % p := by
 have h := Int.tmod_eq_emod (a := n) (b := p)
 have h1 := Int.emod_nonneg n (b := p) (by omega)
 have h2 := Int.emod_lt_of_pos n (b := p) (by omega)
 split at h
 ·refine ⟨by omega, by omega, ?_⟩
  rw [h]; simp
 ·refine ⟨by omega, by omega, ?_⟩
  rw [h]
  have : (p.natAbs : Int) = p := by omega
  simp [this]
theorem sm_take {M : Int} {xs : List Int} (h : Sm M xs) (k : Nat) : Sm M (xs.take k) := fun x hx => h x (List.mem_of_mem_take hx)
theorem take_all {α : Type} {xs : List α} {k : Nat} (h : xs.length <= k) : xs.take k = xs := List.take_of_length_le h
end Go.Proofs.YteaaepbnoiecoaaGreat
