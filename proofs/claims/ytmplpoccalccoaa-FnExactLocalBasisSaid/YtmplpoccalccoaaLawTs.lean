/-
  The laws' helpers for lists of triples: equality, marks, what is held.
-/
import Derived.Test.YtmplpoccalccoaaLbG
namespace Go.Proofs.Ytmplpoccalccoaa
open Go.RowKit

/-- A list of triples, read. -/
def Trs (w : World) (v : Value) (Ts : List T3) : Prop := ∃ a c, v = .slice a Ts.length c ∧ (Ts = [] ∨ ∃ b, a = some ⟨b, 0, none⟩ ∧ ∀ j (h : j < Ts.length), ∃ x y z, w.cell? ⟨b, j * 3, none⟩ = some x ∧ w.cell? ⟨b, j * 3 + 1, none⟩ = some y ∧ w.cell? ⟨b, j * 3 + 2, none⟩ = some z ∧ Rs w x Ts[j].A ∧ Rs w y Ts[j].B ∧ Rs w z Ts[j].C)
theorem Trs.below {w w' : World} {v : Value} {Ts : List T3} (h : Trs w v Ts) (hb : Below w.heap.size w w') : Trs w' v Ts := by
  obtain ⟨a, c, rfl, h⟩ := h
  refine ⟨a, c, rfl, ?_⟩
  rcases h with h | ⟨b, rfl, h⟩
  · exact .inl h
  · refine .inr ⟨b, rfl, fun j hj => ?_⟩
    obtain ⟨x, y, z, h1, h2, h3, h4, h5, h6⟩ := h j hj
    exact ⟨x, y, z, kept hb h1, kept hb h2, kept hb h3, h4.below hb, h5.below hb, h6.below hb⟩
/-- What a predicate on triples lets one read. -/
def Reads (E : World → Nat → Nat → Value → Value → Value → T3 → Prop) : Prop := ∀ {w : World} {lo hi : Nat} {a b c : Value} {T : T3}, E w lo hi a b c T → Rs w a T.A ∧ Rs w b T.B ∧ Rs w c T.C
theorem readsG : Reads TrG := fun h => h.rs
theorem readsR : Reads TrR := fun h => h.rs
theorem LsT.trs {E : World → Nat → Nat → Value → Value → Value → T3 → Prop} (hE : Reads E) {w : World} {B : Nat} {v : Value} {zs : List Value} {lh : List (Nat × Nat)} {Ts : List T3} (h : LsT E w B v zs lh Ts) : Trs w v Ts := by
  rcases h.own.2 with ⟨e, h2⟩ | ⟨g, cap, cur, rfl, _⟩
  · have : Ts = [] := List.eq_nil_of_length_eq_zero h2
    subst this
    exact ⟨none, 0, e, .inl rfl⟩
  · refine ⟨_, cap, rfl, .inr ⟨g, rfl, fun j hj => ?_⟩⟩
    obtain ⟨a, b, c, h1, h2, h3, h4, _⟩ := h.els j hj (by rw [h.len]; exact hj)
    have c1 := World.ownsRow.cells h.own (g := g) rfl (3 * j) a h1
    have c2 := World.ownsRow.cells h.own (g := g) rfl (3 * j + 1) b h2
    have c3 := World.ownsRow.cells h.own (g := g) rfl (3 * j + 2) c h3
    rw [addz, Nat.mul_comm] at c1 c2 c3
    obtain ⟨r1, r2, r3⟩ := hE h4
    exact ⟨a, b, c, c1, c2, c3, r1, r2, r3⟩
theorem OwT.trs {E : World → Nat → Nat → Value → Value → Value → T3 → Prop} (hE : Reads E) {w : World} {B : Nat} {v : Value} {Ts : List T3} (h : OwT E w B v Ts) : Trs w v Ts := by
  rcases h with ⟨rfl, rfl⟩ | ⟨zs, lh, h⟩
  · exact ⟨none, 0, rfl, .inl rfl⟩
  · exact h.trs hE
/-- Sizes of a list of triples. -/
structure M8 (M : List (List Int)) : Prop where
  len : M.length ≤ 8
  rows : ∀ r ∈ M, r.length ≤ 8
structure T8 (T : T3) : Prop where
  a : M8 T.A
  b : M8 T.B
  c : M8 T.C
structure Ts8 (Ts : List T3) : Prop where
  len : Ts.length ≤ 192
  all : ∀ T ∈ Ts, T8 T
theorem M8.sum : ∀ {M : List (List Int)}, M8 M → sumL M ≤ 64 := by
  intro M h
  have : ∀ (L : List (List Int)), (∀ r ∈ L, r.length ≤ 8) → sumL L ≤ L.length * 8 := by
    intro L hL
    induction L with
    | nil => simp [sumL]
    | cons x xs ih =>
      have h1 := hL x (by simp)
      have h2 := ih (fun r hr => hL r (by simp [hr]))
      simp only [sumL, List.length_cons, Nat.succ_mul]; omega
  have h1 := this M h.rows
  have h2 := h.len
  omega
theorem M8.big {M : List (List Int)} (h : M8 M) : ∀ xs ∈ M, xs.length ≤ 1048576 := fun xs hx => by have := h.rows xs hx; omega
def sum3 (T : T3) : Nat := sumL T.A + sumL T.B + sumL T.C
def sumT : List T3 → Nat
  | [] => 0
  | T :: Ts => sum3 T + sumT Ts
def cnt3 (k : Int) (T : T3) : T3 := ⟨cntR k T.A, cntR (k + sumL T.A) T.B, cntR (k + sumL T.A + sumL T.B) T.C⟩
def cntT (k : Int) : List T3 → List T3
  | [] => []
  | T :: Ts => cnt3 k T :: cntT (k + sum3 T) Ts
theorem cntT_len {k : Int} {Ts : List T3} : (cntT k Ts).length = Ts.length := by
  induction Ts generalizing k with
  | nil => rfl
  | cons T Ts ih => simp [cntT, ih]
theorem sumT_le {Ts : List T3} (h : ∀ T ∈ Ts, T8 T) : sumT Ts ≤ 192 * Ts.length := by
  induction Ts with
  | nil => simp [sumT]
  | cons T Ts ih =>
    have h1 := ih fun x hx => h x (by simp [hx])
    have h2 := h T (by simp)
    have a := h2.a.sum; have b := h2.b.sum; have c := h2.c.sum
    simp only [sumT, sum3, List.length_cons]; omega
theorem sumT_step {Ts : List T3} {m : Nat} (hm : m < Ts.length) : sumT (Ts.take (m + 1)) = sumT (Ts.take m) + sum3 Ts[m] := by
  induction Ts generalizing m with
  | nil => simp at hm
  | cons T Ts ih =>
    cases m with
    | zero => simp [sumT]
    | succ m =>
      simp only [List.take_succ_cons, sumT, List.getElem_cons_succ]
      rw [ih (by simpa using hm)]; omega
theorem sumT_take {Ts : List T3} {m : Nat} : sumT (Ts.take m) ≤ sumT Ts := by
  induction Ts generalizing m with
  | nil => simp
  | cons T Ts ih =>
    cases m with
    | zero => simp [sumT]
    | succ m => simp only [List.take_succ_cons, sumT]; have := ih (m := m); omega
theorem cntT_get {k : Int} {Ts : List T3} {j : Nat} (h : j < Ts.length) : (cntT k Ts)[j]'(by rw [cntT_len]; exact h) = cnt3 (k + sumT (Ts.take j)) Ts[j] := by
  induction Ts generalizing j k with
  | nil => simp at h
  | cons T Ts ih =>
    cases j with
    | zero => simp [cntT, sumT]
    | succ j =>
      simp only [cntT, List.getElem_cons_succ, List.take_succ_cons, sumT]
      rw [ih (by simpa using h)]
      congr 1; omega
theorem cntT_step {k : Int} {Ts : List T3} {m : Nat} (hm : m < Ts.length) : (cntT k (Ts.take m) ++ Ts.drop m).set m (cnt3 (k + sumT (Ts.take m)) Ts[m]) = cntT k (Ts.take (m + 1)) ++ Ts.drop (m + 1) := by
  induction Ts generalizing m k with
  | nil => simp at hm
  | cons T Ts ih =>
    cases m with
    | zero => simp [cntT, sumT]
    | succ m =>
      simp only [List.take_succ_cons, cntT, List.drop_succ_cons, List.cons_append, List.set_cons_succ, sumT, List.getElem_cons_succ]
      rw [← ih (by simpa using hm)]
      congr 3; omega
set_option maxRecDepth 100000 in
theorem eqtl_c {x y : Value} {Ts : List T3} {w : World} (hx : Trs w x Ts) (hy : Trs w y Ts) (hm : Ts8 Ts) :
    Calls Try.prog 32 #[x, y] w fun e w' => e = .returned (.bool true) ∧ Below w.heap.size w w' := by
  have hlen := hm.len
  obtain ⟨a, c, rfl, hx⟩ := hx
  obtain ⟨a2, c2, rfl, hy⟩ := hy
  go_enter Try.func32, Try.ntmps32
  go_wp2
  go_loopw [5] (fun i wr => ∃ m : Nat, m ≤ Ts.length ∧ i = .int .i64 m ∧ Below w.heap.size w wr) (fun i _ => Ts.length - (intOf i).toNat)
  case atStart => exact ⟨0, Nat.zero_le _, rfl, Below.refl _ _⟩
  case round =>
    obtain ⟨m, hmm, rfl, hb⟩ := hrel
    by_cases hlt : m < Ts.length
    · have hlt2 : (m : Int) < (Ts.length : Int) := by omega
      obtain ⟨b, rfl, hxx⟩ := hx.resolve_left (fun e => by rw [e] at hlt; simp at hlt)
      obtain ⟨b2, rfl, hyy⟩ := hy.resolve_left (fun e => by rw [e] at hlt; simp at hlt)
      obtain ⟨x1, x2, x3, h1, h2, h3, h4, h5, h6⟩ := hxx m hlt
      obtain ⟨y1, y2, y3, k1, k2, k3, k4, k5, k6⟩ := hyy m hlt
      have hT := hm.all _ (List.getElem_mem hlt)
      obtain ⟨T, hTe⟩ : ∃ T, T = Ts[m] := ⟨_, rfl⟩
      rw [← hTe] at h4 h5 h6 k4 k5 k6 hT
      clear hTe
      have hbd := hb.drew
      have h1 := kept hbd h1; have h2 := kept hbd h2; have h3 := kept hbd h3; have k1 := kept hbd k1; have k2 := kept hbd k2; have k3 := kept hbd k3
      have hc := eqt_c (w := wr.drew) (x := .agg #[x1, x2, x3]) (y := .agg #[y1, y2, y3]) (A := T.A) (B := T.B) (C := T.C) ⟨_, _, _, rfl, h4.below hbd, h5.below hbd, h6.below hbd⟩ ⟨_, _, _, rfl, k4.below hbd, k5.below hbd, k6.below hbd⟩
        ⟨⟨by have := hT.a.len; omega, hT.a.big, by have := hT.a.sum; omega⟩, ⟨by have := hT.b.len; omega, hT.b.big, by have := hT.b.sum; omega⟩, ⟨by have := hT.c.len; omega, hT.c.big, by have := hT.c.sum; omega⟩⟩
      clear h4 h5 h6 k4 k5 k6
      go_wp2
      refine region_flow [(false, [(0, 0), (1, 0), (2, 0), (3, 1), (4, 0), (5, 0), (6, 0), (7, 1), (8, 4), (9, 0)])] (by kernel_rfl) ?_
      refine norm_K fun K hK => ?_
      change wpList _ _ _ [_, _, _, _, _, _, _, _, _, _] _ _
      go_wp2_with fail
      refine hc.mono ?_; rintro e w1 ⟨rfl, hb1⟩
      go_wp2_with fail
      first | (refine hK _ _ ⟨rfl, ?_⟩; clear hK K) | refine ⟨rfl, ?_⟩
      go_wp2
      go_roundw
      case rel => exact ⟨m + 1, by omega, by go_num, below_chain hbd hb1⟩
      case measure => simp [intOf]; omega
    · obtain rfl : m = Ts.length := by omega
      have hlt2 : ¬ ((Ts.length : Int) < (Ts.length : Int)) := by omega
      go_wp2
      go_ret
      exact ⟨rfl, hb⟩
set_option maxHeartbeats 1000000 in
set_option maxRecDepth 100000 in
theorem heldtl_c {v : Value} {Ts : List T3} {k : Int} {w : World} (hv : Trs w v (cntT k Ts)) (hm : Ts8 Ts) (hk0 : 0 ≤ k) (hk : k ≤ 1000000) :
    Calls Try.prog 34 #[v, .int .i64 k] w fun e w' => e = .returned (.int .i64 (k + sumT Ts)) ∧ w = w' := by
  have hlen := hm.len
  have hsum := sumT_le hm.all
  obtain ⟨a, c, rfl, hx⟩ := hv
  rw [cntT_len]
  go_enter Try.func34, Try.ntmps34
  go_wp2
  go_loopw [1, 5] (fun q i wr => ∃ m : Nat, m ≤ Ts.length ∧ i = .int .i64 m ∧ q = .int .i64 (k + sumT (Ts.take m)) ∧ wr = w) (fun _ i _ => Ts.length - (intOf i).toNat)
  case atStart => exact ⟨0, Nat.zero_le _, rfl, by simp [sumT], rfl⟩
  case round =>
    obtain ⟨m, hmm, rfl, rfl, rfl⟩ := hrel
    by_cases hlt : m < Ts.length
    · have hlt2 : (m : Int) < (Ts.length : Int) := by omega
      obtain ⟨b, rfl, hxx⟩ := hx.resolve_left (fun e => by have h := congrArg List.length e; rw [cntT_len] at h; simp at h; rw [h] at hlt; simp at hlt)
      obtain ⟨x1, x2, x3, h1, h2, h3, h4, h5, h6⟩ := hxx m (by rw [cntT_len]; exact hlt)
      rw [cntT_get hlt] at h4 h5 h6
      have hT := hm.all _ (List.getElem_mem hlt)
      have hst := sumT_step hlt
      have hsb := sumT_take (Ts := Ts) (m := m)
      obtain ⟨T, hTe⟩ : ∃ T, T = Ts[m] := ⟨_, rfl⟩
      rw [← hTe] at h4 h5 h6 hT hst
      obtain ⟨S, hSe⟩ : ∃ S, S = sumT (Ts.take m) := ⟨_, rfl⟩
      rw [← hSe] at h4 h5 h6 hst hsb ⊢
      have hA := hT.a.sum; have hB := hT.b.sum; have hC := hT.c.sum
      have HST := Lib.hid hst; have HTE := Lib.hid (And.intro hTe hSe)
      clear hst hTe hSe
      obtain ⟨a1, c1, rfl, _⟩ := id h4
      obtain ⟨a2, c2, rfl, _⟩ := id h5
      obtain ⟨a3, c3, rfl, _⟩ := id h6
      have e1 := heldss_c (k := k + S) (xss := T.A) (w := wr) h4 (by omega) (by have := hT.a.len; omega) hT.a.big (by omega) (by omega)
      have e2 := heldss_c (k := k + S + sumL T.A) (xss := T.B) (w := wr) h5 (by omega) (by have := hT.b.len; omega) hT.b.big (by omega) (by omega)
      have e3 := heldss_c (k := k + S + sumL T.A + sumL T.B) (xss := T.C) (w := wr) h6 (by omega) (by have := hT.c.len; omega) hT.c.big (by omega) (by omega)
      clear h4 h5 h6
      go_wp2_with fail
      refine e1.mono ?_; rintro e w' ⟨rfl, rfl⟩
      go_wp2_with fail
      refine e2.mono ?_; rintro e w' ⟨rfl, rfl⟩
      go_wp2_with fail
      refine e3.mono ?_; rintro e w' ⟨rfl, rfl⟩
      go_wp2_with fail
      go_roundw
      case rel => exact ⟨m + 1, by omega, by go_num, by rw [HST.out]; simp only [sum3]; congr 1; omega, by first | rfl | trivial⟩
      case measure => simp [intOf]; omega
    · obtain rfl : m = Ts.length := by omega
      have hlt2 : ¬ ((Ts.length : Int) < (Ts.length : Int)) := by omega
      rw [List.take_length]
      go_wp2
      go_ret
      exact ⟨rfl, by first | rfl | trivial⟩
theorem LsT.mark {w w' : World} {B : Nat} {v : Value} {zs : List Value} {lh : List (Nat × Nat)} {Ts : List T3} (h : LsT TrG w B v zs lh Ts) {m : Nat} (hm : m < Ts.length) (hm' : m < lh.length) {T' : T3} {a b c : Value}
    (h1 : zs[3 * m]? = some a) (h2 : zs[3 * m + 1]? = some b) (h3 : zs[3 * m + 2]? = some c) (hT : TrG w' lh[m].1 lh[m].2 a b c T') (hc : Chg lh[m].1 lh[m].2 w w') : LsT TrG w' B v zs lh (Ts.set m T') := by
  obtain ⟨_, _, _, _, _, _, h4, h5⟩ := h.els m hm hm'
  refine ⟨?_, by rw [List.length_set]; exact h.len, fun j hj hj' => ?_, h.lo, h.pw⟩
  · rw [List.length_set]
    refine ⟨h.own.1, ?_⟩
    rcases h.own.2 with h6 | ⟨g, cap, cur, rfl, h7, hh, h8⟩
    · exact .inl h6
    · exact .inr ⟨g, cap, cur, rfl, h7, by rw [hc.block g (Array.getElem?_eq_some_iff.1 hh).1 (h5 g rfl)]; exact hh, h8⟩
  · rw [List.length_set] at hj
    by_cases e : j = m
    · subst e
      refine ⟨a, b, c, h1, h2, h3, ?_, h5⟩
      rw [List.getElem_set_self]; exact hT
    · obtain ⟨a1, b1, c1, k1, k2, k3, k4, k5⟩ := h.els j hj hj'
      have hs := k4.sz
      refine ⟨a1, b1, c1, k1, k2, k3, ?_, k5⟩
      rw [List.getElem_set_ne (fun e2 => e e2.symm)]
      refine k4.keep (Nat.le_trans hs.2 hc.size) fun q q1 q2 => hc.block q (by omega) ?_
      rcases Nat.lt_or_gt_of_ne e with h6 | h6
      · have := List.pairwise_iff_getElem.1 h.pw j m hj' hm' h6
        left; omega
      · have := List.pairwise_iff_getElem.1 h.pw m j hm' hj' h6
        right; omega
set_option maxHeartbeats 2000000 in
set_option maxRecDepth 100000 in
theorem marktl_c {v : Value} {Ts : List T3} {zs : List Value} {lh : List (Nat × Nat)} {B : Nat} {k : Int} {w : World} (hv : LsT TrG w B v zs lh Ts) (hm : Ts8 Ts) (hk0 : 0 ≤ k) (hk : k ≤ 1000000) :
    Calls Try.prog 33 #[v, .int .i64 k] w fun e w' => e = .returned (.int .i64 (k + sumT Ts)) ∧ LsT TrG w' B v zs lh (cntT k Ts) ∧ Chg B w.heap.size w w' := by
  have hlen := hm.len
  have hsum := sumT_le hm.all
  have htop := hv.top keepsG
  have hlo := hv.lo
  have hll := hv.len
  obtain ⟨ab, cb, rfl⟩ := hv.form
  obtain ⟨N, hN⟩ : ∃ N, N = Ts.length := ⟨_, rfl⟩
  rw [← hN] at hlen hsum hll ⊢
  have hv0 : LsT TrG w B (.slice ab N cb) zs lh Ts := by rw [hN]; exact hv
  have HN := Lib.hid (And.intro hN hll); clear hN hll
  have hv := hv0; clear hv0
  go_enter Try.func33, Try.ntmps33
  go_wp2
  go_loopw [1, 5] (fun q i wr => ∃ m : Nat, m ≤ N ∧ i = .int .i64 m ∧ q = .int .i64 (k + sumT (Ts.take m)) ∧ LsT TrG wr B (.slice ab N cb) zs lh (cntT k (Ts.take m) ++ Ts.drop m) ∧ Chg B w.heap.size w wr) (fun _ i _ => N - (intOf i).toNat)
  case atStart => exact ⟨0, Nat.zero_le _, rfl, by simp [sumT], by simpa [cntT] using hv, Chg.refl⟩
  case round =>
    clear hv
    obtain ⟨m, hmm, rfl, rfl, hL, hch⟩ := hrel
    by_cases hlt : m < N
    · have hlt2 : (m : Int) < (N : Int) := by omega
      have hmt : m < Ts.length := by rw [← HN.out.1]; exact hlt
      have hml : m < lh.length := by rw [HN.out.2]; exact hlt
      have hlc : m < (cntT k (Ts.take m) ++ Ts.drop m).length := by rw [List.length_append, cntT_len, List.length_take, List.length_drop]; omega
      obtain ⟨a, b, c, h1, h2, h3, h4, h5⟩ := hL.els m hlc hml
      have hidx : (cntT k (Ts.take m) ++ Ts.drop m)[m]'hlc = Ts[m] := by
        rw [List.getElem_append_right (by rw [cntT_len, List.length_take]; omega)]
        simp only [cntT_len, List.length_take, List.getElem_drop]
        congr 1; omega
      rw [hidx] at h4
      have hstep := cntT_step (k := k) hmt
      have hmark := fun (W : World) (hT : TrG W lh[m].1 lh[m].2 a b c (cnt3 (k + sumT (Ts.take m)) Ts[m])) hc => hL.mark hlc hml h1 h2 h3 hT hc
      rw [hstep] at hmark
      have hT := hm.all _ (List.getElem_mem hmt)
      have hst := sumT_step hmt
      have hsb := sumT_take (Ts := Ts) (m := m)
      have hlom := hlo _ (List.getElem_mem hml)
      have htom := htop _ (List.getElem_mem hml)
      have hcell : ∀ i z, zs[3 * m + i]? = some z → ∀ g o, ab = some ⟨g, o, none⟩ → wr.cell? ⟨g, m * 3 + i, none⟩ = some z := fun i z hz g o e => by
        subst e
        rcases hL.own.2 with h6 | ⟨g6, cap6, cur6, e6, _⟩
        · cases h6.1
        · cases e6
          have c1 := World.ownsRow.cells hL.own (g := g) rfl (3 * m + i) z hz
          rw [addz, Nat.mul_comm] at c1
          exact c1
      have hab : ∃ g, ab = some ⟨g, 0, none⟩ := by
        rcases hL.own.2 with h6 | ⟨g6, cap6, cur6, e6, _⟩
        · have := h6.2; omega
        · cases e6; exact ⟨g6, rfl⟩
      obtain ⟨gb, rfl⟩ := hab
      have q1 := hcell 0 a h1 gb 0 rfl; have q2 := hcell 1 b h2 gb 0 rfl; have q3 := hcell 2 c h3 gb 0 rfl
      rw [Nat.add_zero] at q1
      have h5g := h5 gb rfl
      obtain ⟨lo, hlo_⟩ : ∃ lo, lo = lh[m].1 := ⟨_, rfl⟩
      obtain ⟨hi, hhi_⟩ : ∃ hi, hi = lh[m].2 := ⟨_, rfl⟩
      rw [← hlo_, ← hhi_] at h4 hmark h5g
      rw [← hlo_] at hlom
      rw [← hhi_] at htom
      obtain ⟨T, hTe⟩ : ∃ T, T = Ts[m] := ⟨_, rfl⟩
      rw [← hTe] at h4 hT hst hmark
      obtain ⟨S, hSe⟩ : ∃ S, S = sumT (Ts.take m) := ⟨_, rfl⟩
      rw [← hSe] at hst hsb hmark ⊢
      have hA := hT.a.sum; have hB := hT.b.sum; have hC := hT.c.sum
      have HST := Lib.hid hst; have HMK := Lib.hid hmark; have HTE := Lib.hid (And.intro hlo_ (And.intro hhi_ (And.intro hTe (And.intro hSe hidx))))
      clear hst hTe hSe hidx hmark hstep hcell h1 h2 h3 h5 hlo_ hhi_ hL
      obtain ⟨g, us, c1, c2, c3, rfl, rfl, rfl, hG⟩ := h4
      have g1 : TG wr lo hi g us ([] ++ T.A ++ (T.B ++ T.C)) := by simpa [List.append_assoc] using hG
      have e1 := markseg_c (cap := c1) (k := k + S) g1 (by omega) (by have := hT.a.len; omega) hT.a.big (by omega) (by omega)
      rw [List.length_nil] at e1
      rw [List.length_append] at q3 HMK
      clear hG g1
      go_wp2_with fail
      refine e1.mono ?_; rintro e w1 ⟨rfl, g2, hc1⟩
      have q2 := hc1.cell q2 h5g; have q3 := hc1.cell q3 h5g
      have g2 : TG w1 lo hi g us (cntR (k + S) T.A ++ T.B ++ T.C) := by simpa [List.append_assoc] using g2
      have e2 := markseg_c (cap := c2) (k := k + S + sumL T.A) g2 (by omega) (by have := hT.b.len; omega) hT.b.big (by omega) (by omega)
      rw [cntR_len] at e2
      clear e1 g2
      go_wp2_with fail
      refine e2.mono ?_; rintro e w2 ⟨rfl, g3, hc2⟩
      have q3 := hc2.cell q3 h5g
      have g3 : TG w2 lo hi g us ((cntR (k + S) T.A ++ cntR (k + S + sumL T.A) T.B) ++ T.C ++ []) := by simpa [List.append_assoc] using g3
      have e3 := markseg_c (cap := c3) (k := k + S + sumL T.A + sumL T.B) g3 (by omega) (by have := hT.c.len; omega) hT.c.big (by omega) (by omega)
      rw [List.length_append, cntR_len, cntR_len] at e3
      clear e2 g3
      go_wp2_with fail
      refine e3.mono ?_; rintro e w3 ⟨rfl, g4, hc3⟩
      have hcc := (hc1.trans hc2).trans hc3
      have hfin := HMK.out w3 ⟨g, us, c1, c2, c3, by simp only [cnt3, cntR_len], by simp only [cnt3, cntR_len], by simp only [cnt3, cntR_len, List.length_append], by simpa [cnt3, List.append_assoc] using g4⟩ hcc
      have hch2 := hch.trans (hcc.wide hlom htom)
      clear e3
      go_wp2_with fail
      go_roundw
      case rel => exact ⟨m + 1, by omega, by go_num, by rw [HST.out]; simp only [sum3]; congr 1; omega, hfin, hch2⟩
      case measure => simp [intOf]; omega
    · obtain rfl : m = N := by omega
      have hlt2 : ¬ ((m : Int) < (m : Int)) := by omega
      have e1 : Ts.take m = Ts := List.take_of_length_le (by rw [HN.out.1]; exact Nat.le_refl _)
      have e2 : Ts.drop m = [] := List.drop_eq_nil_of_le (by rw [HN.out.1]; exact Nat.le_refl _)
      rw [e1, e2, List.append_nil] at hL
      rw [e1]
      have HE := Lib.hid (And.intro e1 e2); clear e1 e2
      go_wp2
      go_ret
      exact ⟨rfl, hL, hch⟩
end Go.Proofs.Ytmplpoccalccoaa
