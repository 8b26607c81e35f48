/- Texts joined for a claim: LbC, LbD. -/
import Derived.Test.YtfcdhdkhfdhjfaaJbe
import Derived.Test.YtfcdhdkhfdhjfaaJbc
/-
  Numbers cut in rows of n, by the program and by the reference.
-/
namespace Go.Proofs.Ytfcdhdkhfdhjfaa
open Go.RowKit

def cutN (n : Nat) (xs : List Int) : Nat → List (List Int)
  | 0 => []
  | r + 1 => cutN n xs r ++ [(xs.drop (r * n)).take n]
theorem cutN_len {n : Nat} {xs : List Int} : ∀ r, (cutN n xs r).length = r
  | 0 => rfl
  | r + 1 => by unfold cutN; rw [List.length_append, cutN_len r]; rfl
theorem cutN_row {n : Nat} {xs : List Int} : ∀ r, r * n ≤ xs.length → ∀ y ∈ cutN n xs r, y.length = n
  | 0, _, y, hy => by cases hy
  | r + 1, h, y, hy => by
    rw [Nat.succ_mul] at h
    unfold cutN at hy
    rcases List.mem_append.1 hy with hy | hy
    · exact cutN_row r (by omega) y hy
    · rw [List.mem_singleton.1 hy, List.length_take, List.length_drop]; omega
theorem cutN_take {n m : Nat} {xs : List Int} : ∀ r, r * n ≤ m → cutN n (xs.take m) r = cutN n xs r
  | 0, _ => rfl
  | r + 1, h => by
    rw [Nat.succ_mul] at h
    unfold cutN
    rw [cutN_take r (by omega)]
    congr 2
    rw [List.drop_take, List.take_take]
    congr 1
    omega
theorem cutN_app {n : Nat} {xs : List Int} (a : Nat) : ∀ r, cutN n xs (a + r) = cutN n xs a ++ cutN n (xs.drop (a * n)) r
  | 0 => by simp [cutN]
  | r + 1 => by
    show cutN n xs (a + r) ++ _ = _
    rw [cutN_app a r]
    show _ = _ ++ (cutN n (xs.drop (a * n)) r ++ _)
    rw [List.append_assoc]
    congr 3
    rw [List.drop_drop, show a.add r = a + r from rfl, Nat.add_mul]
set_option maxHeartbeats 1000000 in
set_option maxRecDepth 100000 in
theorem rowsinR_c {x : Value} {xs : List Int} {n R : Nat} {w : World} (hx : El w x xs) (hn : 1 ≤ n) (hn2 : n ≤ 8) (hR : 1 ≤ R) (hR2 : R ≤ 64) (hl : xs.length = R * n) :
    Calls Try.prog 59 #[x, .int .i64 n] w fun e w' => ∃ v us, e = .returned v ∧ FrR w' w.heap.size v us (cutN n xs R) ∧ Below w.heap.size w w' := by
  have hb0 : R * n ≤ 512 := by have := Nat.mul_le_mul hR2 hn2; omega
  have hb1 : 1 ≤ R * n := by have := Nat.mul_le_mul hR hn; omega
  obtain ⟨b, off, c, rfl, h1, h2, hA⟩ := hx.op1 (by omega)
  have hch : ∀ k, k + n ≤ R * n → El w (.slice (some ⟨b, off + k, none⟩) n (c - k)) ((xs.drop k).take n) := fun k hk => (hA.drop k).elT (by rw [List.length_drop]; omega) (by omega) (by omega)
  obtain ⟨N, hN⟩ : ∃ N, N = xs.length := ⟨_, rfl⟩
  rw [← hN] at h1 hl ⊢
  rw [← hl] at hch hb0 hb1
  have HL := Lib.hid (And.intro hN hl)
  clear hA hx hN hl
  go_enter Try.func59, Try.ntmps59
  go_wp2
  go_loopw [5, 6] (fun o i wr => ∃ (r q g cap : Nat) (us : List Value), r ≤ R ∧ q = r * n ∧ i = .int .i64 q ∧ o = .slice (some ⟨g, 0, none⟩) us.length cap ∧ us.length = r ∧ OwV wr w.heap.size (.slice (some ⟨g, 0, none⟩) us.length cap) us ∧ RowsA wr w.heap.size us (cutN n xs r) ∧ Below w.heap.size w wr)
    (fun _ i _ => N - (intOf i).toNat)
  case atStart => exact ⟨0, 0, w.heap.size, 0, [], Nat.zero_le _, by simp, rfl, rfl, rfl, OwV.new (Nat.le_refl _), RowsA.nil _ _, (by repeat (first | exact .refl _ _ | apply bwD | apply bwA | (refine bwS ?_ (by first | omega | simp <;> omega) _) | refine bwC ?_ (by assumption)))⟩
  case round =>
    obtain ⟨r, q, g, cap, us, hr, hq, rfl, rfl, hu, ho, hrow, hb⟩ := hrel
    have HU := Lib.hid hu; have HQ := Lib.hid hq; clear hu hq
    by_cases hlt : r < R
    · have hqn : q + n ≤ N := by
        have := Nat.mul_le_mul_right n (show r + 1 ≤ R from hlt)
        rw [Nat.succ_mul, ← HQ.out, ← HL.out.2] at this; omega
      have hc := (hch q hqn).below hb
      have hlen : ((xs.drop q).take n).length = n := by rw [List.length_take, List.length_drop, ← HL.out.1]; omega
      have hstep : cutN n xs (r + 1) = cutN n xs r ++ [(xs.drop q).take n] := by rw [HQ.out]; rfl
      obtain ⟨y, hy⟩ : ∃ y, y = (xs.drop q).take n := ⟨_, rfl⟩
      rw [← hy] at hc hlen hstep
      have LN := Lib.hid hlen; have HS := Lib.hid hstep; clear hlen hstep hy
      have hq1 : (q : Int) < (N : Int) := by omega
      have hq2 : q < N := by omega
      go_wp2_with fail
      refine (clone_c hc.sl (by have := LN.out; omega) (by have := LN.out; omega)).mono ?_; rintro e w1 ⟨v, rfl, hv, hb1⟩
      have hf := hrow.fresh hv
      have ho := ho.below hb1; have hrow := hrow.below hb1
      obtain ⟨g1, cap1, rfl, hv1⟩ := id hv
      rw [LN.out] at hv hf ⊢
      have hbw := bwC hb hb1
      go_wp2_with (at_builtin; refine appr_one rfl _ _ rfl w1 w.heap.size w1.heap.size rfl (.slice (some ⟨g, 0, none⟩) us.length cap) us rfl (.slice (some ⟨g1, 0, none⟩) n cap1) 1 rfl rfl ho hbw.size (by have := HU.out; omega) ?_; intro g' cap' w' ho' hb' hg' hge)
      go_roundw
      case rel => exact ⟨r + 1, q + n, g', cap', us ++ [.slice (some ⟨g1, 0, none⟩) n cap1], by omega, by rw [Nat.succ_mul, HQ.out], by go_num, by rw [List.length_append]; rfl, by rw [List.length_append, HU.out]; rfl, by rw [List.length_append]; exact ho', by rw [HS.out]; exact (hrow.app ho hg').snoc ((hv.more hb.size).app ho hg') hf, hbw.trans hb'⟩
      case measure => simp [intOf]; omega
    · obtain rfl : r = R := by omega
      have hqN : q = N := by rw [HQ.out, HL.out.2]
      have hq1 : ¬ ((q : Int) < (N : Int)) := by omega
      have hqN2 := Lib.hid hqN; clear hqN
      go_wp2_with fail
      go_ret
      exact ⟨_, rfl, ⟨us, frR_mk hrow ho (by have := HU.out; omega)⟩, hb⟩
set_option maxHeartbeats 1000000 in
set_option maxRecDepth 100000 in
theorem scutR_c {x : Value} {xs : List Int} {n R : Nat} {w : World} (hx : El w x xs) (hn : 1 ≤ n) (hn2 : n ≤ 8) (hR : 1 ≤ R) (hR2 : R ≤ 64) (hl : xs.length = R * n) :
    Calls Try.prog 47 #[x, .int .i64 n] w fun e w' => ∃ v us, e = .returned v ∧ FrR w' w.heap.size v us (cutN n xs R) ∧ Below w.heap.size w w' := by
  have hb0 : R * n ≤ 512 := by have := Nat.mul_le_mul hR2 hn2; omega
  have hb1 : 1 ≤ R * n := by have := Nat.mul_le_mul hR hn; omega
  obtain ⟨b, off, c, rfl, h1, h2, hA⟩ := hx.op1 (by omega)
  have hch : ∀ k, k + n ≤ R * n → El w (.slice (some ⟨b, off + k, none⟩) n (c - k)) ((xs.drop k).take n) := fun k hk => (hA.drop k).elT (by rw [List.length_drop]; omega) (by omega) (by omega)
  obtain ⟨N, hN⟩ : ∃ N, N = xs.length := ⟨_, rfl⟩
  rw [← hN] at h1 hl ⊢
  rw [← hl] at hch hb0 hb1
  have HL := Lib.hid (And.intro hN hl)
  clear hA hx hN hl
  go_enter Try.func47, Try.ntmps47
  go_wp2
  go_loopw [5, 6] (fun o i wr => ∃ (r q g cap : Nat) (us : List Value), r ≤ R ∧ q = r * n ∧ i = .int .i64 q ∧ o = .slice (some ⟨g, 0, none⟩) us.length cap ∧ us.length = r ∧ OwV wr w.heap.size (.slice (some ⟨g, 0, none⟩) us.length cap) us ∧ RowsA wr w.heap.size us (cutN n xs r) ∧ Below w.heap.size w wr)
    (fun _ i _ => N - (intOf i).toNat)
  case atStart => exact ⟨0, 0, w.heap.size, 0, [], Nat.zero_le _, by simp, rfl, rfl, rfl, OwV.new (Nat.le_refl _), RowsA.nil _ _, (by repeat (first | exact .refl _ _ | apply bwD | apply bwA | (refine bwS ?_ (by first | omega | simp <;> omega) _) | refine bwC ?_ (by assumption)))⟩
  case round =>
    obtain ⟨r, q, g, cap, us, hr, hq, rfl, rfl, hu, ho, hrow, hb⟩ := hrel
    have HU := Lib.hid hu; have HQ := Lib.hid hq; clear hu hq
    by_cases hlt : r < R
    · have hqn : q + n ≤ N := by
        have := Nat.mul_le_mul_right n (show r + 1 ≤ R from hlt)
        rw [Nat.succ_mul, ← HQ.out, ← HL.out.2] at this; omega
      have hc := (hch q hqn).below hb
      have hlen : ((xs.drop q).take n).length = n := by rw [List.length_take, List.length_drop, ← HL.out.1]; omega
      have hstep : cutN n xs (r + 1) = cutN n xs r ++ [(xs.drop q).take n] := by rw [HQ.out]; rfl
      obtain ⟨y, hy⟩ : ∃ y, y = (xs.drop q).take n := ⟨_, rfl⟩
      rw [← hy] at hc hlen hstep
      have LN := Lib.hid hlen; have HS := Lib.hid hstep; clear hlen hstep hy
      have hq1 : (q : Int) < (N : Int) := by omega
      have hq2 : q < N := by omega
      go_wp2_with fail
      refine (own_c hc.sl (by have := LN.out; omega) (by have := LN.out; omega)).mono ?_; rintro e w1 ⟨v, rfl, hv, hb1⟩
      have hf := hrow.fresh hv
      have ho := ho.below hb1; have hrow := hrow.below hb1
      obtain ⟨g1, cap1, rfl, hv1⟩ := id hv
      rw [LN.out] at hv hf ⊢
      have hbw := bwC hb hb1
      go_wp2_with (at_builtin; refine appr_one rfl _ _ rfl w1 w.heap.size w1.heap.size rfl (.slice (some ⟨g, 0, none⟩) us.length cap) us rfl (.slice (some ⟨g1, 0, none⟩) n cap1) 1 rfl rfl ho hbw.size (by have := HU.out; omega) ?_; intro g' cap' w' ho' hb' hg' hge)
      go_roundw
      case rel => exact ⟨r + 1, q + n, g', cap', us ++ [.slice (some ⟨g1, 0, none⟩) n cap1], by omega, by rw [Nat.succ_mul, HQ.out], by go_num, by rw [List.length_append]; rfl, by rw [List.length_append, HU.out]; rfl, by rw [List.length_append]; exact ho', by rw [HS.out]; exact (hrow.app ho hg').snoc ((hv.more hb.size).app ho hg') hf, hbw.trans hb'⟩
      case measure => simp [intOf]; omega
    · obtain rfl : r = R := by omega
      have hqN : q = N := by rw [HQ.out, HL.out.2]
      have hq1 : ¬ ((q : Int) < (N : Int)) := by omega
      have hqN2 := Lib.hid hqN; clear hqN
      go_wp2_with fail
      go_ret
      exact ⟨_, rfl, ⟨us, frR_mk hrow ho (by have := HU.out; omega)⟩, hb⟩
end Go.Proofs.Ytfcdhdkhfdhjfaa
/-
  Rows of a table of the call's own, marked in parts; triples out of them.
-/
namespace Go.Proofs.Ytfcdhdkhfdhjfaa
open Go.RowKit

structure TG (w : World) (lo hi g : Nat) (us : List Value) (xss : List (List Int)) : Prop where
  rows : RowsI w lo hi us xss
  lo_ : lo ≤ g
  hi_ : g < hi
  sz : hi ≤ w.heap.size
  cells : ∀ j (h : j < us.length), w.cell? ⟨g, j, none⟩ = some us[j]
  ne : ∀ z ∈ us, z.ownBlock ≠ some g
theorem FrI.owI {w : World} {B : Nat} {v : Value} {xs : List Int} (h : FrI w B v xs) : OwI w B v xs := by
  obtain ⟨g, cap, rfl, h⟩ := h
  exact .inr ⟨g, cap, cap, rfl, h⟩
theorem FrR.tg {w : World} {B : Nat} {v : Value} {us : List Value} {xss : List (List Int)} (h : FrR w B v us xss) : ∃ g cap, v = .slice (some ⟨g, 0, none⟩) us.length cap ∧ us.length ≤ cap ∧ cap ≤ 9223372036854775807 ∧ TG w B w.heap.size g us xss := by
  obtain ⟨g0, cap0, e0, hB, hz, hc1, hc2⟩ := h.lt
  obtain ⟨g, cap, rfl, h1, h2, h3, h4⟩ := h
  cases e0
  simp only [maxLen] at hc2
  have hcell : ∀ j (h : j < us.length), w.cell? ⟨g0, j, none⟩ = some us[j] := fun j hj => by
    have h := World.ownsRow.cells h1 (g := g0) rfl j us[j] (List.getElem?_eq_getElem hj)
    rw [addz] at h
    exact h
  have hblk : ∀ z ∈ us, ∃ k, z.ownBlock = some k ∧ B ≤ k ∧ k < w.heap.size := fun z hz => by
    obtain ⟨j, hj, rfl⟩ := List.mem_iff_getElem.1 hz
    exact (h3 j hj (by omega)).blk
  refine ⟨g0, cap0, rfl, by omega, by omega, ⟨⟨h2, fun j a b => (h3 j a b).owI, fun z hz k hk => ?_, ?_⟩, hB, hz, Nat.le_refl _, hcell, fun z hz => ?_⟩⟩
  · obtain ⟨k', e, _, h5⟩ := hblk z hz
    rw [e] at hk; cases hk; exact h5
  · refine h4.imp_of_mem fun {a b} ha hb hne k hk e => ?_
    exact hne (by rw [hk, e])
  · obtain ⟨j, hj, rfl⟩ := List.mem_iff_getElem.1 hz
    have hr := (h3 j hj (by omega))
    rcases apart (hr.own) (show OwV w B _ us from h1) with h5 | h5
    · rw [h5]; simp
    · exact fun e => h5 (by rw [e]; rfl)
section
variable {w w' : World} {lo hi g n : Nat} {us : List Value} {xss P M S : List (List Int)}
theorem OwI.keepB {B : Nat} {v : Value} {xs : List Int} (h : OwI w B v xs) (he : ∀ k, v.ownBlock = some k → w'.heap[k]? = w.heap[k]?) : OwI w' B v xs := by
  rcases h with h | ⟨g, cap, cap', rfl, h⟩
  · exact .inl h
  · refine .inr ⟨g, cap, cap', rfl, ⟨h.1, ?_⟩⟩
    rcases h.2 with h2 | ⟨g1, c1, cur, e, h3, h4, h5⟩
    · exact .inl h2
    · cases e
      exact .inr ⟨_, _, cur, rfl, h3, by rw [he g rfl]; exact h4, h5⟩
theorem TG.keep (h : TG w lo hi g us xss) (hz : hi ≤ w'.heap.size) (hk : ∀ b, lo ≤ b → b < hi → w'.heap[b]? = w.heap[b]?) : TG w' lo hi g us xss := by
  refine ⟨⟨h.rows.len, fun j a b => (h.rows.rows j a b).keepB fun k hk' => hk k ?_ (h.rows.hib _ (List.getElem_mem a) k hk'), h.rows.hib, h.rows.pw⟩, h.lo_, h.hi_, hz, fun j hj => ?_, h.ne⟩
  · exact ((h.rows.rows j a b).blk k hk').1
  · rw [World.cell?_of_block (w := w) (hk g h.lo_ h.hi_)]; exact h.cells j hj
theorem TG.chg {a b : Nat} (h : TG w lo hi g us xss) (hc : Chg a b w w') (hr : hi ≤ a ∨ b ≤ lo) : TG w' lo hi g us xss :=
  h.keep (Nat.le_trans h.sz hc.size) fun k h1 h2 => hc.block k (by have := h.sz; omega) (by omega)
theorem TG.below (h : TG w lo hi g us xss) (hb : Below w.heap.size w w') : TG w' lo hi g us xss :=
  h.keep (Nat.le_trans h.sz hb.size) fun k _ h2 => hb.block k (by have := h.sz; omega)
theorem TG.rs (h : TG w lo hi g us (P ++ M ++ S)) (cap : Nat) : Rs w (.slice (some ⟨g, P.length, none⟩) M.length cap) M := by
  have hl := h.rows.len
  rw [List.length_append, List.length_append] at hl
  refine ⟨_, cap, rfl, .inr ⟨g, P.length, rfl, fun j hj => ⟨us[P.length + j]'(by omega), h.cells _ (by omega), ?_⟩⟩⟩
  have hr := h.rows.rows (P.length + j) (by omega) (by rw [List.length_append, List.length_append]; omega)
  have e : (P ++ M ++ S)[P.length + j]'(by rw [List.length_append, List.length_append]; omega) = M[j] := by
    rw [List.getElem_append_left (by rw [List.length_append]; omega), List.getElem_append_right (by omega)]
    congr 1; omega
  rw [e] at hr
  exact hr.sl
end
theorem mid_set {P X S : List (List Int)} {m : Nat} {y : List Int} (hm : m < X.length) : (P ++ X ++ S).set (P.length + m) y = P ++ X.set m y ++ S := by
  rw [List.set_append_left _ _ (by rw [List.length_append]; omega), List.set_append_right _ _ (by omega)]
  congr 3; omega
theorem markseg_c {lo hi g cap : Nat} {us : List Value} {P M S : List (List Int)} {k : Int} {w : World} (hv : TG w lo hi g us (P ++ M ++ S)) (hS : sumL M ≤ 10000000) (hl : M.length ≤ 1048576) (h3 : ∀ xs ∈ M, xs.length ≤ 1048576) (hk0 : 0 ≤ k) (hk : k ≤ 10000000000) :
    Calls Try.prog 14 #[.slice (some ⟨g, P.length, none⟩) M.length cap, .int .i64 k] w fun e w' => e = .returned (.int .i64 (k + sumL M)) ∧ TG w' lo hi g us (P ++ cntR k M ++ S) ∧ Chg lo hi w w' := by
  obtain ⟨o, ho⟩ : ∃ o, o = P.length := ⟨_, rfl⟩
  obtain ⟨n, hn⟩ : ∃ n, n = M.length := ⟨_, rfl⟩
  have hul := hv.rows.len
  rw [List.length_append, List.length_append, ← ho, ← hn] at hul
  rw [← ho, ← hn]
  rw [← hn] at hl
  have HU := Lib.hid (And.intro hul (And.intro ho hn)); clear hul ho hn
  go_enter Try.func14, Try.ntmps14
  go_wp2
  go_loopw [1, 5] (fun q i wr => ∃ m : Nat, m ≤ n ∧ i = .int .i64 m ∧ q = .int .i64 (k + sumL (M.take m)) ∧ TG wr lo hi g us (P ++ (cntR k (M.take m) ++ M.drop m) ++ S) ∧ Chg lo hi w wr)
    (fun _ i _ => n - (intOf i).toNat)
  case atStart => exact ⟨0, Nat.zero_le _, rfl, by simp [sumL], by simpa [cntR] using hv, Chg.refl⟩
  case round =>
    obtain ⟨m, hm, rfl, rfl, ht, hch⟩ := hrel
    have hsb := sumL_take (xss := M) (m := m)
    by_cases hlt : m < n
    · have hlx : m < M.length := by have := HU.out; omega
      have hou : o + m < us.length := by have := HU.out; omega
      obtain ⟨hst1, hst2⟩ := mark_step (k := k) hlx
      have h3m := h3 _ (List.getElem_mem hlx)
      have hrow := ht.rows.rows (o + m) hou (by rw [← ht.rows.len]; exact hou)
      have hidx : (P ++ (cntR k (M.take m) ++ M.drop m) ++ S)[o + m]'(by rw [← ht.rows.len]; exact hou) = M[m] := by
        rw [List.getElem_append_left (by rw [List.length_append, List.length_append, cntR_len, List.length_take, List.length_drop]; have := HU.out; omega)]
        rw [List.getElem_append_right (by have := HU.out; omega), List.getElem_append_right (by rw [cntR_len, List.length_take]; have := HU.out; omega)]
        simp only [cntR_len, List.length_take, List.getElem_drop]
        congr 1; have := HU.out; omega
      rw [hidx] at hrow
      have hcm := ht.cells (o + m) hou
      have hzm := ht.ne _ (List.getElem_mem hou)
      have hset : (P ++ (cntR k (M.take m) ++ M.drop m) ++ S).set (o + m) (cnt (k + sumL (M.take m)) M[m].length) = P ++ (cntR k (M.take (m + 1)) ++ M.drop (m + 1)) ++ S := by
        rw [HU.out.2.1, mid_set (by rw [List.length_append, cntR_len, List.length_take, List.length_drop]; omega), hst1]
      have hmk := fun (W : World) (hy : OwI W lo us[o + m] (cnt (k + sumL (M.take m)) M[m].length)) (hg : wr.grownBy W us[o + m].ownBlock) => ht.rows.mark hou hy hg
      rw [hset] at hmk
      have hzb := ht.rows.hib _ (List.getElem_mem hou)
      obtain ⟨z, hz⟩ : ∃ z, z = us[o + m] := ⟨_, rfl⟩
      rw [← hz] at hrow hcm hzm hzb hmk
      obtain ⟨xs, hxs⟩ : ∃ xs, xs = M[m] := ⟨_, rfl⟩
      rw [← hxs] at hrow hst2 h3m hmk
      obtain ⟨a9, c9, rfl, _⟩ := id hrow.sl
      obtain ⟨Q, hQ⟩ : ∃ Q, Q = sumL (M.take m) := ⟨_, rfl⟩
      rw [← hQ] at hsb hst2 hmk ⊢
      have H2 := Lib.hid hst2; have HHM := Lib.hid hmk; have HZ := Lib.hid (And.intro hz (And.intro hxs hQ)); have HT := Lib.hid ht
      clear hst1 hst2 hz hxs hQ hidx hset hmk ht
      go_wp2_with (go_at_call 37; refine (mark_c hrow (by omega) (by omega) (by omega)).mono ?_; rintro e w1 ⟨rfl, hz1, hg1⟩)
      go_roundw
      case rel =>
        have hT := HT.out
        refine ⟨m + 1, by omega, by go_num, by rw [H2.out, show k + ((Q + xs.length : Nat) : Int) = k + Q + xs.length by omega], ⟨HHM.out _ hz1 hg1, hT.lo_, hT.hi_, Nat.le_trans hT.sz hg1.size, fun j hj => ?_, hT.ne⟩, hch.trans (Chg.grown hg1 (fun j hj => ⟨(hrow.blk j hj).1, hzb j hj⟩))⟩
        have hold := hT.cells j hj
        rw [World.cell?_of_block (w := wr) (hg1.block g (World.block_lt_of_cell? wr _ hold) (Ne.symm hzm))]; exact hold
      case measure => simp [intOf]; omega
    · obtain rfl : m = n := by omega
      have e1 : M.take m = M := take_all (by have := HU.out; omega)
      have e2 : M.drop m = [] := List.drop_eq_nil_of_le (by have := HU.out; omega)
      rw [e1, e2, List.append_nil] at ht
      rw [e1]
      have H1 := Lib.hid e1; clear e1 e2
      go_wp2
      go_ret
      exact ⟨rfl, ht, hch⟩
end Go.Proofs.Ytfcdhdkhfdhjfaa
