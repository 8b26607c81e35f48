/-
  The program's count of the vectors with a norm.
-/
import Derived.Test.YtklnpikkkekonaaSphN
import Derived.Test.YtklnpikkkekonaaSrcA
namespace Go.Proofs.Ytklnpikkkekonaa
open Go.RowKit

theorem numI_bd {pn : Nat} {sq : List Int} (hp : pn ≤ 13) (hn : sq.length ≤ 6) (r : Int) : numI pn sq r ≤ 4826809 := by
  refine Nat.le_trans (numI_le sq r) (Nat.le_trans (Nat.pow_le_pow_left hp _) ?_)
  exact Nat.le_trans (Nat.pow_le_pow_right (by decide) hn) (by decide)
theorem stepW_bd {pn m j d : Nat} {s : Int} {T : Nat → Nat} (hp : pn ≤ 13) (hm : m ≤ 13) (hj : j ≤ 13) (hT : ∀ a, T a ≤ 4826809) : stepW pn s T m j d ≤ 1000000000 := by
  have h := stepW_le (n := pn) (s := s) hT (i := m) (j := j) (d := d)
  have h1 : m * (pn * 4826809) ≤ 13 * (13 * 4826809) := Nat.mul_le_mul hm (Nat.mul_le_mul_right _ hp)
  have h2 : j * 4826809 ≤ 13 * 4826809 := Nat.mul_le_mul_right _ hj
  omega
theorem made_set {W : World} {n k : Nat} (u : Int) (hn : n ≤ 1048576) : OwnI (W.alloc (.cells ((madeCells #[Value.int .i64 0] n).setIfInBounds k (.int .i64 u)) 2)) W.heap.size W.heap.size n n ((List.replicate n 0).set k u) := by
  refine OwnI.mk_ (Nat.le_refl _) (heap_alloc_new W _) ?_ ?_ (Nat.le_refl _) (by simp only [maxLen]; omega)
  · simp [madeCells]
  · rw [Array.toList_setIfInBounds, made_list, List.map_set, List.take_of_length_le (by simp)]; simp
theorem OwnI.less {w : World} {B B' g n cap : Nat} {xs : List Int} (h : OwnI w B g n cap xs) (hB : B' ≤ B) : OwnI w B' g n cap xs := by
  refine ⟨h.1, ?_⟩
  rcases h.2 with h2 | ⟨g', cap', cur, e, h3, h4⟩
  · exact .inl h2
  · exact .inr ⟨g', cap', cur, e, Nat.le_trans hB h3, h4⟩
set_option maxHeartbeats 8000000 in
set_option maxRecDepth 100000 in
theorem cntv_c {p r : Int} {x : Value} {sq : List Int} {w : World} (hs : isSp p sq = true) (hx : Sl w x sq) (hr0 : 0 ≤ r) (hr1 : r < p) :
    Calls Try.prog 9 #[.agg #[.int .i64 p, x], .int .i64 r] w fun e w' => e = .returned (.tuple #[.int .i64 (numI p.toNat sq r : Nat), .int .i64 0]) ∧ Below w.heap.size w w' := by
  obtain ⟨hp, n1, n2, hf⟩ := isSp_iff.1 hs
  have hlo := hp.lo
  have hhi := hp.hi
  obtain ⟨pn, rfl⟩ : ∃ n : Nat, p = n := Int.eq_ofNat_of_zero_le (by omega)
  obtain ⟨rn, rfl⟩ : ∃ n : Nat, r = n := Int.eq_ofNat_of_zero_le hr0
  rw [Int.toNat_natCast]
  obtain ⟨a, c, rfl, hx0 | ⟨b, off, rfl, _⟩⟩ := id hx
  · subst hx0; simp at n1
  obtain ⟨W, hW⟩ : ∃ W, W = (w.alloc (.cells #[.int .i64 pn, .slice (some ⟨b, off, none⟩) sq.length c] 26)) := ⟨_, rfl⟩
  have hbW : Below w.heap.size w W := by rw [hW]; exact (by repeat (first | exact Below.refl _ _ | apply blw_drew | apply blw_alloc | (refine blw_set ?_ (by first | omega | (simp; done) | (simp; omega)) _) | refine below_chain ?_ (by assumption)))
  have hxW := hx.below hbW
  have d0 : W.cell? ⟨w.heap.size, 0, none⟩ = some (.int .i64 pn) := by rw [hW]; simp [go_sem]
  have d1 : W.cell? ⟨w.heap.size, 1, none⟩ = some (.slice (some ⟨b, off, none⟩) sq.length c) := by rw [hW]; simp [go_sem]
  have hzW : w.heap.size < W.heap.size := by rw [hW]; simp
  have hcon := isspace_c (p := pn) hxW (by omega)
  rw [hs] at hcon
  rw [hW] at hcon
  go_enter Try.func9, Try.ntmps9
  go_wp2_with fail
  refine hcon.mono ?_; rintro e w1 ⟨rfl, hb1⟩
  rw [← hW] at hb1
  clear hW hcon
  have d0 := kept hb1 d0; have d1 := kept hb1 d1; have hx1 := hxW.below hb1
  have hbw := below_chain hbW hb1
  have hzW := Nat.lt_of_lt_of_le hzW hb1.size
  clear hxW hbW hb1
  go_wp2_with fail
  refine spfield_c.mono ?_; rintro e w2 ⟨rfl, hb2⟩
  have d0 := kept hb2 d0; have d1 := kept hb2 d1; have hx2 := hx1.below hb2
  have hbw := below_chain hbw hb2
  have hzW := Nat.lt_of_lt_of_le hzW hb2.size
  clear hx1 hb2
  have hb3 : Below w2.heap.size w2 (w2.alloc (.cells #[.int .i64 rn] 2)) := (by repeat (first | exact Below.refl _ _ | apply blw_drew | apply blw_alloc | (refine blw_set ?_ (by first | omega | (simp; done) | (simp; omega)) _) | refine below_chain ?_ (by assumption)))
  have hsl : Sl (w2.alloc (.cells #[.int .i64 rn] 2)) (.slice (some ⟨w2.heap.size, 0, none⟩) 1 1) [(rn : Int)] := by
    have h := (OwnI.lit (w := w2) (B := 0) (Nat.zero_le _) [(rn : Int)] (by simp)).sl
    simpa using h
  have hisL : isL pn [(rn : Int)] = true := isL_fp.2 (fun y hy => by rw [List.mem_singleton.1 hy]; omega)
  have hcon := is_c (p := pn) (by omega) (by omega) hsl (by simp)
  rw [hisL] at hcon
  go_wp2_with fail
  refine hcon.mono ?_; rintro e w3 ⟨rfl, rfl⟩
  have d0 := kept hb3 d0; have d1 := kept hb3 d1; have hx3 := hx2.below hb3
  have hbw := below_chain hbw hb3
  have hz3 : w.heap.size < (w2.alloc (.cells #[.int .i64 rn] 2)).heap.size := by simp; omega
  clear hsl hisL hcon hx2 hb3
  generalize w2.alloc (.cells #[.int .i64 rn] 2) = w3 at *
  have hmk := fun W => run_make_row' (P := Try.prog) 24 2 (.int .i64 0) 8 Try.underlying24 infoI rfl .i64 .i64 pn (by omega) (by omega) W
  have hnew := made_own (W := w3) (n := pn) (by omega)
  have hat0 := hnew.at 0 (by rw [List.length_replicate]; omega)
  rw [Nat.zero_add] at hat0
  have hnz := made_set (W := w3) (n := pn) (k := 0) 1 (by omega)
  rw [tabL_one (by omega)] at hnz
  have hbn : Below w3.heap.size w3 (w3.alloc (.cells ((madeCells #[Value.int .i64 0] pn).setIfInBounds 0 (.int .i64 1)) 2)) := blw_alloc (Below.refl _ _) _
  have hpos : 0 < pn := by omega
  go_wp2
  go_loopw [6, 30] (fun u i wr => ∃ (k g : Nat), k ≤ sq.length ∧ i = .int .i64 k ∧ u = .slice (some ⟨g, 0, none⟩) pn pn ∧ OwnI wr w3.heap.size g pn pn (tabL pn (fun d => numI pn (sq.take k) d)) ∧ Below w3.heap.size w3 wr) (fun _ i _ => sq.length - (intOf i).toNat)
  case atStart => exact ⟨0, w3.heap.size, Nat.zero_le _, rfl, rfl, hnz, hbn⟩
  case round =>
    clear hnz hbn hnew hat0
    obtain ⟨k, g, hk, rfl, rfl, hown, hbr⟩ := hrel
    have k0 := kept hbr d0; have k1 := kept hbr d1; have X := hx3.below hbr
    by_cases hlt : k < sq.length
    · obtain ⟨a2, c2, e2, hA0 | ⟨b2, off2, e3, hA⟩⟩ := X
      · rw [hA0] at hlt; simp at hlt
      cases e2; cases e3
      have hcell := hA k hlt
      obtain ⟨s, hsv⟩ : ∃ s, s = sq.getD k 0 := ⟨_, rfl⟩
      rw [← hsv] at hcell
      have hs1 : 0 ≤ s ∧ s < pn := by
        rw [hsv, List.getD_eq_getElem?_getD, List.getElem?_eq_getElem hlt]
        exact hf _ (List.getElem_mem hlt)
      have htk : sq.take (k + 1) = sq.take k ++ [s] := by
        rw [hsv, List.take_succ_eq_append_getElem hlt, List.getD_eq_getElem?_getD, List.getElem?_eq_getElem hlt]; rfl
      obtain ⟨T, hT⟩ : ∃ T : Nat → Nat, T = fun d : Nat => numI pn (sq.take k) d := ⟨_, rfl⟩
      rw [← hT] at hown
      have hTb : ∀ d, T d ≤ 4826809 := fun d => by rw [hT]; exact numI_bd (by omega) (by rw [List.length_take]; omega) _
      have hend := stepW_end (n := pn) hpos s (sq.take k)
      rw [← hT, ← htk] at hend
      have HT := Lib.hid hT; have HTK := Lib.hid htk; have HA := Lib.hid hA; have HSV := Lib.hid hsv; clear hT htk hA hsv
      have hnew := made_own (W := wr) (n := pn) (by omega)
      rw [← tabL_zero] at hnew
      have ho1 := hown.alloc (.cells (madeCells #[Value.int .i64 0] pn) 2)
      have hgl := hown.lt
      have hbn : Below w3.heap.size w3 (wr.alloc (.cells (madeCells #[Value.int .i64 0] pn) 2)) := blw_alloc hbr _
      obtain ⟨g2, hg2⟩ : ∃ g2, g2 = wr.heap.size := ⟨_, rfl⟩
      have hBg := hbr.size
      have hgg : g < g2 := by omega
      have hBg2 : w3.heap.size ≤ g2 := by omega
      have hnew2 : OwnI (wr.alloc (.cells (madeCells #[Value.int .i64 0] pn) 2)) w3.heap.size g2 pn pn (tabL pn (stepW pn s T 0 0)) := by
        rw [hg2]; exact OwnI.less hnew hBg
      clear hnew hBg
      go_wp2_with fail
      rw [← hg2]
      clear hg2
      go_loopw [39] (fun i wx => ∃ m : Nat, m ≤ pn ∧ i = .int .i64 m ∧ OwnI wx w3.heap.size g pn pn (tabL pn T) ∧ OwnI wx w3.heap.size g2 pn pn (tabL pn (stepW pn s T m 0)) ∧ Below w3.heap.size w3 wx) (fun i _ => pn - (intOf i).toNat)
      case atStart => exact ⟨0, Nat.zero_le _, rfl, ho1, hnew2, hbn⟩
      case round =>
        clear ho1 hnew2 hbn hown hbr
        obtain ⟨m, hm, rfl, ho1, hnew2, hbx⟩ := hrel
        have k0 := kept hbx d0; have k1 := kept hbx d1
        by_cases hmp : m < pn
        · have hmp2 : (m : Int) < (pn : Int) := by omega
          have hat1 := ho1.at m (by rw [tabL_len]; exact hmp)
          rw [Nat.zero_add, tabL_get hmp] at hat1
          go_wp2_with fail
          go_loopw [46] (fun i wy => ∃ j : Nat, j ≤ pn ∧ i = .int .i64 j ∧ OwnI wy w3.heap.size g pn pn (tabL pn T) ∧ OwnI wy w3.heap.size g2 pn pn (tabL pn (stepW pn s T m j)) ∧ Below w3.heap.size w3 wy) (fun i _ => pn - (intOf i).toNat)
          case atStart => exact ⟨0, Nat.zero_le _, rfl, ho1, hnew2, hbx⟩
          case round =>
            clear ho1 hnew2 hbx k0 k1 hat1
            obtain ⟨j, hj, rfl, ho1, hnew2, hby⟩ := hrel
            have k0 := kept hby d0; have k1 := kept hby d1
            by_cases hjp : j < pn
            · have hjp2 : (j : Int) < (pn : Int) := by omega
              have m1 := mulb (A := 13) (B := 13) (k := (j : Int)) (y := (j : Int)) (by omega) (by omega) (by omega) (by omega)
              have m2 := mulb (A := 169) (B := 13) (k := (j : Int) * j) (y := s) (by omega) (by omega) (by omega) (by omega)
              have hi1 := Int.emod_nonneg ((m : Int) + (j : Int) * j * s) (b := (pn : Int)) (by omega)
              have hi2 := Int.emod_lt_of_pos ((m : Int) + (j : Int) * j * s) (b := (pn : Int)) (by omega)
              obtain ⟨i0, hi0⟩ := Int.eq_ofNat_of_zero_le hi1
              have hip : i0 < pn := by omega
              have hip2 : (i0 : Int) < (pn : Int) := by omega
              have hset := stepW_set (n := pn) hpos (s := s) (T := T) (i := m) (j := j)
              rw [hi0, Int.toNat_natCast, tabL_get hip] at hset
              have hVb := stepW_bd (pn := pn) (m := m) (j := j) (d := i0) (s := s) (by omega) (by omega) (by omega) hTb
              have hTm := hTb m
              obtain ⟨V, hV⟩ : ∃ V, V = stepW pn s T m j i0 := ⟨_, rfl⟩
              rw [← hV] at hset hVb
              have HI := Lib.hid hi0; have HS := Lib.hid hset
              have HV := Lib.hid hV; clear hi1 hi2 hi0 hset hV
              go_wp2_with fail
              refine spfield_c.mono ?_; rintro e w5 ⟨rfl, hb5⟩
              have hat := hnew2.at i0 (by rw [tabL_len]; exact hip)
              rw [Nat.zero_add, tabL_get hip, ← HV.out] at hat
              have hat := kept hb5 hat; have k0 := kept hb5 k0; have k1 := kept hb5 k1
              have ho1 := ho1.below hb5; have hnew2 := hnew2.below hb5
              have hby := below_chain hby hb5
              have hfr := hnew2.free i0
              clear hb5
              go_wp2_with fail
              refine (num_c (by omega) (by omega)).mono ?_; rintro e w6 ⟨rfl, rfl⟩
              rw [HI.out]
              have hst := hnew2.set (i := i0) ((V : Int) + (T m : Nat))
              rw [HS.out] at hst
              go_wp2_with fail
              go_roundw
              case rel => exact ⟨j + 1, by omega, by go_num, OwnI.chg (Chg.set _ ⟨g2, i0, none⟩ _) ho1 (.inl hgg), hst, hby.setCell (p := ⟨g2, i0, none⟩) hBg2 _⟩
              case measure => simp [intOf]; omega
            · obtain rfl : j = pn := by omega
              have hnj : ¬ ((j : Int) < (j : Int)) := by omega
              rw [tabL_congr (fun d _ => stepW_row)] at hnew2
              go_wp2_with fail
              go_roundw
              case rel => exact ⟨m + 1, by omega, by go_num, ho1, hnew2, hby⟩
              case measure => simp [intOf]; omega
        · obtain rfl : m = pn := by omega
          have hnj : ¬ ((m : Int) < (m : Int)) := by omega
          rw [hend] at hnew2
          go_wp2_with fail
          go_roundw
          case rel => exact ⟨k + 1, g2, by omega, by go_num, rfl, hnew2, hbx⟩
          case measure => simp [intOf]; omega
    · obtain rfl : k = sq.length := by omega
      rw [List.take_length] at hown
      have hrn : rn < pn := by omega
      have hat := hown.at rn (by rw [tabL_len]; exact hrn)
      rw [Nat.zero_add, tabL_get hrn] at hat
      go_wp2_with fail
      go_ret2
      exact ⟨rfl, below_chain hbw hbr⟩
end Go.Proofs.Ytklnpikkkekonaa
