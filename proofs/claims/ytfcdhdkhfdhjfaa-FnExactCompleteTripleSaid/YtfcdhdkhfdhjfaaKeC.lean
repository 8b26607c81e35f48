/-
  The kernel of rows by the reference: the walk.
-/
import Derived.Test.YtfcdhdkhfdhjfaaJbi
import Derived.Test.YtfcdhdkhfdhjfaaLinE
import Derived.Test.YtfcdhdkhfdhjfaaLinF
namespace Go.Proofs.Ytfcdhdkhfdhjfaa
open Go.RowKit

theorem sindex_c {x : Value} {xs : List Int} {n : Int} {w : World} (hx : Sl w x xs) (hm : xs.length ≤ 1000000) :
    Calls Try.prog 87 #[x, .int .i64 n] w fun e w' => ∃ y : Int, e = .returned (.int .i64 y) ∧ ((y = -1 ∧ n ∉ xs) ∨ (0 ≤ y ∧ n ∈ xs)) ∧ w = w' := by
  obtain ⟨a, c, rfl, h⟩ := hx
  go_enter Try.func87, Try.ntmps87
  go_wp2
  go_loopw [5] (fun i wr => ∃ k : Nat, k ≤ xs.length ∧ i = .int .i64 k ∧ n ∉ xs.take k ∧ wr = w) (fun i _ => xs.length - (intOf i).toNat)
  case atStart => exact ⟨0, Nat.zero_le _, rfl, by simp, rfl⟩
  case round =>
    obtain ⟨k, hk, rfl, hno, rfl⟩ := hrel
    by_cases hlt : k < xs.length
    · have hlt2 : (k : Int) < (xs.length : Int) := by omega
      obtain ⟨b, off, rfl, hA⟩ := h.resolve_left (fun e => by rw [e] at hlt; simp at hlt)
      have hc := hA k hlt
      have htk : xs.take (k + 1) = xs.take k ++ [xs.getD k 0] := by
        rw [List.take_succ_eq_append_getElem hlt, List.getD_eq_getElem?_getD, List.getElem?_eq_getElem hlt]; rfl
      have hmem : xs.getD k 0 ∈ xs := by
        rw [List.getD_eq_getElem?_getD, List.getElem?_eq_getElem hlt]
        exact List.getElem_mem hlt
      obtain ⟨y, hy⟩ : ∃ y, y = xs.getD k 0 := ⟨_, rfl⟩
      rw [← hy] at hc htk hmem
      have HT := Lib.hid htk; clear htk hy
      by_cases he : y = n
      · subst he
        go_wp2
        go_ret
        exact ⟨k, rfl, by first | exact .inr ⟨by omega, hmem⟩ | simp [hmem], by first | rfl | trivial⟩
      · have hne : (y == n) = false := by simpa using he
        go_wp2
        go_roundw
        case rel => exact ⟨k + 1, by omega, by go_num, by rw [HT.out, List.mem_append]; rintro (h1 | h1); exact hno h1; exact he (List.mem_singleton.1 h1).symm, by first | rfl | trivial⟩
        case measure => simp [intOf]; omega
    · obtain rfl : k = xs.length := by omega
      have hlt2 : ¬ ((xs.length : Int) < (xs.length : Int)) := by omega
      rw [List.take_length] at hno
      go_wp2
      go_ret
      exact ⟨-1, rfl, by first | exact .inl ⟨rfl, hno⟩ | simp | simp [hno], by first | rfl | trivial⟩
theorem shas_c {x : Value} {xs : List Int} {n : Int} {w : World} (hx : Sl w x xs) (hm : xs.length ≤ 1000000) :
    Calls Try.prog 66 #[x, .int .i64 n] w fun e w' => e = .returned (.bool (decide (n ∈ xs))) ∧ w = w' := by
  go_enter Try.func66, Try.ntmps66
  go_wp2_with fail
  refine (sindex_c hx hm).mono ?_; rintro e w1 ⟨y, rfl, h, rfl⟩
  rcases h with ⟨rfl, h⟩ | ⟨h0, h⟩
  · go_wp2
    go_ret
    exact ⟨by rw [decide_eq_false h]; first | rfl | simp, by first | rfl | trivial⟩
  · have hge : decide (0 ≤ y) = true := decide_eq_true h0
    go_wp2
    go_ret
    exact ⟨by rw [decide_eq_true h]; first | rfl | simp [h0], by first | rfl | trivial⟩
theorem take_ld {R : List (List Int)} {k : Nat} (hk : k < R.length) (x : Nat) : (ldB (R.take k) x || x == leadN R[k]) = ldB (R.take (k + 1)) x := by
  unfold ldB
  rw [List.take_succ_eq_append_getElem hk, List.any_append]
  simp only [List.any_cons, List.any_nil, Bool.or_false]
  congr 1
  rw [Bool.eq_iff_iff, beq_iff_eq, beq_iff_eq]
  exact ⟨fun h => h.symm, fun h => h.symm⟩
def pivL (R : List (List Int)) : List Int := R.map fun r => ((leadN r : Nat) : Int)
theorem piv_has {R : List (List Int)} {c : Nat} : decide ((c : Int) ∈ pivL R) = ldB R c := by
  rw [Bool.eq_iff_iff, decide_eq_true_eq, ldB_iff]
  unfold pivL
  constructor
  · intro h
    obtain ⟨r, hr, e⟩ := List.mem_map.1 h
    obtain ⟨i, hi, rfl⟩ := List.mem_iff_getElem.1 hr
    exact ⟨i, hi, by omega⟩
  · rintro ⟨i, hi, e⟩
    exact List.mem_map.2 ⟨R[i], List.getElem_mem hi, by omega⟩
theorem OwN.slC {w : World} {B : Nat} {v : Value} {xs : List Int} (h : OwN w B v xs) : Sl w v xs := by
  cases xs with
  | nil =>
    rcases h.2 with ⟨h2, _⟩ | ⟨g, cap, cur, rfl, _⟩
    · rw [h2]; exact ⟨_, 0, rfl, .inl rfl⟩
    · exact ⟨_, cap, rfl, .inl rfl⟩
  | cons x r => exact (h.fr (by simp)).sl
theorem OwN.formC {w : World} {B : Nat} {v : Value} {xs : List Int} (h : OwN w B v xs) : ∃ a c, v = .slice a xs.length c := by
  obtain ⟨a, c, e, _⟩ := h.slC
  exact ⟨a, c, e⟩
set_option maxHeartbeats 8000000 in
set_option maxRecDepth 100000 in
theorem skernel_c {p : Int} {rows : Value} {m : Nat} {L : List (List Int)} {w : World} (hp : IsP p) (hL : Rw p m L) (hr : Re w rows L) (hm1 : 1 ≤ m) (hm2 : m ≤ 1000) (hn : L.length ≤ 100000) :
    Calls Try.prog 46 #[.int .i64 p, .int .i64 m, rows] w fun e w' => ∃ v, e = .returned v ∧ Re w' v (kerL p m L) ∧ Below w.heap.size w w' := by
  have hp1 := hp.lo
  have hp2 := hp.hi
  obtain ⟨ar, cr, rfl, _⟩ := id hr
  go_enter Try.func46, Try.ntmps46
  go_wp2_with fail
  refine (sreduced_c hp hL hr hm1 hm2 (by omega)).mono ?_; rintro e w1 ⟨v7, rfl, hv7, hb1⟩
  have hRr := (redL_rref hp hL).1
  obtain ⟨R, hRe⟩ : ∃ R, R = redL p L := ⟨_, rfl⟩
  rw [← hRe] at hv7 hRr
  have HKB := Lib.hid hRe; clear hRe
  have hRl := hRr.short
  obtain ⟨a7, c7, rfl, h71, h72, hR7⟩ := id hv7
  have hbA : Below w1.heap.size w1 (w1.alloc (.cells #[] 22)) := (by repeat (first | exact .refl _ _ | apply bwD | apply bwA | (refine bwS ?_ (by first | omega | simp <;> omega) _) | refine bwC ?_ (by assumption)))
  have hoA : OwV (w1.alloc (.cells #[] 22)) w1.heap.size (.slice (some ⟨w1.heap.size, 0, none⟩) 0 0) [] := OwV.new (Nat.le_refl _)
  have hzA : (w1.alloc (.cells #[] 22)).heap.size = w1.heap.size + 1 := by simp
  have hbP : Below (w1.alloc (.cells #[] 22)).heap.size (w1.alloc (.cells #[] 22)) ((w1.alloc (.cells #[] 22)).alloc (.cells #[] 2)) := (by repeat (first | exact .refl _ _ | apply bwD | apply bwA | (refine bwS ?_ (by first | omega | simp <;> omega) _) | refine bwC ?_ (by assumption)))
  have hoP : OwN ((w1.alloc (.cells #[] 22)).alloc (.cells #[] 2)) (w1.heap.size + 1) (.slice (some ⟨w1.heap.size + 1, 0, none⟩) 0 0) [] := by
    have h : OwN ((w1.alloc (.cells #[] 22)).alloc (.cells #[] 2)) (w1.heap.size + 1) (.slice (some ⟨(w1.alloc (.cells #[] 22)).heap.size, 0, none⟩) 0 0) [] := World.ownsRow_made _ _ _ (by simp) (by decide) rfl
    rw [hzA] at h; exact h
  go_wp2_with fail
  generalize w1.alloc (.cells #[] 22) = w2 at *
  have HZA := Lib.hid hzA
  go_loopw [9, 10] (fun u i wr => ∃ (k : Nat) (xs : List Int), k ≤ R.length ∧ i = .int .i64 k ∧ xs = pivL (R.take k) ∧ OwN wr w2.heap.size u xs ∧ Below w2.heap.size w2 wr) (fun _ i _ => R.length - (intOf i).toNat)
  case atStart => exact ⟨0, [], Nat.zero_le _, rfl, rfl, by rw [hzA]; exact hoP, hbP⟩
  case round =>
    clear hoP hbP
    obtain ⟨k, xs, hk, rfl, hxs, ho, hbr⟩ := hrel
    have HXS := Lib.hid hxs; clear hxs
    have hxl : xs.length ≤ 1000 := by rw [HXS.out]; unfold pivL; rw [List.length_map, List.length_take]; omega
    obtain ⟨ab, cb, rfl⟩ := ho.formC
    by_cases hlt : k < R.length
    · obtain ⟨b0, off0, rfl, hcell⟩ := hR7.resolve_left (fun e => by rw [e] at hlt; simp at hlt)
      obtain ⟨u, hc, hE⟩ := hcell k hlt
      obtain ⟨a2, c2, rfl, _⟩ := hE.op
      have hbq := bwC hbA hbr
      have hc := kept hbq hc
      have hE := hE.below hbq
      have hrl := (hRr.rw_ _ (List.getElem_mem hlt)).1
      have hpv : pivL (R.take (k + 1)) = pivL (R.take k) ++ [((leadN R[k] : Nat) : Int)] := by
        unfold pivL
        rw [List.take_succ_eq_append_getElem hlt, List.map_append]; rfl
      obtain ⟨row, hrow⟩ : ∃ row, row = R[k] := ⟨_, rfl⟩
      rw [← hrow] at hc hE hrl hpv
      have HR := Lib.hid hrow; have HRL := Lib.hid hrl; have HPV := Lib.hid hpv; clear hrow hrl hpv
      go_wp2_with fail
      refine (first_c hE.sl (by have := HRL.out; omega)).mono ?_; rintro e w5 ⟨rfl, rfl⟩
      go_wp2_with (at_builtin; refine appn_one rfl _ _ rfl wr w2.heap.size _ rfl (.slice ab xs.length cb) xs rfl ((leadN row : Nat) : Int) 1 rfl ho hbr.size (by omega) ?_; intro g' cap' w' hown' hgb' hg' hge)
      go_roundw
      case rel => exact ⟨k + 1, _, by omega, by go_num, by rw [HPV.out, ← HXS.out], hown', hbr.trans hgb'⟩
      case measure => simp [intOf]; omega
    · obtain rfl : k = R.length := by omega
      have hxs : xs = pivL R := by rw [HXS.out, List.take_length]
      subst hxs
      obtain ⟨w4, hw4⟩ : ∃ x, x = wr := ⟨_, rfl⟩
      rw [← hw4] at ho hbr ⊢
      clear hw4
      have hsz : w1.heap.size ≤ w4.heap.size := Nat.le_trans hbA.size hbr.size
      have hbw4 : Below w1.heap.size w1 w4 := bwC hbA hbr
      have ho4 := hoA.below hbr
      have hpn : (pivL R).length = R.length := by unfold pivL; rw [List.length_map]
      have hp4 : OwN w4 w1.heap.size (.slice ab (pivL R).length cb) (pivL R) := by
        refine ⟨ho.1, ?_⟩
        rcases ho.2 with h2 | ⟨g', cap', cur, e, h3, h4⟩
        · exact .inl h2
        · exact .inr ⟨g', cap', cur, e, Nat.le_trans hbA.size h3, h4⟩
      have HPN := Lib.hid hpn; clear hpn
      go_wp2_with fail
      go_loopw [8, 11] (fun u i wr => ∃ (c g cap : Nat) (us : List Value), c ≤ m ∧ i = .int .i64 c ∧ u = .slice (some ⟨g, 0, none⟩) us.length cap ∧ us.length ≤ c ∧ OwV wr w1.heap.size (.slice (some ⟨g, 0, none⟩) us.length cap) us ∧ RowsF wr w1.heap.size us (kerO p m R c) ∧ OwN wr w1.heap.size (.slice ab (pivL R).length cb) (pivL R) ∧ Below w1.heap.size w1 wr)
        (fun _ i _ => m - (intOf i).toNat)
      case atStart => exact ⟨0, w1.heap.size, 0, [], Nat.zero_le _, rfl, rfl, Nat.le_refl _, ho4, RowsF.nil _ _, hp4, hbw4⟩
      case round =>
        clear ho hp4 hbw4 hbr hsz
        obtain ⟨c, g, cap, us, hc, rfl, rfl, hul, ho, hrow, hpv, hbx⟩ := hrel
        obtain ⟨W4, hW4⟩ : ∃ x, x = wr := ⟨_, rfl⟩
        rw [← hW4] at ho hrow hbx hpv ⊢
        clear hW4
        by_cases hcm : c < m
        · have hcm2 : (c : Int) < (m : Int) := by omega
          have hcon := shas_c (n := (c : Int)) hpv.slC (by have := HPN.out; omega)
          rw [piv_has] at hcon
          cases hB : ldB R c
          · rw [hB] at hcon
            have hke : kerO p m R (c + 1) = kerO p m R c ++ [kerS p m R c (ldB R)] := by
              show (if ldB R c = true then _ else _) = _
              rw [hB]; rfl
            have HKE := Lib.hid hke; clear hke
            have hmk := fun W => run_make_row' (P := Try.prog) 22 2 (.int .i64 0) 8 Try.underlying22 infoI rfl .i64 .i64 m (by omega) (by omega) W
            have hms := made_set (W := W4) (n := m) (k := c) 1 (by omega)
            rw [kerS_start (p := p) (R := R) hcm] at hms
            have hmn := made_own (W := W4) (n := m) (by omega)
            have hat0 := hmn.at c (by rw [List.length_replicate]; exact hcm)
            rw [Nat.zero_add] at hat0
            have hbE : Below W4.heap.size W4 (W4.alloc (.cells ((madeCells #[Value.int .i64 0] m).setIfInBounds c (.int .i64 1)) 2)) := bwA (Below.refl _ _) _
            go_wp2_with fail
            refine hcon.mono ?_; rintro e w5 ⟨rfl, rfl⟩
            go_wp2_with fail
            go_loopw [13] (fun i wy => ∃ k : Nat, k ≤ R.length ∧ i = .int .i64 k ∧ OwnI wy W4.heap.size W4.heap.size m m (kerS p m R c (ldB (R.take k))) ∧ Below W4.heap.size W4 wy) (fun i _ => R.length - (intOf i).toNat)
            case atStart => exact ⟨0, Nat.zero_le _, rfl, hms, hbE⟩
            case round =>
              clear hms hmn hat0 hbE
              obtain ⟨k, hk, rfl, hov, hby⟩ := hrel
              have hszY : w1.heap.size ≤ wr.heap.size := Nat.le_trans hbx.size hby.size
              by_cases hkl : k < R.length
              · have hkl2 : (k : Int) < (R.length : Int) := by omega
                obtain ⟨b0, off0, rfl, hcell⟩ := hR7.resolve_left (fun e => by rw [e] at hkl; simp at hkl)
                obtain ⟨u, hcu, hE⟩ := hcell k hkl
                have hbw7 : Below w1.heap.size w1 wr.drew := (bwC hbx hby).drew
                have hcu := kept hbw7 hcu
                have hE := hE.below hbw7
                have hrl := (hRr.rw_ _ (List.getElem_mem hkl)).1
                have hym := (hRr.rw_ _ (List.getElem_mem hkl)).at (by omega) c
                have hlm := (hRr.one _ (List.getElem_mem hkl)).1
                have hcl : c < R[k].length := by rw [hrl]; exact hcm
                have hksj := kerS_set (p := p) (m := m) (f := c) (R := R) (S := ldB (R.take k)) (j := leadN R[k])
                rw [ldI_row hRr hkl, show R.getD k [] = R[k] by rw [List.getD_eq_getElem?_getD, List.getElem?_eq_getElem hkl]; rfl] at hksj
                have hsmm := take_ld hkl
                obtain ⟨a5, c5, e5, h0 | ⟨b5, off5, e6, hA5⟩⟩ := (hpv.below (hby.drew)).slC
                · have := HPN.out; rw [h0] at this; simp at this; omega
                cases e5; cases e6
                have hpc := hA5 k (by have := HPN.out; omega)
                have hpg : (pivL R).getD k 0 = ((leadN R[k] : Nat) : Int) := by
                  unfold pivL
                  rw [List.getD_eq_getElem?_getD, List.getElem?_map, List.getElem?_eq_getElem hkl]; rfl
                rw [hpg] at hpc
                have hkp : k < (pivL R).length := by have := HPN.out; omega
                obtain ⟨l, hll⟩ : ∃ l, l = leadN R[k] := ⟨_, rfl⟩
                obtain ⟨row, hrow2⟩ : ∃ row, row = R[k] := ⟨_, rfl⟩
                rw [← hll] at hlm hksj hsmm hpc
                rw [← hrow2] at hE hrl hym hksj hcl
                obtain ⟨g2, off2, c2, rfl, hcc1, hcc2, hA⟩ := hE.op1 (by omega)
                have hy := hA c (by omega)
                obtain ⟨y, hye⟩ : ∃ y, y = row.getD c 0 := ⟨_, rfl⟩
                rw [← hye] at hy hym hksj
                have HSM := Lib.hid (And.intro hksj hsmm)
                have HYE := Lib.hid (And.intro hye (And.intro hll (And.intro hrow2 (And.intro hrl hpg))))
                have hovd := hov.below (w' := wr.drew) (by repeat (first | exact .refl _ _ | apply bwD | apply bwA | (refine bwS ?_ (by first | omega | simp <;> omega) _) | refine bwC ?_ (by assumption)))
                have hfr7 := hovd.free l
                have hst7 := hovd.set (i := l) ((-y) % p)
                have hat7 := hovd.at l (by rw [kerS_len]; exact hlm)
                rw [Nat.zero_add] at hat7
                have hbyd := hby.drew
                clear hll hrow2 hye hrl hksj hsmm hcell hA hE hA5 hpg
                go_wp2
                refine region_flow [(false, [(0, 0), (1, 0), (2, 0), (3, 0), (4, 1), (5, 0), (6, 0), (7, 0), (8, 0), (9, 1), (10, 0), (11, 0), (12, 1), (13, 0), (14, 5)]), (false, [(15, 0), (16, 4)])] (by kernel_rfl) ?_
                refine norm_K fun K hK => ?_
                change wpList _ _ _ [_, _, _, _, _, _, _, _, _, _, _, _, _, _, _] _ _
                go_wp2_with fail
                refine (smod_c (by omega) (by omega)).mono ?_; rintro e w' ⟨rfl, rfl⟩
                go_wp2_with fail
                first | (refine hK _ _ ⟨Below.refl _ _, ?_⟩; clear hK K) | refine ⟨Below.refl _ _, ?_⟩
                refine norm_K fun K hK => ?_
                change wpList _ _ _ [_, _] _ _
                go_wp2_with fail
                first | (refine hK _ _ ⟨rfl, ?_⟩; clear hK K) | refine ⟨rfl, ?_⟩
                go_wp2
                go_roundw
                case rel =>
                  refine ⟨k + 1, by omega, by go_num, ?_, hbyd.setCell (p := ⟨W4.heap.size, l, none⟩) (Nat.le_refl _) _⟩
                  rw [HSM.out.1, kerS_congr (fun k _ => HSM.out.2 k)] at hst7
                  exact hst7
                case measure => simp [intOf]; omega
              · obtain rfl : k = R.length := by omega
                have hkl2 : ¬ ((R.length : Int) < (R.length : Int)) := by omega
                rw [List.take_length] at hov
                have hoY := ho.below hby
                have hrowY := hrow.below hby
                have hpvY := hpv.below hby
                have hvF : FrI wr w1.heap.size (.slice (some ⟨W4.heap.size, 0, none⟩) m m) (kerS p m R c (ldB R)) := by
                  refine ⟨W4.heap.size, m, by rw [kerS_len], ?_⟩
                  rw [kerS_len]
                  refine ⟨hov.1, ?_⟩
                  rcases hov.2 with h2 | ⟨g', cap', cur, e, h3, h4⟩
                  · exact .inl h2
                  · exact .inr ⟨g', cap', cur, e, Nat.le_trans hbx.size h3, h4⟩
                go_wp2_with (at_builtin; refine appr_one rfl _ _ rfl wr w1.heap.size wr.heap.size rfl (.slice (some ⟨g, 0, none⟩) us.length cap) us rfl (.slice (some ⟨W4.heap.size, 0, none⟩) m m) 1 rfl rfl hoY hszY (by omega) ?_; intro g' cap' w8 ho8 hb8 hg8 hge8)
                go_roundw
                case rel => exact ⟨c + 1, g', cap', us ++ [.slice (some ⟨W4.heap.size, 0, none⟩) m m], by omega, by go_num, by simp, by simp; omega, by simpa using ho8, by rw [HKE.out]; exact (hrowY.app hoY hg8).snoc (hvF.app hoY hg8), hpvY.kept hg8 (apart hpvY hoY), (bwC hbx hby).trans hb8⟩
                case measure => simp [intOf]; omega
          · rw [hB] at hcon
            have hke : kerO p m R (c + 1) = kerO p m R c := by
              show (if ldB R c = true then _ else _) = _
              rw [hB]; rfl
            have HKE := Lib.hid hke; clear hke
            go_wp2_with fail
            refine hcon.mono ?_; rintro e w5 ⟨rfl, rfl⟩
            go_wp2_with fail
            go_roundw
            case rel => exact ⟨c + 1, g, cap, us, by omega, by go_num, rfl, by omega, ho, by rw [HKE.out]; exact hrow, hpv, hbx⟩
            case measure => simp [intOf]; omega
        · obtain rfl : c = m := by omega
          have hcm2 : ¬ ((c : Int) < (c : Int)) := by omega
          have hrw := kerO_rw (p := p) (m := c) (R := R) (by omega) c
          have hln := kerO_len (p := p) (m := c) (R := R) c
          have hre : Re W4 (.slice (some ⟨g, 0, none⟩) us.length cap) (kerO p c R c) := hrow.re (by simpa using ho)
          go_wp2_with fail
          refine (sreduced_c hp hrw hre hm1 hm2 (by omega)).mono ?_; rintro e w9 ⟨v9, rfl, hv9, hb9⟩
          go_wp2_with fail
          go_ret
          exact ⟨v9, rfl, by unfold kerL; rw [← HKB.out]; exact hv9, (hb1.trans (hbx.mono hb1.size)).trans (hb9.mono (Nat.le_trans hb1.size hbx.size))⟩
end Go.Proofs.Ytfcdhdkhfdhjfaa
