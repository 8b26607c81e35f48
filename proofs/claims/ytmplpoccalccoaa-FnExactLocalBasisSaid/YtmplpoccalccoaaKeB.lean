/-
  The kernel of rows by the program: the walk over its map.
-/
import Derived.Test.YtmplpoccalccoaaKeA
import Derived.Test.YtmplpoccalccoaaLinG
import Derived.Maps.RangeWalk
import Derived.Maps.OwnOps
import Derived.Carry
namespace Go.Proofs.Ytmplpoccalccoaa
open Go.RowKit Go.Maps

theorem undM : Try.prog.underlying 122 = some (.map 3 3) := by kernel_rfl
theorem undI : Try.prog.underlying 3 = some (.int .i64) := by kernel_rfl
theorem lawI : Keyed Try.prog 3 := int_keyed undI
theorem wfI {x : Int} (h0 : 0 ≤ x) (h1 : x ≤ 1000000) : (Lit.int .i64 x).wf = true := by
  simp only [Lit.wf, IntKind.min, IntKind.max, IntKind.signed, IntKind.bits, Bool.and_eq_true, decide_eq_true_eq, if_true]
  omega
theorem zeroI (w : World) : (zeroValue 3).run Try.prog w = .ok (.int .i64 0) w := by kernel_rfl
theorem keyI {x : Nat} (h1 : x ≤ 1000000) : keyOf Try.prog 3 (.int .i64 (x : Int)) = some (.int .i64 (x : Int)) := keyOf_int_mk undI (wfI (by omega) (by omega))
/-- The look-up with the comma-ok, at the operation. -/
theorem lookupok {w : World} {ops : Array Oper} {rest : List Oper} {o : Oper} {a : Act} {Q : Exit → Act → World → Prop}
    (hg : o.guard = none) (m x : Operand) (hop : o.op = Op.lookup 122 m x true) (b n : Nat) (D : DataW Unit)
    (hm : a.eval m = .map (some b)) (hown : w.ownsMap Try.prog 3 (plainElem Try.prog 3) b n D) (k : Nat) (hk : k ≤ 1000000) (hx : a.eval x = .int .i64 k)
    (hK : ∀ v, wpList Try.prog ops Q rest (a.put o.dst (.tuple #[v, .bool (Maps.has D (.int .i64 k))])) w) :
    wpList Try.prog ops Q (o :: rest) a w := by
  refine wpList_plain hg fun K' hK' => ?_
  obtain ⟨v, hrun⟩ : ∃ v, (Instr.lookup 122 (.map (some b)) (.int .i64 k) true).run Try.prog w = .ok (.tuple #[v, .bool (Maps.has D (.int .i64 k))]) w := by
    obtain ⟨es, clock, hb, F, _, rfl⟩ := hown
    rcases Maps.fit_look true lawI undM (zeroI _) hb F (keyI hk) with ⟨hrun, _, hat⟩ | ⟨e0, y, _, _, hrun, _, hat, _⟩
    · exact ⟨_, by rw [hrun, has_false_of_atKey hat]; rfl⟩
    · exact ⟨_, by rw [hrun, has_true_of_atKey hat]; rfl⟩
  unfold Oper.wp
  simp [execOp, hop, hm, hx, hrun, Result.andThen]
  exact hK' _ _ (hK v)
/-- What a map of the leads of the first k rows reads as. -/
structure LdM (R : List (List Int)) (k : Nat) (D : DataW Unit) : Prop where
  map : IsMap D
  has : ∀ x : Int, Maps.has D (.int .i64 x) = true ↔ ∃ j, ∃ h : j < R.length, j < k ∧ ((leadN R[j] : Nat) : Int) = x
  at_ : ∀ j, ∀ h : j < R.length, j < k → ∀ z, D.atKey (.int .i64 ((leadN R[j] : Nat) : Int)) z = .lit (.int .i64 (j : Int))
theorem litI {x y : Int} (h : x ≠ y) : (Lit.int .i64 x) ≠ Lit.int .i64 y := fun e => by
  injection e with _ e2
  exact h e2
theorem LdM.start {R : List (List Int)} : LdM R 0 (.map []) := ⟨isMap_empty, fun x => ⟨fun h => by simp [Maps.has] at h, fun ⟨j, _, h, _⟩ => by omega⟩, fun j _ h => by omega⟩
theorem LdM.put {p : Int} {m k : Nat} {R : List (List Int)} {D : DataW Unit} (hR : Rref p m R) (h : LdM R k D) (hk : k < R.length) : LdM R (k + 1) (D.put (.int .i64 ((leadN R[k] : Nat) : Int)) (.lit (.int .i64 (k : Int)))) := by
  have hkey : WideAt.IsKeyLit (.int .i64 ((leadN R[k] : Nat) : Int)) := by first | exact trivial | rfl | simp [WideAt.IsKeyLit]
  have hne : ∀ j, ∀ hj : j < R.length, j < k → leadN R[j] ≠ leadN R[k] := fun j hj hjk => by
    have := List.pairwise_iff_getElem.1 hR.pw j k hj hk hjk
    omega
  refine ⟨h.map.put _ _, fun x => ?_, fun j hj hjk z => ?_⟩
  · by_cases hx : x = ((leadN R[k] : Nat) : Int)
    · subst hx
      rw [has_put_same h.map hkey]
      exact ⟨fun _ => ⟨k, hk, by omega, rfl⟩, fun _ => rfl⟩
    · rw [has_put_other (litI hx), h.has]
      constructor
      · rintro ⟨j, hj, hjk, e⟩
        exact ⟨j, hj, by omega, e⟩
      · rintro ⟨j, hj, hjk, e⟩
        refine ⟨j, hj, ?_, e⟩
        rcases (show j < k ∨ j = k by omega) with h1 | h1
        · exact h1
        · subst h1; exact absurd e.symm hx
  · rcases (show j < k ∨ j = k by omega) with h1 | h1
    · rw [atKey_put_other (litI (fun e => hne j hj h1 (by omega))), h.at_ j hj h1]
    · subst h1
      rw [atKey_put_same h.map hkey]
theorem LdM.full {R : List (List Int)} {D : DataW Unit} (h : LdM R R.length D) (x : Nat) : Maps.has D (.int .i64 (x : Int)) = ldB R x := by
  rw [Bool.eq_iff_iff, h.has, ldB_iff]
  constructor
  · rintro ⟨j, hj, _, e⟩
    exact ⟨j, hj, by omega⟩
  · rintro ⟨j, hj, e⟩
    exact ⟨j, hj, hj, by omega⟩
theorem bl_grown {w w' : World} (hb : Below w.heap.size w w') : w.grownBy w' none := ⟨hb.os, hb.tape, hb.output, hb.size, fun i hi _ => hb.block i hi⟩
theorem OwnI.less {w : World} {B B' g n cap : Nat} {xs : List Int} (h : OwnI w B g n cap xs) (hB : B' ≤ B) : OwnI w B' g n cap xs := by
  refine ⟨h.1, ?_⟩
  rcases h.2 with h2 | ⟨g', cap', cur, e, h3, h4⟩
  · exact .inl h2
  · exact .inr ⟨g', cap', cur, e, Nat.le_trans hB h3, h4⟩
/-- The places that are set, one more. -/
theorem set_more {R : List (List Int)} {left : Lit → Bool} {j : Nat} (hj : j < R.length) (k : Nat) :
    (ldB R k && !left (.int .i64 (k : Int)) || k == leadN R[j]) = (ldB R k && !(left (.int .i64 (k : Int)) && !(Lit.int .i64 (k : Int)).sameKey (.int .i64 ((leadN R[j] : Nat) : Int)))) := by
  by_cases h : k = leadN R[j]
  · subst h
    have e : (Lit.int .i64 ((leadN R[j] : Nat) : Int)).sameKey (.int .i64 ((leadN R[j] : Nat) : Int)) = true := WideAt.sameKey_self (by first | exact trivial | rfl | simp [WideAt.IsKeyLit])
    rw [e, ldB_row hj]; simp
  · have e : (Lit.int .i64 (k : Int)).sameKey (.int .i64 ((leadN R[j] : Nat) : Int)) = false := sameKey_ne (litI (fun e => h (by omega)))
    rw [e, beq_eq_false_iff_ne.2 h]; simp
set_option maxHeartbeats 8000000 in
set_option maxRecDepth 100000 in
theorem kernel_c {p : Int} {rows : Value} {m : Nat} {L : List (List Int)} {w : World} (hp : IsP p) (hL : Rw p m L) (hr : Re w rows L) (hm1 : 1 ≤ m) (hm2 : m ≤ 1000) (hn : L.length ≤ 100000) :
    Calls Try.prog 75 #[.int .i64 p, rows, .int .i64 m] w fun e w' => ∃ v, e = .returned v ∧ Re w' v (kerL p m L) ∧ Below w.heap.size w w' := by
  have hp1 := hp.lo
  have hp2 := hp.hi
  have hmm := @run_makeMap Try.prog
  obtain ⟨ar, cr, rfl, _⟩ := id hr
  go_enter Try.func75, Try.ntmps75
  go_wp2_with fail
  refine (basis_c hp hL hr hm1 hm2 hn).mono ?_; rintro e w1 ⟨v7, rfl, hv7, hb1⟩
  have hRr := (basis_rref hp hL).1
  have hkb := kerL_basis (m := m) hp hL
  obtain ⟨R, hRe⟩ : ∃ R, R = basisL p m L := ⟨_, rfl⟩
  rw [← hRe] at hv7 hRr hkb
  have HKB := Lib.hid hkb; clear hkb hRe
  have hRl := hRr.short
  obtain ⟨a7, c7, rfl, h71, h72, hR7⟩ := id hv7
  have hb2 : Below w1.heap.size w1 (w1.alloc (.map #[] 0)) := blw_alloc (Below.refl _ _) _
  have hmap0 := World.ownsMap_made w1 Try.prog 3 (plainElem (H := Unit) Try.prog 3)
  go_wp2_with fail
  go_loopw [24] (fun i wr => ∃ (k : Nat) (D : DataW Unit), k ≤ R.length ∧ i = .int .i64 k ∧ wr.ownsMap Try.prog 3 (plainElem Try.prog 3) w1.heap.size k D ∧ LdM R k D ∧ Below w1.heap.size w1 wr)
    (fun i _ => R.length - (intOf i).toNat)
  case atStart => exact ⟨0, .map [], Nat.zero_le _, rfl, hmap0, LdM.start, hb2⟩
  case round =>
    clear hmap0 hb2
    obtain ⟨k, D, hk, rfl, hown, hld, hbr⟩ := hrel
    by_cases hlt : k < R.length
    · obtain ⟨b0, off0, rfl, hcell⟩ := hR7.resolve_left (fun e => by rw [e] at hlt; simp at hlt)
      obtain ⟨u, hc, hE⟩ := hcell k hlt
      obtain ⟨a2, c2, rfl, _⟩ := hE.op
      have hc := kept hbr hc
      have hE := hE.below hbr
      have hrl := (hRr.rw_ _ (List.getElem_mem hlt)).1
      have hll := (hRr.one _ (List.getElem_mem hlt)).1
      obtain ⟨row, hrow⟩ : ∃ row, row = R[k] := ⟨_, rfl⟩
      have hput := hld.put hRr hlt
      rw [← hrow] at hc hE hrl hll hput
      have HR := Lib.hid hrow; have HRL := Lib.hid hrl; clear hrow hrl
      go_wp2_with fail
      refine (lead_c hE.sl (by have := HRL.out; omega)).mono ?_; rintro e w5 ⟨rfl, rfl⟩
      go_wp2_with (at_mapUpdate; refine wpList_mapUpdate_own _ rfl _ _ _ 122 rfl 3 3 lawI undM _ w1.heap.size k _ rfl hown (by unfold maxLen; omega) _ _ _ rfl rfl (keyI (by omega)) (.lit (.int .i64 (k : Int))) [] (plainElem_int undI (wfI (by omega) (by omega))) ?_; intro w6 hown6 hgr6)
      go_roundw
      case rel => exact ⟨k + 1, _, by omega, by go_num, hown6, hput, hbr.grown hgr6 hbr.size fun j hj => by cases hj; exact Nat.le_refl _⟩
      case measure => simp [intOf]; omega
    · obtain rfl : k = R.length := by omega
      have hhas := fun x => hld.full x
      obtain ⟨w3, hw3⟩ : ∃ x, x = wr := ⟨_, rfl⟩
      rw [← hw3] at hown hbr ⊢
      clear hw3
      have hv3 := hv7.below hbr
      have hb4 : Below w3.heap.size w3 (w3.alloc (.cells #[] 22)) := (by repeat (first | exact Below.refl _ _ | apply blw_drew | apply blw_alloc | (refine blw_set ?_ (by first | omega | (simp; done) | (simp; omega)) _) | refine below_chain ?_ (by assumption)))
      go_wp2_with fail
      go_loopw [11, 36] (fun u i wr => ∃ (c g cap : Nat) (us : List Value), c ≤ m ∧ i = .int .i64 c ∧ u = .slice (some ⟨g, 0, none⟩) us.length cap ∧ us.length ≤ c ∧ OwV wr w3.heap.size (.slice (some ⟨g, 0, none⟩) us.length cap) us ∧ RowsF wr w3.heap.size us (kerO p m R c) ∧ Below w3.heap.size w3 wr)
        (fun _ i _ => m - (intOf i).toNat)
      case atStart => exact ⟨0, w3.heap.size, 0, [], Nat.zero_le _, rfl, rfl, Nat.le_refl _, OwV.new (Nat.le_refl _), RowsF.nil _ _, hb4⟩
      case round =>
        clear hb4
        obtain ⟨c, g, cap, us, hc, rfl, rfl, hul, ho, hrow, hbx⟩ := hrel
        have hmp := hown.kept (bl_grown hbx) (by simp)
        obtain ⟨W4, hW4⟩ : ∃ x, x = wr := ⟨_, rfl⟩
        rw [← hW4] at ho hrow hbx hmp ⊢
        clear hW4
        by_cases hcm : c < m
        · have hcm2 : (c : Int) < (m : Int) := by omega
          have hhc := hhas c
          cases hB : ldB R c
          · rw [hB] at hhc
            have hke : kerO p m R (c + 1) = kerO p m R c ++ [kerS p m R c (ldB R)] := by
              show (if ldB R c = true then _ else _) = _
              rw [hB]; rfl
            have HKE := Lib.hid hke; clear hke
            have hmk := fun W => run_make_row' (P := Try.prog) 22 2 (.int .i64 0) 8 Try.underlying22 infoI rfl .i64 .i64 m (by omega) (by omega) W
            have hms := made_set (W := W4) (n := m) (k := c) 1 (by omega)
            rw [kerS_start (p := p) (R := R) hcm] at hms
            have hmn := made_own (W := W4) (n := m) (by omega)
            have hat0 := hmn.at c (by rw [List.length_replicate]; exact hcm)
            rw [Nat.zero_add] at hat0
            have hbE : Below W4.heap.size W4 (W4.alloc (.cells ((madeCells #[Value.int .i64 0] m).setIfInBounds c (.int .i64 1)) 2)) := blw_alloc (Below.refl _ _) _
            have hmpE := hmp.kept (bl_grown hbE) (by simp)
            have hzE : (W4.alloc (.cells ((madeCells #[Value.int .i64 0] m).setIfInBounds c (.int .i64 1)) 2)).heap.size = W4.heap.size + 1 := by simp
            have hbw : w1.heap.size < W4.heap.size := hmp.lt
            go_wp2_with (first | (at_lookup; refine lookupok rfl _ _ rfl w1.heap.size _ D rfl hmp c (by omega) rfl ?_; intro vz) | (at_range; refine wpList_range_own _ rfl _ 122 rfl 3 3 lawI undM _ w1.heap.size R.length D rfl hmpE ?_; intro w6 hrg hg6 hs6))
            go_frame
            rw [hzE] at hrg hs6 ⊢
            have hms6 : OwnI w6 W4.heap.size W4.heap.size m m (kerS p m R c (fun _ => false)) := World.ownsRow.kept hms hg6 (by cases (Value.slice (some ⟨W4.heap.size, 0, none⟩) m m).ownBlock <;> simp)
            have hb6 : Below W4.heap.size W4 w6 := hbE.grown hg6 (by omega) (fun j hj => by cases hj)
            clear hms hmn hat0 hbE hmpE hg6
            go_loopw [53] (fun _ wy => ∃ (left : Lit → Bool) (cnt : Nat), wy.ranges Try.prog 3 (plainElem Try.prog 3) w1.heap.size (W4.heap.size + 1) R.length D left cnt ∧ OwnI wy W4.heap.size W4.heap.size m m (kerS p m R c (fun k => ldB R k && !left (.int .i64 (k : Int)))) ∧ (∀ z, left z = true → Maps.has D z = true) ∧ Below W4.heap.size W4 wy)
              (fun _ wy => wy.rangeLeft w1.heap.size (W4.heap.size + 1))
            case atStart =>
              refine ⟨Maps.has D, _, hrg, ?_, fun z h => h, hb6⟩
              rw [kerS_congr (T := fun _ => false) (fun k _ => by rw [hhas k]; cases ldB R k <;> rfl)]
              exact hms6
            case round =>
              clear hrg hms6 hb6 hs6
              obtain ⟨left, cnt, hrg, hov, hsub, hby⟩ := hrel
              have hoY := ho.below hby
              have hrowY := hrow.below hby
              have hszY : w3.heap.size ≤ wr.heap.size := Nat.le_trans hbx.size hby.size
              go_wp2_with (first
                | (at_next
                   refine wpList_next_ranges_ii _ rfl _ rfl 3 3 .i64 .i64 lawI undI undI w1.heap.size (W4.heap.size + 1) R.length _ _ _ rfl hrg ?_ ?_
                   intro hc0 hl0
                   rotate_left
                   intro x cc w7 cnt7 hwx hwc hlx hat hrg7 hlt7 hg7 hs7 hen
                   obtain ⟨j, hj, _, hjx⟩ := (hld.has x).1 (hsub _ hlx)
                   subst hjx
                   obtain rfl : cc = (j : Int) := by
                     have e := (hat .nil).symm.trans (hld.at_ j hj hj .nil)
                     injection e with e1
                     injection e1
                   obtain ⟨b0, off0, rfl, hcell⟩ := hR7.resolve_left (fun e => by rw [e] at hj; simp at hj)
                   obtain ⟨u, hcu, hE⟩ := hcell j hj
                   have hbw7 : Below w1.heap.size w1 w7 := ((hbr.trans (hbx.mono hbr.size)).trans (hby.mono (Nat.le_of_lt hbw))).grown hg7 (Nat.le_trans (Nat.le_of_lt hbw) hby.size) (fun i hi => by cases hi; omega)
                   have hcu := kept hbw7 hcu
                   have hE := hE.below hbw7
                   have hrl := (hRr.rw_ _ (List.getElem_mem hj)).1
                   have hym := (hRr.rw_ _ (List.getElem_mem hj)).at (by omega) c
                   have hlm := (hRr.one _ (List.getElem_mem hj)).1
                   have hcl : c < R[j].length := by rw [hrl]; exact hcm
                   have hksj := kerS_set (p := p) (m := m) (f := c) (R := R) (S := fun k => ldB R k && !left (.int .i64 (k : Int))) (j := leadN R[j])
                   rw [ldI_row hRr hj, show R.getD j [] = R[j] by rw [List.getD_eq_getElem?_getD, List.getElem?_eq_getElem hj]; rfl] at hksj
                   have hsmm := set_more (R := R) (left := left) hj
                   obtain ⟨l, hll⟩ : ∃ l, l = leadN R[j] := ⟨_, rfl⟩
                   obtain ⟨row, hrow2⟩ : ∃ row, row = R[j] := ⟨_, rfl⟩
                   rw [← hll] at hlm hksj hsmm hrg7 hlx hat hen ⊢
                   rw [← hrow2] at hE hrl hym hksj hcl
                   obtain ⟨g2, off2, c2, rfl, hcc1, hcc2, hA⟩ := hE.op1 (by omega)
                   have hy := hA c (by omega)
                   obtain ⟨y, hye⟩ : ∃ y, y = row.getD c 0 := ⟨_, rfl⟩
                   rw [← hye] at hy hym hksj
                   have HSM := Lib.hid (And.intro hksj hsmm)
                   have HYE := Lib.hid (And.intro hye (And.intro hll (And.intro hrow2 hrl)))
                   have hov7 : OwnI w7 W4.heap.size W4.heap.size m m _ := World.ownsRow.kept hov hg7 (by simp [Value.ownBlock])
                   have hfr7 := hov7.free l
                   have hst7 := hov7.set (i := l) ((-y) % p)
                   have hat7 := hov7.at l (by rw [kerS_len]; exact hlm)
                   rw [Nat.zero_add] at hat7
                   clear hat hlx hll hrow2 hye hrl hksj hsmm hcell hA hE
                   rotate_right)
                | (go_at_call 84; refine (num_c (by omega) (by omega)).mono ?_; rintro e w' ⟨rfl, rfl⟩)
                | (at_builtin; refine appr_one rfl _ _ rfl wr w3.heap.size wr.heap.size rfl (.slice (some ⟨g, 0, none⟩) us.length cap) us rfl (.slice (some ⟨W4.heap.size, 0, none⟩) m m) 1 rfl rfl hoY hszY (by omega) ?_; intro g' cap' w8 ho8 hb8 hg8 hge8))
              · rw [kerS_congr (T := ldB R) (fun k _ => by rw [hl0]; cases ldB R k <;> rfl)] at hov
                have hvF : FrI wr w3.heap.size (.slice (some ⟨W4.heap.size, 0, none⟩) m m) (kerS p m R c (ldB R)) := by
                  refine ⟨W4.heap.size, m, by rw [kerS_len], ?_⟩
                  have h := OwnI.less hov hbx.size
                  rw [kerS_len]; exact h
                go_roundw
                case rel => exact ⟨c + 1, g', cap', us ++ [.slice (some ⟨W4.heap.size, 0, none⟩) m m], by omega, by go_num, by simp, by simp; omega, by simpa using ho8, by rw [HKE.out]; exact (hrowY.app hoY hg8).snoc (hvF.app hoY hg8), (hbx.trans (hby.mono hbx.size)).trans hb8⟩
                case measure => simp [intOf]; omega
              · go_roundw
                case rel =>
                  refine ⟨_, cnt7, hrg7.kept (set_grown w7 W4.heap.size l (.int .i64 ((-y) % p))) (by simp; omega) (by simp), ?_, fun z hz => hsub z (by simp at hz; exact hz.1), (hby.grown hg7 hby.size (fun i hi => by cases hi; omega)).setCell (p := ⟨W4.heap.size, l, none⟩) (Nat.le_refl _) _⟩
                  rw [HSM.out.1, kerS_congr (fun k _ => HSM.out.2 k)] at hst7
                  exact hst7
                case measure =>
                  rw [(hrg7.kept (set_grown w7 W4.heap.size l (.int .i64 ((-y) % p))) (by simp; omega) (by simp)).left_eq, hrg.left_eq]
                  exact hlt7
          · rw [hB] at hhc
            have hke : kerO p m R (c + 1) = kerO p m R c := by
              show (if ldB R c = true then _ else _) = _
              rw [hB]; rfl
            have HKE := Lib.hid hke; clear hke
            go_wp2_with (at_lookup; refine lookupok rfl _ _ rfl w1.heap.size _ D rfl hmp c (by omega) rfl ?_; intro vz)
            go_roundw
            case rel => exact ⟨c + 1, g, cap, us, by omega, by go_num, rfl, by omega, ho, by rw [HKE.out]; exact hrow, hbx⟩
            case measure => simp [intOf]; omega
        · obtain rfl : c = m := by omega
          have hcm2 : ¬ ((c : Int) < (c : Int)) := by omega
          have hrw := kerO_rw (p := p) (m := c) (R := R) (by omega) c
          have hln := kerO_len (p := p) (m := c) (R := R) c
          have hre : Re W4 (.slice (some ⟨g, 0, none⟩) us.length cap) (kerO p c R c) := hrow.re (by simpa using ho)
          go_wp2_with fail
          refine (basis_c hp hrw hre hm1 hm2 (by omega)).mono ?_; rintro e w9 ⟨v9, rfl, hv9, hb9⟩
          rw [HKB.out] at hv9
          go_wp2_with fail
          go_ret
          exact ⟨v9, rfl, hv9, ((hb1.trans (hbr.mono hb1.size)).trans (hbx.mono (Nat.le_trans hb1.size hbr.size))).trans (hb9.mono (Nat.le_trans (Nat.le_trans hb1.size hbr.size) hbx.size))⟩
end Go.Proofs.Ytmplpoccalccoaa
