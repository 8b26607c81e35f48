/-
  LocalBasis by the program and by the reference: the walks.
-/
import Derived.Test.YtmplpoccalccoaaLbF
namespace Go.Proofs.Ytmplpoccalccoaa
open Go.RowKit

theorem loc_row {p : Int} {st : List Int} (hd : Dok p st) : ∀ r ∈ locN p st, r.length = 3 * sz st.length * sz st.length := fun _ hr =>
  ((kerL_rref (m := 3 * sz st.length * sz st.length) hd.hp (L := locP p st)).rw_ _ hr).1
theorem locN_le {p : Int} {st : List Int} (hd : Dok p st) : (locN p st).length ≤ 3 * sz st.length * sz st.length := (kerL_rref (m := 3 * sz st.length * sz st.length) hd.hp (L := locP p st)).short
theorem map_take {n k : Nat} {L : List (List Int)} (hk : k < L.length) : (L.take (k + 1)).map (cut3 n) = (L.take k).map (cut3 n) ++ [cut3 n L[k]] := by
  rw [List.take_succ_eq_append_getElem hk, List.map_append]; rfl
theorem skI_len {p : Int} {n t : Nat} {D : Nat → Int} : ∀ c, (skI p n D t c).length ≤ c * c
  | 0 => Nat.le_refl _
  | c + 1 => by
    have h := skI_len (p := p) (n := n) (t := t) (D := D) c
    have e : (skK p n D t c (c + 1)).length = c + 1 := by simp [skK]
    rw [skI_succ, List.length_append, e, Nat.succ_mul, Nat.mul_succ]; omega
theorem skP_len {p : Int} {n : Nat} {D : Nat → Int} : ∀ c, (skP p n D c).length ≤ c * (n * n)
  | 0 => by simp [skP]
  | c + 1 => by
    have h := skP_len (p := p) (n := n) (D := D) c
    have h2 := skI_len (p := p) (n := n) (t := c) (D := D) n
    rw [skP_succ, List.length_append, Nat.succ_mul]; omega
theorem foJ_len {p : Int} {n i : Nat} {F : Nat → Nat → Nat → Int} : ∀ c, (foJ p n F i c).length = c * n
  | 0 => by simp [foJ]
  | c + 1 => by
    have e : (foK p n F i c n).length = n := by simp [foK]
    rw [foJ_succ, List.length_append, e, foJ_len c, Nat.succ_mul]
theorem foI_len {p : Int} {n : Nat} {F : Nat → Nat → Nat → Int} : ∀ c, (foI p n F c).length = c * (n * n)
  | 0 => by simp [foI]
  | c + 1 => by rw [foI_succ, List.length_append, foJ_len, foI_len c, Nat.succ_mul]
theorem loc_many {p : Int} {st : List Int} (hd : Dok p st) : (locP p st).length ≤ 100000 := by
  have hsz := (sz_le hd).2
  have h1 := skP_len (p := p) (n := sz st.length) (D := dgN p st) 3
  have h2 := foI_len (p := p) (n := sz st.length) (F := cycF p st) (sz st.length)
  have h3 : sz st.length * sz st.length ≤ 8 * 8 := Nat.mul_le_mul hsz hsz
  have h4 : sz st.length * (sz st.length * sz st.length) ≤ 8 * (8 * 8) := Nat.mul_le_mul hsz h3
  unfold locP locL
  rw [List.length_append]; omega
/-- What is read stays. -/
def KC (w w' : World) : Prop := ∀ b o u, w.cell? ⟨b, o, none⟩ = some u → w'.cell? ⟨b, o, none⟩ = some u
theorem KC.below {w w' w2 : World} (h : KC w w') (hb : Below w'.heap.size w' w2) : KC w w2 := fun b o u hu => kept hb (h b o u hu)
set_option maxHeartbeats 8000000 in
set_option maxRecDepth 100000 in
theorem iLocalBasis_c {p : Int} {x : Value} {st : List Int} {w : World} (hx : El w x st) (hm : st.length ≤ 1048576) :
    Calls Try.prog 31 #[.agg #[.int .i64 p, x]] w fun e w' => ∃ v, e = .returned (.tuple #[v, .int .i64 (RLocalBasis1 p st)]) ∧ OwT TrG w' w.heap.size v (RLocalBasis0 p st) ∧ Below w.heap.size w w' := by
  obtain ⟨a0, c0, rfl, _⟩ := id hx.op
  have hb0 : Below w.heap.size w (w.alloc (.cells #[.int .i64 p, .slice a0 st.length c0] 32)) := (by repeat (first | exact Below.refl _ _ | apply blw_drew | apply blw_alloc | (refine blw_set ?_ (by first | omega | (simp; done) | (simp; omega)) _) | refine below_chain ?_ (by assumption)))
  have d0 : (w.alloc (.cells #[.int .i64 p, .slice a0 st.length c0] 32)).cell? ⟨w.heap.size, 0, none⟩ = some (.int .i64 p) := by simp [go_sem]
  have d1 : (w.alloc (.cells #[.int .i64 p, .slice a0 st.length c0] 32)).cell? ⟨w.heap.size, 1, none⟩ = some (.slice a0 st.length c0) := by simp [go_sem]
  have hx1 := hx.below hb0
  have hnil : Re (w.alloc (.cells #[.int .i64 p, .slice a0 st.length c0] 32)) (.slice none 0 0) [] := ⟨none, 0, rfl, Nat.le_refl _, by decide, .inl rfl⟩
  have hcon := chk3_c (p := p) hx1 hnil hm (by simp) (by simp)
  by_cases h0 : chk3 p st [] = 0
  case neg =>
    have e1 : RLocalBasis1 p st = chk3 p st [] := if_neg h0
    have e0 : RLocalBasis0 p st = [] := if_neg (by rw [e1]; exact h0)
    rw [e0, e1]
    obtain ⟨r, hr⟩ : ∃ r, r = chk3 p st [] := ⟨_, rfl⟩
    rw [← hr] at h0 hcon ⊢
    clear hr e0 e1
    have hne : (r != 0) = true := by simpa using h0
    go_enter Try.func31, Try.ntmps31
    go_wp2_with fail
    refine hcon.mono ?_; rintro e w1 ⟨rfl, hb1⟩
    go_wp2_with fail
    go_ret2
    exact ⟨_, rfl, .inl ⟨rfl, rfl⟩, below_chain hb0 hb1⟩
  have hd := chk3_dok h0
  rw [h0] at hcon
  have hp1 := hd.hp.lo; have hp2 := hd.hp.hi; have hl3 := hd.hl; have hsz := sz_le hd
  by_cases h3 : st.length = 3
  · have e1 : RLocalBasis1 p st = 5 := by unfold RLocalBasis1; rw [if_pos h0, if_pos h3]
    have e0 : RLocalBasis0 p st = [] := if_neg (by rw [e1]; decide)
    rw [e0, e1]
    have h3b : ((st.length : Int) == 3) = true := by rw [beq_iff_eq]; omega
    have H3 := Lib.hid h3
    clear h0 e0 e1 h3
    go_enter Try.func31, Try.ntmps31
    go_wp2_with fail
    refine hcon.mono ?_; rintro e w1 ⟨rfl, hb1⟩
    have d0 := kept hb1 d0; have d1 := kept hb1 d1
    go_wp2_with fail
    go_ret2
    exact ⟨_, rfl, .inl ⟨rfl, rfl⟩, below_chain hb0 hb1⟩
  have e1 : RLocalBasis1 p st = 0 := by unfold RLocalBasis1; rw [if_pos h0, if_neg h3]
  have e0 : RLocalBasis0 p st = (locN p st).map (cut3 (sz st.length)) := if_pos e1
  rw [e0, e1]
  have h3b : ((st.length : Int) == 3) = false := by rw [beq_eq_false_iff_ne]; omega
  have hszc := fun W => size_c (w := W) (p := p) (a := a0) (n := st.length) (c := c0) (by omega)
  have hloc := fun W h => locrows_c (w := W) (p := p) (s := .slice a0 st.length c0) hd h
  have hker := fun W v h => kernel_c (w := W) (p := p) (rows := v) (m := 3 * sz st.length * sz st.length) hd.hp (locP_rw hd) h
  have hrow := loc_row hd
  have hshort := locN_le hd
  have hplen : (locP p st).length ≤ 100000 := loc_many hd
  obtain ⟨LN, hLN⟩ : ∃ x, x = locN p st := ⟨_, rfl⟩
  simp only [show kerL p (3 * sz st.length * sz st.length) (locP p st) = locN p st from rfl, ← hLN] at hker
  simp only [← hLN] at hrow hshort ⊢
  obtain ⟨LP, hLP⟩ : ∃ x, x = locP p st := ⟨_, rfl⟩
  simp only [show locL p (sz st.length) (fun i => (diagF p st).getD i 0) (cycF p st) = locP p st from rfl, ← hLP] at hloc
  simp only [← hLP] at hker hplen
  obtain ⟨n, hn⟩ : ∃ n, n = sz st.length := ⟨_, rfl⟩
  simp only [← hn] at hsz hszc hker hrow hshort ⊢
  obtain ⟨L, hL⟩ : ∃ L, L = 3 * n * n := ⟨_, rfl⟩
  have hLi : 3 * (n : Int) * (n : Int) = ((L : Nat) : Int) := by rw [hL, Int.natCast_mul, Int.natCast_mul]; rfl
  have hLi2 : (n : Int) * 3 * (n : Int) = ((L : Nat) : Int) := by rw [← hLi, Int.mul_comm (n : Int) 3]
  have hLb : 1 ≤ L ∧ L ≤ 192 := by
    rw [hL, Nat.mul_assoc]
    have h1 := Nat.mul_le_mul hsz.2 hsz.2
    have h2 := Nat.mul_le_mul hsz.1 hsz.1
    omega
  rw [← hL] at hshort
  simp only [← hL] at hker hrow
  have HL := Lib.hid hL; have HROW := Lib.hid hrow; have HPL := Lib.hid hplen
  clear hL hLN hLP hn hrow hplen e0 e1 h0 h3
  go_enter Try.func31, Try.ntmps31
  go_wp2_with fail
  refine hcon.mono ?_; rintro e w1 ⟨rfl, hb1⟩
  have d0 := kept hb1 d0; have d1 := kept hb1 d1; have hx1 := hx1.below hb1
  have hbw := below_chain hb0 hb1
  clear hcon hnil hb0 hb1
  go_wp2_with fail
  refine (hszc _).mono ?_; rintro e w2 ⟨rfl, hb2⟩
  have d0 := kept hb2 d0; have d1 := kept hb2 d1; have hx1 := hx1.below hb2
  have hbw := below_chain hbw hb2
  have hB2 := hbw.size
  clear hb2
  have hbO : Below w2.heap.size w2 (w2.alloc (.cells #[] 34)) := (by repeat (first | exact Below.refl _ _ | apply blw_drew | apply blw_alloc | (refine blw_set ?_ (by first | omega | (simp; done) | (simp; omega)) _) | refine below_chain ?_ (by assumption)))
  have hO : LsT TrG (w2.alloc (.cells #[] 34)) w2.heap.size (.slice (some ⟨w2.heap.size, 0, none⟩) 0 0) [] [] [] := LsT.start (Nat.le_refl _)
  have hOz : w2.heap.size + 1 = (w2.alloc (.cells #[] 34)).heap.size := by simp
  go_upto_region 7 with fail
  have d0 := kept hbO d0; have d1 := kept hbO d1; have hx1 := hx1.below hbO
  have hbw := below_chain hbw hbO
  generalize w2.alloc (.cells #[] 34) = w3 at *
  refine region_flow [(false, [(0, 1), (2, 1), (4, 0), (5, 0), (6, 0), (7, 0), (10, 0), (1, 5)]), (false, [(3, 4), (8, 4), (9, 0)])] (by kernel_rfl) ?_
  refine norm_K fun K hK => ?_
  change wpList _ _ _ [_, _, _, _, _, _, _, _] _ _
  have hbq : Below w3.heap.size w3 w3.drew := (by repeat (first | exact Below.refl _ _ | apply blw_drew | apply blw_alloc | (refine blw_set ?_ (by first | omega | (simp; done) | (simp; omega)) _) | refine below_chain ?_ (by assumption)))
  have d0 := kept hbq d0; have d1 := kept hbq d1; have hx1 := hx1.below hbq
  have hbw := below_chain hbw hbq
  have hO := hO.below keepsG hbq
  have hOz : w2.heap.size + 1 = w3.drew.heap.size := hOz
  clear hbq hbO
  generalize w3.drew = wq at *
  go_wp2_with fail
  refine dfield_c.mono ?_; rintro e w4 ⟨rfl, hb4⟩
  have d0 := kept hb4 d0; have d1 := kept hb4 d1; have hx1 := hx1.below hb4; have hO := hO.below keepsG hb4
  have hbw4 := below_chain hbw hb4
  have hz4 := hb4.size
  go_wp2_with fail
  first | (refine hK _ _ ⟨hb4, ?_⟩; clear hK K) | refine ⟨hb4, ?_⟩
  refine norm_K fun K hK => ?_
  change wpList _ _ _ [_, _, _] _ _
  go_wp2_with fail
  refine (hloc _ hx1).mono ?_; rintro e w5 ⟨vr, rfl, hvr, hb5⟩
  have hO := hO.below keepsG hb5
  have hbw5 := below_chain hbw4 hb5
  have hz5 := hb5.size
  go_wp2_with fail
  refine (hker _ _ hvr (by omega) (by omega) HPL.out).mono ?_; rintro e w6 ⟨vl, rfl, hvl, hb6⟩
  have hO := hO.below keepsG hb6
  have hbw6 := below_chain hbw5 hb6
  have hz6 := hb6.size
  obtain ⟨av, cv, rfl, hv1, hv2, hvR⟩ := id hvl
  clear hvr hb4 hb5 hb6 hbw hbw4 hbw5 d0 d1 hx1
  go_wp2_with fail
  first | (refine hK _ _ ⟨rfl, ?_⟩; clear hK K) | refine ⟨rfl, ?_⟩
  go_wp2_with fail
  have hcn : ∀ o, w6.cell? ⟨w2.heap.size, o, none⟩ = none := fun o => by
    rcases hO.own.2 with h2 | ⟨g9, cap9, cur9, e9, _, hh9, h59, _, h69, _⟩
    · cases h2.1
    · cases e9
      have hc0 : cur9 = #[] := Array.eq_empty_of_size_eq_zero (by simpa using h69)
      rw [hc0] at hh9
      simp [World.cell?, hh9]
  go_loopw [6, 31] (fun o i wr => ∃ (k : Nat) (zs : List Value) (lh : List (Nat × Nat)) (Ts : List T3), k ≤ LN.length ∧ i = .int .i64 k ∧ Ts = (LN.take k).map (cut3 n) ∧ LsT TrG wr w2.heap.size o zs lh Ts ∧ (∀ g, o.ownBlock = some g → g = w2.heap.size ∨ w6.heap.size ≤ g) ∧ KC w6 wr ∧ w6.heap.size ≤ wr.heap.size ∧ Below w2.heap.size w6 wr) (fun _ i _ => LN.length - (intOf i).toNat)
  case atStart => exact ⟨0, [], [], [], Nat.zero_le _, rfl, rfl, hO, fun g hg => .inl (by have e : w2.heap.size = g := Option.some.inj hg; exact e.symm), fun _ _ _ h => h, Nat.le_refl _, Below.refl _ _⟩
  case round =>
    clear hO
    obtain ⟨k, zs, lh, Ts, hk, rfl, hTs, hL, hob, hkc, hsz6, hbr⟩ := hrel
    have HTS := Lib.hid hTs; clear hTs
    have htl : Ts.length ≤ 192 := by rw [HTS.out, List.length_map, List.length_take]; omega
    obtain ⟨ab, cb, rfl⟩ := hL.form
    by_cases hlt : k < LN.length
    · have hlt2 : (k : Int) < (LN.length : Int) := by omega
      obtain ⟨b0, off0, rfl, hcell⟩ := hvR.resolve_left (fun e => by rw [e] at hlt; simp at hlt)
      obtain ⟨u, hcu, hE⟩ := hcell k hlt
      obtain ⟨a2, c2, rfl, _⟩ := hE.op
      have hcu := hkc _ _ _ hcu
      have hE : El wr (.slice a2 LN[k].length c2) LN[k] := by
        obtain ⟨⟨a3, c3, e3, h4⟩, hcp⟩ := hE
        cases e3
        refine ⟨⟨_, _, rfl, ?_⟩, hcp⟩
        rcases h4 with h4 | ⟨b2, off2, rfl, h4⟩
        · exact .inl h4
        · exact .inr ⟨b2, off2, rfl, fun i hi => hkc _ _ _ (h4 i hi)⟩
      have hrl := HROW.out _ (List.getElem_mem hlt)
      have hmt := map_take (n := n) hlt
      obtain ⟨row, hrow⟩ : ∃ row, row = LN[k] := ⟨_, rfl⟩
      rw [← hrow] at hcu hE hrl hmt
      rw [HL.out] at hrl
      have htr := tripleof_c hE hsz.1 hsz.2 hrl
      have HR := Lib.hid hrow; have HRL := Lib.hid hrl; have HMT := Lib.hid hmt; clear hrow hrl hmt
      go_wp2_with fail
      refine htr.mono ?_; rintro e w7 ⟨ta, tb, tc, lo, rfl, hlo, hT, hb7⟩
      have hL7 := hL.below keepsG hb7
      have htop := hL.top keepsG
      have hvb := fun g hg => (hL.lt g hg).2
      obtain ⟨g7, us7, c71, c72, c73, rfl, rfl, rfl, hTG⟩ := id hT
      clear hTG
      rw [List.length_append] at hT ⊢
      have hszr := hbr.size
      have hz7 := hb7.size
      go_wp2_with (at_builtin; refine appt_one rfl _ _ rfl w7 w2.heap.size _ rfl (.slice ab Ts.length cb) zs Ts.length rfl _ _ _ 1 rfl rfl rfl rfl hL7.own (by omega) (by omega) ?_; intro g' cap' w8 ho8 hb8 hg8 hge8)
      have hkc8 : KC w6 w8 := fun b o u hu => by
        have h7 := kept hb7 (hkc b o u hu)
        have hbl := World.block_lt_of_cell? w6 _ hu
        have hne : some b ≠ (Value.slice ab Ts.length cb).ownBlock := fun e => by
          rcases hob b e.symm with e2 | e2
          · rw [e2, hcn o] at hu; cases hu
          · exact absurd hbl (by show ¬ b < _; omega)
        exact (World.cell?_of_block (w := w7) (hg8.block b (World.block_lt_of_cell? w7 _ h7) hne)).trans h7
      have hob8 : ∀ g, (Value.slice (some ⟨g', 0, none⟩) (Ts.length + 1) cap').ownBlock = some g → g = w2.heap.size ∨ w6.heap.size ≤ g := fun g hg => by
        have e : g' = g := Option.some.inj hg
        subst e
        rcases hge8 with e2 | e2
        · exact hob _ e2
        · right; omega
      go_roundw
      case rel => exact ⟨k + 1, _, _, _, by omega, by go_num, by rw [HMT.out, ← HTS.out], hL7.snoc keepsG hT (by omega) (fun x hx => Nat.le_trans (htop x hx) hlo) (fun g hg => Nat.lt_of_lt_of_le (hvb g hg) hlo) rfl ho8 hb8 hg8 hge8, hob8, hkc8, Nat.le_trans hsz6 (Nat.le_trans hz7 hg8.size), (hbr.trans (hb7.mono (by omega))).trans hb8⟩
      case measure => simp [intOf]; omega
    · obtain rfl : k = LN.length := by omega
      have hlt2 : ¬ ((LN.length : Int) < (LN.length : Int)) := by omega
      have hTs : Ts = LN.map (cut3 n) := by rw [HTS.out, List.take_length]
      have HT2 := Lib.hid hTs; clear hTs
      go_wp2_with fail
      go_ret2
      exact ⟨_, rfl, .inr ⟨zs, lh, by rw [← HT2.out]; exact hL.more hB2⟩, hbw6.trans (hbr.mono hB2)⟩
set_option maxHeartbeats 8000000 in
set_option maxRecDepth 100000 in
theorem sLocalBasis_c {p : Int} {x : Value} {st : List Int} {w : World} (hx : El w x st) (hm : st.length ≤ 1048576) :
    Calls Try.prog 30 #[.agg #[.int .i64 p, x]] w fun e w' => ∃ v, e = .returned (.tuple #[v, .int .i64 (RLocalBasis1 p st)]) ∧ OwT TrR w' w.heap.size v (RLocalBasis0 p st) ∧ Below w.heap.size w w' := by
  obtain ⟨a0, c0, rfl, _⟩ := id hx.op
  have hb0 : Below w.heap.size w (w.alloc (.cells #[.int .i64 p, .slice a0 st.length c0] 32)) := (by repeat (first | exact Below.refl _ _ | apply blw_drew | apply blw_alloc | (refine blw_set ?_ (by first | omega | (simp; done) | (simp; omega)) _) | refine below_chain ?_ (by assumption)))
  have d0 : (w.alloc (.cells #[.int .i64 p, .slice a0 st.length c0] 32)).cell? ⟨w.heap.size, 0, none⟩ = some (.int .i64 p) := by simp [go_sem]
  have d1 : (w.alloc (.cells #[.int .i64 p, .slice a0 st.length c0] 32)).cell? ⟨w.heap.size, 1, none⟩ = some (.slice a0 st.length c0) := by simp [go_sem]
  have hx1 := hx.below hb0
  have hcon := sl14_c (p := p) hx1 hm
  by_cases h0 : chk3 p st [] = 0
  case neg =>
    have e1 : RLocalBasis1 p st = chk3 p st [] := if_neg h0
    have e0 : RLocalBasis0 p st = [] := if_neg (by rw [e1]; exact h0)
    rw [e0, e1]
    obtain ⟨r, hr⟩ : ∃ r, r = chk3 p st [] := ⟨_, rfl⟩
    rw [← hr] at h0 hcon ⊢
    clear hr e0 e1
    have hne : (r != 0) = true := by simpa using h0
    go_enter Try.func30, Try.ntmps30
    go_wp2_with fail
    refine hcon.mono ?_; rintro e w1 ⟨rfl, hb1⟩
    go_wp2_with fail
    go_ret2
    exact ⟨_, rfl, .inl ⟨rfl, rfl⟩, below_chain hb0 hb1⟩
  have hd := chk3_dok h0
  rw [h0] at hcon
  have hp1 := hd.hp.lo; have hp2 := hd.hp.hi; have hl3 := hd.hl; have hsz := sz_le hd
  by_cases h3 : st.length = 3
  · have e1 : RLocalBasis1 p st = 5 := by unfold RLocalBasis1; rw [if_pos h0, if_pos h3]
    have e0 : RLocalBasis0 p st = [] := if_neg (by rw [e1]; decide)
    rw [e0, e1]
    have h3b : ((st.length : Int) == 3) = true := by rw [beq_iff_eq]; omega
    have H3 := Lib.hid h3
    clear h0 e0 e1 h3
    go_enter Try.func30, Try.ntmps30
    go_wp2_with fail
    refine hcon.mono ?_; rintro e w1 ⟨rfl, hb1⟩
    have d0 := kept hb1 d0; have d1 := kept hb1 d1
    go_wp2_with fail
    go_ret2
    exact ⟨_, rfl, .inl ⟨rfl, rfl⟩, below_chain hb0 hb1⟩
  have e1 : RLocalBasis1 p st = 0 := by unfold RLocalBasis1; rw [if_pos h0, if_neg h3]
  have e0 : RLocalBasis0 p st = (locN p st).map (cut3 (sz st.length)) := if_pos e1
  rw [e0, e1]
  have h3b : ((st.length : Int) == 3) = false := by rw [beq_eq_false_iff_ne]; omega
  have hbas := fun W h => sbasis15_c (w := W) (p := p) (s := .slice a0 st.length c0) hd h
  have hrow := loc_row hd
  have hshort := locN_le hd
  obtain ⟨LN, hLN⟩ : ∃ x, x = locN p st := ⟨_, rfl⟩
  simp only [← hLN] at hbas hrow hshort ⊢
  obtain ⟨n, hn⟩ : ∃ n, n = sz st.length := ⟨_, rfl⟩
  have hcut := fun W v xs h1 h2 h3 => scut15_c (w := W) (x := v) (xs := xs) (p := p) (s := .slice a0 st.length c0) hd h1 h2 h3
  simp only [← hn] at hsz hrow hshort hcut ⊢
  have hLb : 3 * n * n ≤ 192 := by
    rw [Nat.mul_assoc]
    have h1 := Nat.mul_le_mul hsz.2 hsz.2
    omega
  have hshort : LN.length ≤ 192 := Nat.le_trans hshort hLb
  have HROW := Lib.hid hrow
  clear hLN hn hrow e0 e1 h0 h3 hLb
  go_enter Try.func30, Try.ntmps30
  go_wp2_with fail
  refine hcon.mono ?_; rintro e w1 ⟨rfl, hb1⟩
  have d0 := kept hb1 d0; have d1 := kept hb1 d1; have hx1 := hx1.below hb1
  have hbw := below_chain hb0 hb1
  clear hcon hb0 hb1
  go_wp2_with fail
  refine (hbas _ hx1).mono ?_; rintro e w2 ⟨vl, rfl, hvl, hb2⟩
  have d0 := kept hb2 d0; have d1 := kept hb2 d1; have hx1 := hx1.below hb2
  have hbw := below_chain hbw hb2
  have hB2 := hbw.size
  clear hb2 hbas
  obtain ⟨av, cv, rfl, hv1, hv2, hvR⟩ := id hvl
  have hbO : Below w2.heap.size w2 (w2.alloc (.cells #[] 34)) := (by repeat (first | exact Below.refl _ _ | apply blw_drew | apply blw_alloc | (refine blw_set ?_ (by first | omega | (simp; done) | (simp; omega)) _) | refine below_chain ?_ (by assumption)))
  have hO : LsT TrR (w2.alloc (.cells #[] 34)) w2.heap.size (.slice (some ⟨w2.heap.size, 0, none⟩) 0 0) [] [] [] := LsT.start (Nat.le_refl _)
  go_wp2_with fail
  go_loopw [6, 7] (fun o i wr => ∃ (k : Nat) (zs : List Value) (lh : List (Nat × Nat)) (Ts : List T3), k ≤ LN.length ∧ i = .int .i64 k ∧ Ts = (LN.take k).map (cut3 n) ∧ LsT TrR wr w2.heap.size o zs lh Ts ∧ Below w2.heap.size w2 wr) (fun _ i _ => LN.length - (intOf i).toNat)
  case atStart => exact ⟨0, [], [], [], Nat.zero_le _, rfl, rfl, hO, hbO⟩
  case round =>
    clear hO hbO
    obtain ⟨k, zs, lh, Ts, hk, rfl, hTs, hL, hbr⟩ := hrel
    have HTS := Lib.hid hTs; clear hTs
    have htl : Ts.length ≤ 192 := by rw [HTS.out, List.length_map, List.length_take]; omega
    obtain ⟨ab, cb, rfl⟩ := hL.form
    by_cases hlt : k < LN.length
    · have hlt2 : (k : Int) < (LN.length : Int) := by omega
      obtain ⟨b0, off0, rfl, hcell⟩ := hvR.resolve_left (fun e => by rw [e] at hlt; simp at hlt)
      obtain ⟨u, hcu, hE⟩ := hcell k hlt
      obtain ⟨a2, c2, rfl, _⟩ := hE.op
      have hbd := hbr.drew
      have hcu := kept hbd hcu
      have hE := hE.below hbd
      have k0 := kept hbd d0; have k1 := kept hbd d1; have kx := hx1.below hbd
      have hrl := HROW.out _ (List.getElem_mem hlt)
      have hmt := map_take (n := n) hlt
      obtain ⟨row, hrow⟩ : ∃ row, row = LN[k] := ⟨_, rfl⟩
      rw [← hrow] at hcu hE hrl hmt
      have htr := hcut _ _ _ kx hE hrl
      have HR := Lib.hid hrow; have HRL := Lib.hid hrl; have HMT := Lib.hid hmt; clear hrow hrl hmt
      have hLd := hL.below keepsR (w' := wr.drew) (by repeat (first | exact Below.refl _ _ | apply blw_drew | apply blw_alloc | (refine blw_set ?_ (by first | omega | (simp; done) | (simp; omega)) _) | refine below_chain ?_ (by assumption)))
      go_wp2
      refine region_flow [(false, [(0, 0), (1, 1), (2, 0), (3, 0), (4, 0), (5, 1), (6, 4), (7, 4), (8, 4), (9, 0)])] (by kernel_rfl) ?_
      refine norm_K fun K hK => ?_
      change wpList _ _ _ [_, _, _, _, _, _, _, _, _, _] _ _
      have hsz9 : wr.drew.heap.size = wr.heap.size := rfl
      have hszr := hbd.size
      clear hsz9
      generalize wr.drew = wq at *
      go_wp2_with fail
      refine htr.mono ?_; rintro e w7 ⟨ta, tb, tc, lo, rfl, hlo, hT, hb7⟩
      have hL7 := hLd.below keepsR hb7
      have htop := hLd.top keepsR
      have hvb := fun g hg => (hLd.lt g hg).2
      obtain ⟨⟨g7, us7, P7, S7, c71, rfl, hTG⟩, ⟨g8, us8, P8, S8, c72, rfl, hTG2⟩, ⟨g9, us9, P9, S9, c73, rfl, hTG3⟩⟩ := id hT
      clear hTG hTG2 hTG3
      have hz7 := hb7.size
      go_wp2_with (at_builtin; refine appt_one rfl _ _ rfl w7 w2.heap.size _ rfl (.slice ab Ts.length cb) zs Ts.length rfl _ _ _ 1 rfl rfl rfl rfl hL7.own (by omega) (by omega) ?_; intro g' cap' w8 ho8 hb8 hg8 hge8)
      first | (refine hK _ _ ⟨rfl, ?_⟩; clear hK K) | refine ⟨rfl, ?_⟩
      go_wp2
      go_roundw
      case rel => exact ⟨k + 1, _, _, _, by omega, by go_num, by rw [HMT.out, ← HTS.out], hL7.snoc keepsR hT (by omega) (fun x hx => Nat.le_trans (htop x hx) hlo) (fun g hg => Nat.lt_of_lt_of_le (hvb g hg) hlo) rfl ho8 hb8 hg8 hge8, (hbd.trans (hb7.mono hszr)).trans hb8⟩
      case measure => simp [intOf]; omega
    · obtain rfl : k = LN.length := by omega
      have hlt2 : ¬ ((LN.length : Int) < (LN.length : Int)) := by omega
      have hTs : Ts = LN.map (cut3 n) := by rw [HTS.out, List.take_length]
      have HT2 := Lib.hid hTs; clear hTs
      go_wp2_with fail
      go_ret2
      exact ⟨_, rfl, .inr ⟨zs, lh, by rw [← HT2.out]; exact hL.more hB2⟩, hbw.trans (hbr.mono hB2)⟩
end Go.Proofs.Ytmplpoccalccoaa
