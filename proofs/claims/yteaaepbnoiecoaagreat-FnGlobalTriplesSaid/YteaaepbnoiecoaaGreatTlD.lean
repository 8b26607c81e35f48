import Derived.Test.YteaaepbnoiecoaaGreatTlA
import Derived.Test.YteaaepbnoiecoaaGreatJaw
namespace Go.Proofs.YteaaepbnoiecoaaGreat
open Go.RowKit
theorem addAt_fp {p : Int} {row : List Int} {a : Nat} {x : Int} (hp : 1 <= p) (h : Fp p row) : Fp p (addAt p row a x) := fun y hy => by
 unfold addAt at hy
 rcases List.mem_or_eq_of_mem_set hy with h1 | h1
 ·exact h y h1
 ·rw [h1]; exact mod_fp hp
theorem zeros_fp {p : Int} {n : Nat} (hp : 1 <= p) : Fp p (List.replicate n 0) := fun x hx => by
 have := List.eq_of_mem_replicate hx
 omega
theorem set_fp {p : Int} {row : List Int} {a : Nat} {x : Int} (h : Fp p row) (hx : 0 <= x /\ x < p) : Fp p (row.set a x) := fun y hy => by
 rcases List.mem_or_eq_of_mem_set hy with h1 | h1
 ·exact h y h1
 ·rw [h1]; exact hx
theorem formRow_fp {p : Int} {n i j k : Nat} {F : Nat -> Nat -> Nat -> Int} (hp : 1 <= p) : ∀ r, Fp p (formRow p n F i j k r)
 | 0 => zeros_fp hp
 | r + 1 => addAt_fp hp (addAt_fp hp (addAt_fp hp (formRow_fp hp r)))
theorem prod_b {a b A B : Nat} (h1 : a <= A) (h2 : b <= B) : 0 <= (a : Int) * (b : Int) /\ (a : Int) * (b : Int) <= ((A * B : Nat) : Int) := by
 rw [<- Int.natCast_mul]
 exact ⟨Int.natCast_nonneg _, Int.ofNat_le.2 (Nat.mul_le_mul h1 h2)⟩
set_option maxHeartbeats 16000000 in
set_option maxRecDepth 100000 in
theorem locrowsF_c {p : Int} {s : Value} {st : List Int} {w : World} (hd : Dok p st) (hs : El w s st) :
  Calls Tryz.prog 28 #[.agg #[.int .i64 p, s]] w fun e w' => ∃ v, e = .returned v /\ ReF w' w.heap.size v (locL p (sz st.length) (fun i => (diagF p st).getD i 0) (cycF p st)) /\ Below w.heap.size w w' := by
 have hp1 := hd.hp.lo; have hp2 := hd.hp.hi; have hl3 := hd.hl; have hsz := sz_le hd
 obtain ⟨a0, c0, rfl, _⟩ := id hs.op
 have hdl := diagF_len (p := p) (st := st)
 have hDb : ∀ i, 0 <= (diagF p st).getD i 0 /\ (diagF p st).getD i 0 < p := fun i => (diagF_fp (p := p) (st := st) (by omega)).g0 (by omega) i
 have hFb : ∀ i j k, 0 <= cycF p st i j k /\ cycF p st i j k < p := fun i j k => by unfold cycF; exact mod_fp (by omega)
 have hszc := fun W => size_c (w := W) (p := p) (a := a0) (n := st.length) (c := c0) (by omega)
 have hcy := fun W h => cyc_c (w := W) (p := p) (s := .slice a0 st.length c0) hd h
 obtain ⟨F, hF⟩ : ∃ F, F = cycF p st := ⟨_, rfl⟩
 simp only [<- hF] at hcy hFb ⊢
 obtain ⟨D, hD_⟩ : ∃ D : Nat -> Int, D = fun i => (diagF p st).getD i 0 := ⟨_, rfl⟩
 have hDe : ∀ i, (diagF p st).getD i 0 = D i := fun i => by rw [hD_]
 rw [<- hD_]
 simp only [hDe] at hDb
 obtain ⟨n, hn⟩ : ∃ n, n = sz st.length := ⟨_, rfl⟩
 simp only [<- hn] at hsz hszc hcy hdl ⊢
 have HDL := Lib.hid hdl; have HDE := Lib.hid hDe; have HDB := Lib.hid hDb; have HFB := Lib.hid hFb
 clear hn hdl hDe hDb hFb hF hD_
 have hnn := prod_b (a := n) (b := n) (A := 8) (B := 8) (by omega) (by omega)
 have h3n : 0 <= 3 * (n : Int) /\ 3 * (n : Int) <= 24 := by omega
 have h2n : 0 <= 2 * (n : Int) /\ 2 * (n : Int) <= 16 := by omega
 obtain ⟨L, hL⟩ : ∃ L, L = 3 * n * n := ⟨_, rfl⟩
 have hLi : 3 * (n : Int) * (n : Int) = ((L : Nat) : Int) := by rw [hL, Int.natCast_mul, Int.natCast_mul]; rfl
 have h2i : 0 <= 2 * (n : Int) * (n : Int) /\ 2 * (n : Int) * (n : Int) <= 128 := by rw [Int.mul_assoc]; omega
 have hLb : 1 <= L /\ L <= 192 := by
  rw [hL, Nat.mul_assoc]
  have h1 := Nat.mul_le_mul hsz.2 hsz.2
  have h2 := Nat.mul_le_mul hsz.1 hsz.1
  omega
 have HL := Lib.hid hL; have HLI := Lib.hid hLi
 clear hL hLi
 go_enter Tryz.func28, Tryz.ntmps28
 have hb0 : Below w.heap.size w (w.alloc (.cells #[.int .i64 p, .slice a0 st.length c0] 26)) := bwT
 have hs := hs.below hb0
 have d0 : (w.alloc (.cells #[.int .i64 p, .slice a0 st.length c0] 26)).cell? ⟨w.heap.size, 0, none⟩ = some (.int .i64 p) := by simp [go_sem]
 have d1 : (w.alloc (.cells #[.int .i64 p, .slice a0 st.length c0] 26)).cell? ⟨w.heap.size, 1, none⟩ = some (.slice a0 st.length c0) := by simp [go_sem]
 go_wp2_with fail
 refine region_flow [(false, [(0, 1), (2, 1), (4, 1), (6, 1), (1, 5)]), (false, [(3, 5)]), (false, [(5, 5)]), (false, [(7, 4), (8, 0), (9, 0), (10, 0), (11, 0)])] (by kernel_rfl) ?_
 refine norm_K fun K hK => ?_
 change wpList _ _ _ [_, _, _, _, _] _ _
 have hb1 : Below (w.alloc (.cells #[.int .i64 p, .slice a0 st.length c0] 26)).heap.size (w.alloc (.cells #[.int .i64 p, .slice a0 st.length c0] 26)) (w.alloc (.cells #[.int .i64 p, .slice a0 st.length c0] 26)).drew := bwT
 have hs := hs.below hb1; have d0 := kept hb1 d0; have d1 := kept hb1 d1
 generalize (w.alloc (.cells #[.int .i64 p, .slice a0 st.length c0] 26)).drew = wq at *
 go_wp2_with fail
 refine (hszc _).mono ?_; rintro e w2 ⟨rfl, hb2⟩
 have hs := hs.below hb2; have d0 := kept hb2 d0; have d1 := kept hb2 d1
 go_wp2_with fail
 have hz0 : Below wq.heap.size wq w2 := bwT
 first | (refine hK _ _ ⟨hz0, ?_⟩; clear hK K) | refine ⟨hz0, ?_⟩
 clear hz0
 refine norm_K fun K hK => ?_
 change wpList _ _ _ [_] _ _
 go_wp2_with fail
 refine (dfield_c).mono ?_; rintro e w3 ⟨rfl, hb3⟩
 have hs := hs.below hb3; have d0 := kept hb3 d0; have d1 := kept hb3 d1
 go_wp2_with fail
 have hz1 : Below wq.heap.size wq w3 := bwT
 first | (refine hK _ _ ⟨hz1, ?_⟩; clear hK K) | refine ⟨hz1, ?_⟩
 clear hz1
 refine norm_K fun K hK => ?_
 change wpList _ _ _ [_] _ _
 go_wp2_with fail
 refine (diag_c hd hs).mono ?_; rintro e w4 ⟨vd, rfl, hD, hb4⟩
 have hs := hs.below hb4; have d0 := kept hb4 d0; have d1 := kept hb4 d1
 go_wp2_with fail
 have hz2 : Below wq.heap.size wq w4 := bwT
 first | (refine hK _ _ ⟨hz2, ?_⟩; clear hK K) | refine ⟨hz2, ?_⟩
 clear hz2
 refine norm_K fun K hK => ?_
 change wpList _ _ _ [_, _, _, _, _] _ _
 obtain ⟨gd, kd, rfl, hDo⟩ := id hD
 go_wp2_with fail
 refine (hcy _ hs).mono ?_; rintro e w5 ⟨gf, kf, rfl, hCu, hb5⟩
 have hs := hs.below hb5; have d0 := kept hb5 d0; have d1 := kept hb5 d1; have hD := hD.below hb5
 go_wp2_with fail
 first | (refine hK _ _ ⟨rfl, ?_⟩; clear hK K) | refine ⟨rfl, ?_⟩
 have hDo := hDo.below hb5
 rw [HDL.out] at hDo ⊢
 have hDc : ∀ i, i < n -> w5.cell? ⟨gd, i, none⟩ = some (.int .i64 (D i)) := fun i hi => by
  have := hDo.hold hi
  rw [HDE.out] at this
  exact this
 have HDC := Lib.hid hDc
 have hbx : Below w.heap.size w w5 := bwT
 clear hD hDo hDc hs
 generalize w5 = u at *
 have hI0 : OwV (u.alloc (.cells #[] 24)) u.heap.size (.slice (some ⟨u.heap.size, 0, none⟩) 0 0) [] := OwV.new (Nat.le_refl _)
 have hbA : Below u.heap.size u (u.alloc (.cells #[] 24)) := bwT
 go_wp2_with fail
 go_loopw [7, 26] (fun o q wr => ∃ (t g cap : Nat) (us : List Value), t <= 3 /\ q = .int .i64 t /\ o = .slice (some ⟨g, 0, none⟩) us.length cap /\ us.length <= 1000 * t /\ OwV wr u.heap.size (.slice (some ⟨g, 0, none⟩) us.length cap) us /\ RowsF wr u.heap.size us (skP p n D t) /\ Below u.heap.size u wr) (fun _ q _ => 3 - (intOf q).toNat)
 case atStart => exact ⟨0, u.heap.size, 0, [], by omega, rfl, rfl, by simp, hI0, RowsF.nil _ _, hbA⟩
 case round =>
  clear hI0 hbA
  obtain ⟨t, g, cap, us, ht3, rfl, rfl, hul, hI, hR, hb⟩ := hrel
  by_cases hlt : t < 3
  ·generalize wr = wo at *
   have ht3b : decide ((t : Int) < 3) = true := by rw [decide_eq_true_eq]; omega
   have htn := prod_b (a := t) (b := n) (A := 3) (B := 8) (by omega) (by omega)
   have htnn : 0 <= (t : Int) * (n : Int) * (n : Int) /\ (t : Int) * (n : Int) * (n : Int) <= 192 := by
    have := prod_b (a := t * n) (b := n) (A := 24) (B := 8) (Nat.mul_le_mul (by omega : t <= 3) hsz.2) hsz.2
    rw [Int.natCast_mul] at this
    exact this
   have hR0 : RowsF wo u.heap.size us (skP p n D t ++ skI p n D t 0) := by rw [show skI p n D t 0 = [] from rfl, List.append_nil]; exact hR
   go_wp2_with fail
   go_loopw [7, 30] (fun o q wr => ∃ (i g cap : Nat) (us : List Value), i <= n /\ q = .int .i64 i /\ o = .slice (some ⟨g, 0, none⟩) us.length cap /\ us.length <= 1000 * t + 100 * i /\ OwV wr u.heap.size (.slice (some ⟨g, 0, none⟩) us.length cap) us /\ RowsF wr u.heap.size us (skP p n D t ++ skI p n D t i) /\ Below u.heap.size u wr) (fun _ q _ => n - (intOf q).toNat)
   case atStart => exact ⟨0, g, cap, us, Nat.zero_le _, rfl, rfl, by omega, hI, hR0, hb⟩
   case round =>
    clear hI hR hR0 hb hul
    obtain ⟨i, g, cap, us, hin, rfl, rfl, hul, hI, hR, hb⟩ := hrel
    by_cases hlt2 : i < n
    ·generalize wr = wp at *
     have hinb := prod_b (a := i) (b := n) (A := 8) (B := 8) (by omega) (by omega)
     have hR0 : RowsF wp u.heap.size us (skP p n D t ++ skI p n D t i ++ skK p n D t i 0) := by rw [show skK p n D t i 0 = [] from rfl, List.append_nil]; exact hR
     go_wp2_with fail
     go_loopw [7, 35] (fun o q wr => ∃ (k g cap : Nat) (us : List Value), k <= i + 1 /\ q = .int .i64 k /\ o = .slice (some ⟨g, 0, none⟩) us.length cap /\ us.length <= 1000 * t + 100 * i + k /\ OwV wr u.heap.size (.slice (some ⟨g, 0, none⟩) us.length cap) us /\ RowsF wr u.heap.size us (skP p n D t ++ skI p n D t i ++ skK p n D t i k) /\ Below u.heap.size u wr) (fun _ q _ => i + 1 - (intOf q).toNat)
     case atStart => exact ⟨0, g, cap, us, Nat.zero_le _, rfl, rfl, by omega, hI, hR0, hb⟩
     case round =>
      clear hI hR hR0 hb hul
      obtain ⟨k, g, cap, us, hkn, rfl, rfl, hul, hI, hR, hb⟩ := hrel
      by_cases hlt3 : k < i + 1
      ·as_aux_lemma =>
       have hkn2 : k < n := by omega
       have hkb : decide ((k : Int) < (i : Int) + 1) = true := by rw [decide_eq_true_eq]; omega
       have hknb := prod_b (a := k) (b := n) (A := 8) (B := 8) (by omega) (by omega)
       have hal := idx_lt (t := t) (a := i) (b := k) (n := n) hlt2 hkn2 hlt
       have hbl := idx_lt (t := t) (a := k) (b := i) (n := n) hkn2 hlt2 hlt
       obtain ⟨a, ha⟩ : ∃ a, a = t * n * n + i * n + k := ⟨_, rfl⟩
       obtain ⟨b, hb_⟩ : ∃ b, b = t * n * n + k * n + i := ⟨_, rfl⟩
       have hai : (t : Int) * (n : Int) * (n : Int) + (i : Int) * (n : Int) + (k : Int) = ((a : Nat) : Int) := by rw [ha]; simp [Int.natCast_add, Int.natCast_mul]
       have hbi : (t : Int) * (n : Int) * (n : Int) + (k : Int) * (n : Int) + (i : Int) = ((b : Nat) : Int) := by rw [hb_]; simp [Int.natCast_add, Int.natCast_mul]
       rw [<- ha, <- HL.out] at hal; rw [<- hb_, <- HL.out] at hbl
       have hsr : Hid (skewRow p n D t i k = addAt p ((List.replicate L 0).set a (D i)) b (D k)) := Lib.hid (by unfold skewRow; rw [HL.out, ha, hb_])
       have hci := kept hb (HDC.out i hlt2); have hck := kept hb (HDC.out k hkn2)
       have bi := HDB.out i; have bk := HDB.out k
       obtain ⟨x, hx⟩ : ∃ x, x = D i := ⟨_, rfl⟩
       obtain ⟨y, hy⟩ : ∃ y, y = D k := ⟨_, rfl⟩
       rw [<- hx] at hci bi hsr; rw [<- hy] at hck bk hsr
       have hmk := fun W => run_make_row' (P := Tryz.prog) 24 2 (.int .i64 0) 8 Tryz.underlying24 infoI rfl .i64 .i64 L (by omega) (by omega) W
       have hrow := made_set (W := wr) (n := L) (k := a) x (by omega)
       have hnew := made_own (W := wr) (n := L) (by omega)
       have hold := hnew.hold (i := a) hal
       have hfree := hnew.free a
       obtain ⟨z, hz⟩ : ∃ z, z = (List.replicate L (0 : Int)).getD a 0 := ⟨_, rfl⟩
       rw [<- hz] at hold
       have hLi := HLI.out
       have HA := Lib.hid ha; have HB_ := Lib.hid hb_; have HX := Lib.hid hx; have HY := Lib.hid hy; have HAI := Lib.hid hai; have HBI := Lib.hid hbi
       clear ha hb_ hx hy hz hnew hbi hai
       have hai := HAI.out; have hbi := HBI.out
       have hbM : Below wr.heap.size wr (wr.alloc (.cells (madeCells #[Value.int .i64 0] L) 2)) := bwT
       have hcim := kept hbM hci
       go_wp2_with fail
       clear hcim hbM
       have hbS : Below wr.heap.size wr (wr.alloc (.cells ((madeCells #[Value.int .i64 0] L).setIfInBounds a (.int .i64 x)) 2)) := bwT
       have hcka := kept hbS hck
       have hsfp : Fp p ((List.replicate L (0 : Int)).set a x) := set_fp (zeros_fp (by omega)) bi
       have ho0 := hsfp.g0 (by omega) b
       obtain ⟨row, hrw⟩ : ∃ row, row = (List.replicate L (0 : Int)).set a x := ⟨_, rfl⟩
       rw [<- hrw] at hrow hsr ho0
       obtain ⟨o, ho⟩ : ∃ o, o = row.getD b 0 := ⟨_, rfl⟩
       have hbq : Hid (row.getD b 0 = o) := Lib.hid ho.symm
       rw [<- ho] at ho0
       clear hrw ho hsfp
       obtain ⟨wa, hwa⟩ : ∃ x_, x_ = wr.alloc (.cells ((madeCells #[Value.int .i64 0] L).setIfInBounds a (.int .i64 x)) 2) := ⟨_, rfl⟩
       rw [<- hwa] at hrow hbS hcka ⊢
       clear hwa hold hfree hci hck
       go_wp2_with fail
       refine region_flowP [(32, 26, [31]), (32, 30, [31]), (34, 26, []), (34, 30, [])] [(false, [(0, 0), (1, 0), (2, 0), (3, 0), (4, 0), (5, 0), (6, 0), (7, 0), (8, 0), (9, 0), (10, 0), (11, 0), (12, 0), (13, 0), (14, 0), (15, 0), (16, 0), (17, 0), (18, 0), (19, 0), (20, 0), (21, 0), (22, 0), (23, 0), (24, 0), (25, 0), (26, 1), (27, 0), (28, 0), (29, 0), (30, 1), (31, 0), (32, 4), (33, 0), (34, 4)])] (by kernel_rfl) ?_
       refine norm_K fun K hK => ?_
       change wpList _ _ _ [_, _, _, _, _, _, _, _, _, _, _, _, _, _, _, _, _, _, _, _, _, _, _, _, _, _, _, _, _, _, _, _, _, _, _] _ _
       have hb21 : Below wa.heap.size wa wa.drew := bwT
       have hrow := hrow.below hb21; have hcka := kept hb21 hcka
       generalize wa.drew = wq at *
       have hcb := hrow.hold (i := b) hbl
       rw [hbq.out] at hcb
       have hfb := hrow.free b
       go_wp2_with fail
       refine (num_c (by omega) (by omega)).mono ?_; rintro e w22 ⟨rfl, rfl⟩
       go_wp2_with fail
       first | (refine hK _ _ ⟨rfl, ?_⟩; clear hK K) | refine ⟨rfl, ?_⟩
       have hset := hrow.set (i := b) ((o + y) % p)
       have hse : Hid (row.set b ((o + y) % p) = skewRow p n D t i k) := Lib.hid (by rw [hsr.out]; unfold addAt; rw [hbq.out])
       rw [hse.out] at hset
       have hbT : Below wr.heap.size wr (wq.setCell ⟨wr.heap.size, b, none⟩ (.int .i64 ((o + y) % p))) := bwS (bwC hbS hb21) (Nat.le_refl _) _
       have hI2 := hI.below hbT; have hR2 := hR.below hbT
       have hbU := bwC hb hbT
       have hF2 := hset.fr.more (B' := u.heap.size) hb.size
       have hzz := hbU.size
       go_wp2_with (at_builtin; refine appr_one rfl _ _ rfl (wq.setCell ⟨wr.heap.size, b, none⟩ (.int .i64 ((o + y) % p))) u.heap.size wq.heap.size (by simp [World.setCell]) (.slice (some ⟨g, 0, none⟩) us.length cap) us rfl (.slice (some ⟨wr.heap.size, 0, none⟩) L L) 1 rfl rfl hI2 hzz (by omega) ?_; intro g' cap' w' ho' hb' hg' hge)
       go_roundw
       case rel => exact ⟨k + 1, g', cap', us ++ [.slice (some ⟨wr.heap.size, 0, none⟩) L L], by omega, by go_num, by simp, by simp; omega, by simpa using ho', by rw [skK_succ, <- List.append_assoc]; exact (hR2.app hI2 hg').snoc (hF2.app hI2 hg'), hbU.trans hb'⟩
       case measure => simp [intOf]; omega
      ·obtain rfl : k = i + 1 := by omega
       rw [List.append_assoc, <- skI_succ] at hR
       have hkb : decide ((i : Int) + 1 < (i : Int) + 1) = false := by simp
       go_wp2_with fail
       go_roundw
       case rel => exact ⟨i + 1, g, cap, us, by omega, by go_num, rfl, by omega, hI, hR, hb⟩
       case measure => simp [intOf]; omega
    ·obtain rfl : i = n := by omega
     rw [<- skP_succ] at hR
     go_wp2_with fail
     go_roundw
     case rel => exact ⟨t + 1, g, cap, us, by omega, by go_num, rfl, by omega, hI, hR, hb⟩
     case measure => simp [intOf]; omega
  ·have et : t = 3 := by omega
   rw [et] at hR hul
   have ht3b : decide ((t : Int) < 3) = false := by rw [decide_eq_false_iff_not]; omega
   clear et
   obtain ⟨S0, hS0⟩ : ∃ S0, S0 = skP p n D 3 := ⟨_, rfl⟩
   rw [<- hS0] at hR
   have HS0 := Lib.hid hS0; clear hS0
   have hR0 : RowsF wr u.heap.size us (S0 ++ foI p n F 0) := by rw [show foI p n F 0 = [] from rfl, List.append_nil]; exact hR
   go_wp2_with fail
   go_loopw [7, 102] (fun o q wr => ∃ (i g cap : Nat) (us : List Value), i <= n /\ q = .int .i64 i /\ o = .slice (some ⟨g, 0, none⟩) us.length cap /\ us.length <= 3000 + 1000 * i /\ OwV wr u.heap.size (.slice (some ⟨g, 0, none⟩) us.length cap) us /\ RowsF wr u.heap.size us (S0 ++ foI p n F i) /\ Below u.heap.size u wr) (fun _ q _ => n - (intOf q).toNat)
   case atStart => exact ⟨0, g, cap, us, Nat.zero_le _, rfl, rfl, by omega, hI, hR0, hb⟩
   case round =>
    clear hI hR hR0 hb hul
    obtain ⟨i, g, cap, us, hin, rfl, rfl, hul, hI, hR, hb⟩ := hrel
    by_cases hlt : i < n
    ·generalize wr = wo at *
     have hR0 : RowsF wo u.heap.size us (S0 ++ foI p n F i ++ foJ p n F i 0) := by rw [show foJ p n F i 0 = [] from rfl, List.append_nil]; exact hR
     go_wp2_with fail
     go_loopw [7, 106] (fun o q wr => ∃ (j g cap : Nat) (us : List Value), j <= n /\ q = .int .i64 j /\ o = .slice (some ⟨g, 0, none⟩) us.length cap /\ us.length <= 3000 + 1000 * i + 100 * j /\ OwV wr u.heap.size (.slice (some ⟨g, 0, none⟩) us.length cap) us /\ RowsF wr u.heap.size us (S0 ++ foI p n F i ++ foJ p n F i j) /\ Below u.heap.size u wr) (fun _ q _ => n - (intOf q).toNat)
     case atStart => exact ⟨0, g, cap, us, Nat.zero_le _, rfl, rfl, by omega, hI, hR0, hb⟩
     case round =>
      clear hI hR hR0 hb hul
      obtain ⟨j, g, cap, us, hjn, rfl, rfl, hul, hI, hR, hb⟩ := hrel
      by_cases hlt2 : j < n
      ·generalize wr = wp at *
       have hR0 : RowsF wp u.heap.size us (S0 ++ foI p n F i ++ foJ p n F i j ++ foK p n F i j 0) := by rw [show foK p n F i j 0 = [] from rfl, List.append_nil]; exact hR
       go_wp2_with fail
       go_loopw [7, 110] (fun o q wr => ∃ (k g cap : Nat) (us : List Value), k <= n /\ q = .int .i64 k /\ o = .slice (some ⟨g, 0, none⟩) us.length cap /\ us.length <= 3000 + 1000 * i + 100 * j + k /\ OwV wr u.heap.size (.slice (some ⟨g, 0, none⟩) us.length cap) us /\ RowsF wr u.heap.size us (S0 ++ foI p n F i ++ foJ p n F i j ++ foK p n F i j k) /\ Below u.heap.size u wr) (fun _ q _ => n - (intOf q).toNat)
       case atStart => exact ⟨0, g, cap, us, Nat.zero_le _, rfl, rfl, by omega, hI, hR0, hb⟩
       case round =>
        clear hI hR hR0 hb hul
        obtain ⟨k, g, cap, us, hkn, rfl, rfl, hul, hI, hR, hb⟩ := hrel
        by_cases hlt3 : k < n
        ·have hmk := fun W => run_make_row' (P := Tryz.prog) 24 2 (.int .i64 0) 8 Tryz.underlying24 infoI rfl .i64 .i64 L (by omega) (by omega) W
         generalize wr = wv at *
         have hnew := made_own (W := wv) (n := L) (by omega)
         have hbN : Below wv.heap.size wv (wv.alloc (.cells (madeCells #[Value.int .i64 0] L) 2)) := bwT
         have hnew0 : OwnI (wv.alloc (.cells (madeCells #[Value.int .i64 0] L) 2)) wv.heap.size wv.heap.size L L (formRow p n F i j k 0) := by rw [show formRow p n F i j k 0 = List.replicate L 0 by rw [HL.out]; rfl]; exact hnew
         have hLi := HLI.out
         clear hnew
         go_wp2_with fail
         go_loopw [119] (fun q wr => ∃ (r : Nat), r <= n /\ q = .int .i64 r /\ OwnI wr wv.heap.size wv.heap.size L L (formRow p n F i j k r) /\ Below wv.heap.size wv wr) (fun q _ => n - (intOf q).toNat)
         case atStart => exact ⟨0, Nat.zero_le _, rfl, hnew0, hbN⟩
         case round =>
          clear hnew0 hbN hLi hmk
          obtain ⟨r, hrn, rfl, hrow, hbr⟩ := hrel
          by_cases hlt4 : r < n
          ·as_aux_lemma =>
           have hrnb := prod_b (a := r) (b := n) (A := 8) (B := 8) (by omega) (by omega)
           have l0 := idx_lt (t := 0) (a := r) (b := i) (n := n) hlt4 hlt (by omega)
           have l1 := idx_lt (t := 1) (a := r) (b := j) (n := n) hlt4 hlt2 (by omega)
           have l2 := idx_lt (t := 2) (a := r) (b := k) (n := n) hlt4 hlt3 (by omega)
           rw [show 0 * n * n + r * n + i = r * n + i by simp, <- HL.out] at l0
           rw [show 1 * n * n + r * n + j = n * n + r * n + j by simp, <- HL.out] at l1
           rw [<- HL.out] at l2
           obtain ⟨a, ha⟩ : ∃ a, a = r * n + i := ⟨_, rfl⟩
           obtain ⟨b, hb_⟩ : ∃ b, b = n * n + r * n + j := ⟨_, rfl⟩
           obtain ⟨c, hc_⟩ : ∃ c, c = 2 * n * n + r * n + k := ⟨_, rfl⟩
           have hai : (r : Int) * (n : Int) + (i : Int) = ((a : Nat) : Int) := by rw [ha]; simp [Int.natCast_add, Int.natCast_mul]
           have hbi : (n : Int) * (n : Int) + (r : Int) * (n : Int) + (j : Int) = ((b : Nat) : Int) := by rw [hb_]; simp [Int.natCast_add, Int.natCast_mul]
           have hci : 2 * (n : Int) * (n : Int) + (r : Int) * (n : Int) + (k : Int) = ((c : Nat) : Int) := by rw [hc_]; simp [Int.natCast_add, Int.natCast_mul]
           rw [<- ha] at l0; rw [<- hb_] at l1; rw [<- hc_] at l2
           have hst : Hid (formRow p n F i j k (r + 1) = addAt p (addAt p (addAt p (formRow p n F i j k r) a (F r j k)) b (F i r k)) c (F i j r)) := Lib.hid (by rw [ha, hb_, hc_]; rfl)
           have hfp0 := formRow_fp (p := p) (n := n) (i := i) (j := j) (k := k) (F := F) (by omega) r
           have hfp1 := addAt_fp (a := a) (x := F r j k) (by omega : 1 <= p) hfp0
           have hfp2 := addAt_fp (a := b) (x := F i r k) (by omega : 1 <= p) hfp1
           have q0 := hfp0.g0 (by omega) a; have q1 := hfp1.g0 (by omega) b; have q2 := hfp2.g0 (by omega) c
           have hbz := bwC hb hbr
           obtain ⟨ba, ca, hc1, hcj1⟩ := hCu r hlt4
           obtain ⟨bb, cb, hc2, hck2⟩ := hcj1 j hlt2
           have hc3 := hck2 k hlt3
           obtain ⟨bc, cc, hc4, hcj4⟩ := hCu i hlt
           obtain ⟨bd, cd, hc5, hck5⟩ := hcj4 r hlt4
           have hc6 := hck5 k hlt3
           obtain ⟨be, ce, hc8, hck8⟩ := hcj4 j hlt2
           have hc9 := hck8 r hlt4
           have v1 := HFB.out r j k; have v2 := HFB.out i r k; have v3 := HFB.out i j r
           obtain ⟨x, hx⟩ : ∃ x, x = F r j k := ⟨_, rfl⟩
           obtain ⟨y, hy⟩ : ∃ y, y = F i r k := ⟨_, rfl⟩
           obtain ⟨z, hz⟩ : ∃ z, z = F i j r := ⟨_, rfl⟩
           rw [<- hx] at hc3 v1 hst q1 q2; rw [<- hy] at hc6 v2 hst q2; rw [<- hz] at hc9 v3 hst
           obtain ⟨R0, hR0⟩ : ∃ R0, R0 = formRow p n F i j k r := ⟨_, rfl⟩
           rw [<- hR0] at hrow hst q0 q1 q2
           obtain ⟨o0, ho0⟩ : ∃ o, o = R0.getD a 0 := ⟨_, rfl⟩
           obtain ⟨R1, hR1⟩ : ∃ R1, R1 = addAt p R0 a x := ⟨_, rfl⟩
           rw [<- hR1] at hst q1 q2
           obtain ⟨o1, ho1⟩ : ∃ o, o = R1.getD b 0 := ⟨_, rfl⟩
           obtain ⟨R2, hR2⟩ : ∃ R2, R2 = addAt p R1 b y := ⟨_, rfl⟩
           rw [<- hR2] at hst q2
           obtain ⟨o2, ho2⟩ : ∃ o, o = R2.getD c 0 := ⟨_, rfl⟩
           rw [<- ho0] at q0; rw [<- ho1] at q1; rw [<- ho2] at q2
           have E1 : Hid (R0.set a ((o0 + x) % p) = R1) := Lib.hid (by rw [hR1, ho0]; rfl)
           have E2 : Hid (R1.set b ((o1 + y) % p) = R2) := Lib.hid (by rw [hR2, ho1]; rfl)
           have E3 : Hid (R2.set c ((o2 + z) % p) = formRow p n F i j k (r + 1)) := Lib.hid (by rw [hst.out, ho2]; rfl)
           have O0 := Lib.hid ho0; have O1 := Lib.hid ho1; have O2 := Lib.hid ho2
           clear hx hy hz hR0 ho0 hR1 ho1 hR2 ho2 ha hb_ hc_ hfp0 hfp1 hfp2 hcj1 hck2 hcj4 hck5 hck8
           have H1 := Lib.hid hc1; have H2 := Lib.hid hc2; have H3 := Lib.hid hc3; have H4 := Lib.hid hc4; have H5 := Lib.hid hc5; have H6 := Lib.hid hc6; have H8 := Lib.hid hc8; have H9 := Lib.hid hc9
           clear hc1 hc2 hc3 hc4 hc5 hc6 hc8 hc9
           have hc1 := kept hbz H1.out; have hc2 := kept hbz H2.out; have hc3 := kept hbz H3.out
           go_wp2_with fail
           go_wp2_with fail
           refine region_flowP [(26, 14, [25]), (26, 18, [25, 24, 23, 21, 20]), (26, 21, [25, 24, 23]), (26, 24, [25]), (28, 14, []), (28, 18, []), (28, 21, []), (28, 24, [])] [(false, [(0, 0), (1, 0), (2, 0), (3, 0), (4, 0), (5, 0), (6, 0), (7, 0), (8, 0), (9, 0), (10, 0), (11, 0), (12, 0), (13, 0), (14, 1), (15, 0), (16, 0), (17, 0), (18, 1), (19, 0), (20, 0), (21, 1), (22, 0), (23, 0), (24, 1), (25, 0), (26, 4), (27, 0), (28, 4)])] (by kernel_rfl) ?_
           refine norm_K fun K hK => ?_
           change wpList _ _ _ [_, _, _, _, _, _, _, _, _, _, _, _, _, _, _, _, _, _, _, _, _, _, _, _, _, _, _, _, _] _ _
           have hb21 : Below wr.heap.size wr wr.drew := bwT
           have hrow := hrow.below hb21; have hc1 := kept hb21 hc1; have hc2 := kept hb21 hc2; have hc3 := kept hb21 hc3
           generalize wr.drew = wx at *
           have hcb := hrow.hold (i := a) l0
           rw [<- O0.out] at hcb
           have hfb := hrow.free a
           go_wp2_with fail
           refine (num_c (by omega) (by omega)).mono ?_; rintro e w22 ⟨rfl, rfl⟩
           go_wp2_with fail
           first | (refine hK _ _ ⟨rfl, ?_⟩; clear hK K) | refine ⟨rfl, ?_⟩
           have hset := hrow.set (i := a) ((o0 + x) % p)
           rw [E1.out] at hset
           have hbT : Below wv.heap.size wv (wx.setCell ⟨wv.heap.size, a, none⟩ (.int .i64 ((o0 + x) % p))) := bwS (bwC hbr hb21) (Nat.le_refl _) _
           clear hc1 hc2 hc3 hcb hfb hrow hbr hbz hb21
           obtain ⟨wy, hwy⟩ : ∃ x_, x_ = wx.setCell ⟨wv.heap.size, a, none⟩ (.int .i64 ((o0 + x) % p)) := ⟨_, rfl⟩
           rw [<- hwy] at hset hbT ⊢
           clear hwy
           have hbz := bwC hb hbT
           have hc4 := kept hbz H4.out; have hc5 := kept hbz H5.out; have hc6 := kept hbz H6.out
           have hrow := hset; clear hset
           go_wp2_with fail
           go_wp2_with fail
           refine region_flowP [(34, 22, [33]), (34, 26, [33, 32, 31, 29, 28]), (34, 29, [33, 32, 31]), (34, 32, [33]), (36, 22, []), (36, 26, []), (36, 29, []), (36, 32, [])] [(false, [(0, 0), (1, 0), (2, 0), (3, 0), (4, 0), (5, 0), (6, 0), (7, 0), (8, 0), (9, 0), (10, 0), (11, 0), (12, 0), (13, 0), (14, 0), (15, 0), (16, 0), (17, 0), (18, 0), (19, 0), (20, 0), (21, 0), (22, 1), (23, 0), (24, 0), (25, 0), (26, 1), (27, 0), (28, 0), (29, 1), (30, 0), (31, 0), (32, 1), (33, 0), (34, 4), (35, 0), (36, 4)])] (by kernel_rfl) ?_
           refine norm_K fun K hK => ?_
           change wpList _ _ _ [_, _, _, _, _, _, _, _, _, _, _, _, _, _, _, _, _, _, _, _, _, _, _, _, _, _, _, _, _, _, _, _, _, _, _, _, _] _ _
           have hb21 : Below wy.heap.size wy wy.drew := bwT
           have hrow := hrow.below hb21; have hc4 := kept hb21 hc4; have hc5 := kept hb21 hc5; have hc6 := kept hb21 hc6
           generalize wy.drew = wx2 at *
           have hcb := hrow.hold (i := b) l1
           rw [<- O1.out] at hcb
           have hfb := hrow.free b
           go_wp2_with fail
           refine (num_c (by omega) (by omega)).mono ?_; rintro e w22 ⟨rfl, rfl⟩
           go_wp2_with fail
           first | (refine hK _ _ ⟨rfl, ?_⟩; clear hK K) | refine ⟨rfl, ?_⟩
           have hset := hrow.set (i := b) ((o1 + y) % p)
           rw [E2.out] at hset
           have hbT2 : Below wv.heap.size wv (wx2.setCell ⟨wv.heap.size, b, none⟩ (.int .i64 ((o1 + y) % p))) := bwS (bwC hbT hb21) (Nat.le_refl _) _
           clear hc4 hc5 hc6 hcb hfb hrow hbT hbz hb21
           obtain ⟨wz, hwz⟩ : ∃ x_, x_ = wx2.setCell ⟨wv.heap.size, b, none⟩ (.int .i64 ((o1 + y) % p)) := ⟨_, rfl⟩
           rw [<- hwz] at hset hbT2 ⊢
           clear hwz
           have hbz := bwC hb hbT2
           have hc4 := kept hbz H4.out; have hc8 := kept hbz H8.out; have hc9 := kept hbz H9.out
           have hrow := hset; clear hset
           go_wp2_with fail
           go_wp2_with fail
           refine region_flowP [(36, 24, [35]), (36, 28, [35, 34, 33, 31, 30]), (36, 31, [35, 34, 33]), (36, 34, [35]), (38, 24, []), (38, 28, []), (38, 31, []), (38, 34, [])] [(false, [(0, 0), (1, 0), (2, 0), (3, 0), (4, 0), (5, 0), (6, 0), (7, 0), (8, 0), (9, 0), (10, 0), (11, 0), (12, 0), (13, 0), (14, 0), (15, 0), (16, 0), (17, 0), (18, 0), (19, 0), (20, 0), (21, 0), (22, 0), (23, 0), (24, 1), (25, 0), (26, 0), (27, 0), (28, 1), (29, 0), (30, 0), (31, 1), (32, 0), (33, 0), (34, 1), (35, 0), (36, 4), (37, 0), (38, 4)])] (by kernel_rfl) ?_
           refine norm_K fun K hK => ?_
           change wpList _ _ _ [_, _, _, _, _, _, _, _, _, _, _, _, _, _, _, _, _, _, _, _, _, _, _, _, _, _, _, _, _, _, _, _, _, _, _, _, _, _, _] _ _
           have hb21 : Below wz.heap.size wz wz.drew := bwT
           have hrow := hrow.below hb21; have hc4 := kept hb21 hc4; have hc8 := kept hb21 hc8; have hc9 := kept hb21 hc9
           generalize wz.drew = wx3 at *
           have hcb := hrow.hold (i := c) l2
           rw [<- O2.out] at hcb
           have hfb := hrow.free c
           go_wp2_with fail
           refine (num_c (by omega) (by omega)).mono ?_; rintro e w22 ⟨rfl, rfl⟩
           go_wp2_with fail
           first | (refine hK _ _ ⟨rfl, ?_⟩; clear hK K) | refine ⟨rfl, ?_⟩
           have hset := hrow.set (i := c) ((o2 + z) % p)
           rw [E3.out] at hset
           have hbT3 : Below wv.heap.size wv (wx3.setCell ⟨wv.heap.size, c, none⟩ (.int .i64 ((o2 + z) % p))) := bwS (bwC hbT2 hb21) (Nat.le_refl _) _
           go_wp2_with fail
           go_roundw
           case rel => exact ⟨r + 1, by omega, by go_num, hset, hbT3⟩
           case measure => simp [intOf]; omega
          ·have ern : r = n := by omega
           rw [ern] at hrow
           obtain ⟨row, hro⟩ : ∃ row, row = formRow p n F i j k n := ⟨_, rfl⟩
           rw [<- hro] at hrow
           have HF : Hid (foK p n F i j (k + 1) = foK p n F i j k ++ [row]) := Lib.hid (by rw [hro]; exact foK_succ)
           clear hro ern
           have hI2 := hI.below hbr; have hR2 := hR.below hbr
           have hF2 := hrow.fr.more (B' := u.heap.size) hb.size
           have hbU := bwC hb hbr
           have hzz := hbU.size
           clear hI hR hrow hbr
           have hrb : decide ((r : Int) < (n : Int)) = false := by rw [decide_eq_false_iff_not]; omega
           go_wp2_with (at_builtin; refine appr_one rfl _ _ rfl wr u.heap.size wr.heap.size rfl (.slice (some ⟨g, 0, none⟩) us.length cap) us rfl (.slice (some ⟨wv.heap.size, 0, none⟩) L L) 1 rfl rfl hI2 hzz (by omega) ?_; intro g' cap' w' ho' hb' hg' hge)
           have hR3 := (hR2.app hI2 hg').snoc (hF2.app hI2 hg')
           rw [List.append_assoc, <- HF.out] at hR3
           have hbV := hbU.trans hb'
           have hl1 : us.length + 1 = (us ++ [Value.slice (some ⟨wv.heap.size, 0, none⟩) L L]).length := by simp
           have hub : us.length + 1 <= 3000 + 1000 * i + 100 * j + (k + 1) := by omega
           obtain ⟨us', hus⟩ : ∃ x_, x_ = us ++ [Value.slice (some ⟨wv.heap.size, 0, none⟩) L L] := ⟨_, rfl⟩
           rw [<- hus] at hR3 hl1 ho'
           rw [hl1] at hub ho'
           have HL1 := Lib.hid hl1
           clear hl1 hus
           go_roundw
           case rel => exact ⟨k + 1, g', cap', us', by omega, by go_num, by rw [HL1.out], hub, ho', hR3, hbV⟩
           case measure => simp [intOf]; omega
        ·obtain rfl : k = n := by omega
         rw [List.append_assoc, <- foJ_succ] at hR
         go_wp2_with fail
         go_roundw
         case rel => exact ⟨j + 1, g, cap, us, by omega, by go_num, rfl, by omega, hI, hR, hb⟩
         case measure => simp [intOf]; omega
      ·obtain rfl : j = n := by omega
       rw [List.append_assoc, <- foI_succ] at hR
       go_wp2_with fail
       go_roundw
       case rel => exact ⟨i + 1, g, cap, us, by omega, by go_num, rfl, by omega, hI, hR, hb⟩
       case measure => simp [intOf]; omega
    ·have ein : i = n := by omega
     rw [ein] at hR
     have hib : decide ((i : Int) < (n : Int)) = false := by rw [decide_eq_false_iff_not]; omega
     have hre : ReF wr w.heap.size (.slice (some ⟨g, 0, none⟩) us.length cap) (locL p n D F) := by
      have h0 := RowsF.part (C := []) (by rw [List.append_nil]; exact hR) hI
      rw [<- hR.1, HS0.out] at h0
      exact h0.more hbx.size
     go_wp2_with fail
     go_ret
     exact ⟨_, rfl, hre, bwC hbx hb⟩
theorem locrows_c {p : Int} {s : Value} {st : List Int} {w : World} (hd : Dok p st) (hs : El w s st) :
  Calls Tryz.prog 28 #[.agg #[.int .i64 p, s]] w fun e w' => ∃ v, e = .returned v /\ Re w' v (locL p (sz st.length) (fun i => (diagF p st).getD i 0) (cycF p st)) /\ Below w.heap.size w w' := by
 refine (locrowsF_c hd hs).mono ?_
 rintro e w' ⟨v, h1, h2, h3⟩
 exact ⟨v, h1, h2.re, h3⟩
end Go.Proofs.YteaaepbnoiecoaaGreat
