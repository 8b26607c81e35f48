/-
  All vectors of a space, one after the other, with a count of those on a sphere.
-/
import Derived.Test.YtklnpikkkekonaaRest
import Derived.Test.YtklnpikkkekonaaDigit
namespace Go.Proofs.Ytklnpikkkekonaa
open Go.RowKit

theorem gb_trans {a w w' : World} {row : Option Nat} (h : a.grownBy w row) (k : w.grownBy w' row) : a.grownBy w' row :=
  ⟨k.os.trans h.os, k.tape.trans h.tape, k.output.trans h.output, Nat.le_trans h.size k.size, fun i hi hr => (k.block i (Nat.lt_of_lt_of_le hi h.size) hr).trans (h.block i hi hr)⟩
theorem gb_below {w w' : World} {row : Option Nat} (hb : Below w.heap.size w w') : w.grownBy w' row := ⟨hb.os, hb.tape, hb.output, hb.size, fun i hi _ => hb.block i hi⟩
theorem gb_set (w : World) (b i : Nat) (v : Value) : w.grownBy (w.setCell ⟨b, i, none⟩ v) (some b) :=
  ⟨rfl, rfl, rfl, by simp [World.setCell], fun j hj hne => Below.heap_setCell _ _ _ _ (fun e => hne (by rw [e]))⟩
theorem gb_far {a w : World} {row : Option Nat} (h : a.grownBy w row) {b : Nat} (hb : a.heap.size ≤ b) (i : Nat) (v : Value) : a.grownBy (w.setCell ⟨b, i, none⟩ v) row :=
  ⟨h.os, h.tape, h.output, by have := h.size; simpa [World.setCell] using this, fun j hj hne => by
    rw [← h.block j hj hne]
    exact Below.heap_setCell _ _ _ _ (fun e => by simp at e; omega)⟩
def onN (p : Int) (sq x v : List Int) : Nat := if onL p sq x v = true then 1 else 0
theorem cnt1_c {p0 k : Int} {xv u : Value} {x0 : Value} {sq0 xs1 vs : List Int} {qs qx qm : Nat} {w : World} (hs : isSp p0 sq0 = true) (hn : ¬ 4 < sq0.length) (hv : isV p0 (extL p0 sq0) xs1 = true) (hv2 : isV p0 sq0 vs = true)
    (hx0 : Sl w x0 sq0) (hx1 : Sl w xv xs1) (hx2 : Sl w u vs) (d0 : w.cell? ⟨qs, 0, none⟩ = some (.int .i64 p0)) (d1 : w.cell? ⟨qs, 1, none⟩ = some x0) (dx : w.cell? ⟨qx, 0, none⟩ = some xv) (dm : w.cell? ⟨qm, 0, none⟩ = some (.int .i64 k))
    (fm : w.frozen? ⟨qm, 0, none⟩ = false) (hk0 : 0 ≤ k) (hk : k ≤ 1000000) :
    Calls Try.prog 18 #[u, .pointer (some ⟨qs, 0, none⟩), .pointer (some ⟨qx, 0, none⟩), .pointer (some ⟨qm, 0, none⟩)] w fun e w' => e = .returned (.bool false) ∧ w'.cell? ⟨qm, 0, none⟩ = some (.int .i64 (k + onN p0 sq0 xs1 vs)) ∧ w'.frozen? ⟨qm, 0, none⟩ = false ∧ w.grownBy w' (some qm) := by
  obtain ⟨a0, c0, rfl, _⟩ := id hx0
  obtain ⟨a1, c1, rfl, _⟩ := id hx1
  have hlt := World.block_lt_of_cell? w _ dm
  have hcon := ison_c hs hn hx0 hx1 hx2 hv hv2
  unfold onN
  cases hon : onL p0 sq0 xs1 vs
  · rw [hon] at hcon
    go_enter Try.func18, Try.ntmps18
    go_wp2_with fail
    refine hcon.mono ?_; rintro e w1 ⟨rfl, hb1⟩
    have dm := kept hb1 dm
    go_wp2_with fail
    go_ret
    exact ⟨rfl, by simpa using dm, keptF hb1 hlt fm, gb_below hb1⟩
  · rw [hon] at hcon
    go_enter Try.func18, Try.ntmps18
    go_wp2_with fail
    refine hcon.mono ?_; rintro e w1 ⟨rfl, hb1⟩
    have dm := kept hb1 dm
    have fm := keptF hb1 hlt fm
    go_wp2_with fail
    go_ret
    exact ⟨rfl, by simp [go_sem, dm], by simp [go_sem, fm], gb_trans (gb_below hb1) (gb_set _ _ _ _)⟩
/-- The number that digits stand for. -/
def valL (p : Nat) : List Int → Nat
  | [] => 0
  | a :: v => a.toNat + p * valL p v
theorem valL_dig {p : Nat} (hp : 0 < p) : ∀ n m, m < p ^ n → valL p (digL p n m) = m
  | 0, m, h => by simp at h; simp [digL, valL, h]
  | n + 1, m, h => by
    have h2 : m / p < p ^ n := by rw [Nat.div_lt_iff_lt_mul hp, ← Nat.pow_succ]; exact h
    simp only [digL, valL, valL_dig hp n _ h2, Int.toNat_natCast]
    exact Nat.mod_add_div m p
/-- What a row of cells reads as. -/
def readW (w : World) (g n : Nat) : List Int := (List.range n).map fun j => intOf ((w.cell? ⟨g, j, none⟩).getD undef)
theorem OwnI.read {w : World} {B g n cap : Nat} {xs : List Int} (h : OwnI w B g n cap xs) : readW w g n = xs := by
  obtain rfl := h.len
  refine List.ext_getElem (by simp [readW]) fun j h1 h2 => ?_
  have := h.at j h2
  rw [Nat.zero_add] at this
  simp [readW, this, intOf, h2]
theorem rev_set {α : Type} {l1 l2 : List α} {a b : α} : ((l1 ++ a :: l2).reverse).set l2.length b = (l1 ++ b :: l2).reverse := by
  simp only [List.reverse_append, List.reverse_cons, List.append_assoc, List.singleton_append]
  rw [List.set_append_right _ _ (by simp)]
  simp
theorem rev_get {l1 l2 : List Int} {a : Int} : ((l1 ++ a :: l2).reverse).getD l2.length 0 = a := by
  simp only [List.reverse_append, List.reverse_cons, List.append_assoc, List.singleton_append]
  rw [List.getD_eq_getElem?_getD, List.getElem?_append_right (by simp)]
  simp
theorem digL_fp {p : Nat} (hp : 0 < p) : ∀ n m, Fp p (digL p n m)
  | 0, _ => fun x hx => by simp [digL] at hx
  | n + 1, m => fun x hx => by
    simp only [digL, List.mem_cons] at hx
    rcases hx with rfl | hx
    · have := Nat.mod_lt m hp; omega
    · exact digL_fp hp n _ x hx
theorem Fp.rev {p : Int} {xs : List Int} (h : Fp p xs) : Fp p xs.reverse := fun x hx => h x (by simpa using hx)
theorem carry_step {p n c q m : Nat} (hp : 0 < p) (hc : c < n) (hm : m + 1 = (q + 1) * p ^ c) (h : q % p + 1 = p) :
    m + 1 = (q / p + 1) * p ^ (c + 1) := by
  have e := Nat.div_add_mod q p
  have e2 : q + 1 = p * (q / p + 1) := by rw [Nat.mul_add]; omega
  rw [hm, e2, Nat.pow_succ, Nat.mul_comm p (q / p + 1), Nat.mul_assoc, Nat.mul_comm p]
theorem carry_last {p n c q m : Nat} (hp : 1 < p) (hc : c < n) (hq : q < p ^ (n - c)) (hm : m + 1 = (q + 1) * p ^ c) (h : q % p + 1 < p) : m + 1 < p ^ n := by
  have h1 : q + 1 < p ^ (n - c) := by
    refine Nat.lt_of_le_of_ne hq fun e => ?_
    have h2 : (q + 1) % p = 0 := by
      rw [e, show n - c = (n - c - 1) + 1 by omega, Nat.pow_succ]; exact Nat.mul_mod_left _ _
    rw [Nat.add_mod, Nat.mod_eq_of_lt hp, Nat.mod_eq_of_lt h] at h2
    omega
  rw [hm, show n = (n - c) + c by omega, Nat.pow_add]
  exact Nat.mul_lt_mul_of_pos_right h1 (Nat.pow_pos (by omega))
theorem sumR_le {g : Nat → Nat} (h : ∀ i, g i ≤ 1) : ∀ k, sumR k g ≤ k
  | 0 => Nat.le_refl _
  | k + 1 => by have := sumR_le h k; have := h k; simp only [sumR]; omega
theorem pow_bd {p n : Nat} (hp : p ≤ 13) (hn : n ≤ 4) : p ^ n ≤ 28561 := by
  refine Nat.le_trans (Nat.pow_le_pow_left hp n) (Nat.le_trans (Nat.pow_le_pow_right (by decide) hn) (by decide))
/-- The program's walk over all vectors, with the counting closure. -/
theorem vecs_c {pn : Nat} {k : Int} {xv x0 : Value} {sq0 xs1 : List Int} {qs qx qm : Nat} {W0 w : World} (hs : isSp pn sq0 = true) (hn : ¬ 4 < sq0.length) (hv : isV pn (extL pn sq0) xs1 = true)
    (hx0 : Sl W0 x0 sq0) (hx1 : Sl W0 xv xs1) (d0 : W0.cell? ⟨qs, 0, none⟩ = some (.int .i64 pn)) (d1 : W0.cell? ⟨qs, 1, none⟩ = some x0) (dx : W0.cell? ⟨qx, 0, none⟩ = some xv)
    (hb : Below W0.heap.size W0 w) (hq : W0.heap.size ≤ qm) (dm : w.cell? ⟨qm, 0, none⟩ = some (.int .i64 0)) (fm : w.frozen? ⟨qm, 0, none⟩ = false) :
    Calls Try.prog 17 #[.agg #[.int .i64 pn, x0], .func (Fn.func 18) #[] #[.pointer (some ⟨qs, 0, none⟩), .pointer (some ⟨qx, 0, none⟩), .pointer (some ⟨qm, 0, none⟩)]] w fun e w' =>
      e = .returned (.bool false) ∧ w'.cell? ⟨qm, 0, none⟩ = some (.int .i64 (sumD pn sq0.length fun v => onN pn sq0 xs1 v.reverse)) ∧ w.grownBy w' (some qm) := by
  obtain ⟨hp, n1, n2, hf⟩ := isSp_iff.1 hs
  have hp1 := hp.lo
  have hp2 := hp.hi
  obtain ⟨a0, c0, rfl, _⟩ := id hx0
  have hlm := World.block_lt_of_cell? w _ dm
  have hmk := fun W => run_make_row' (P := Try.prog) 24 2 (.int .i64 0) 8 Try.underlying24 infoI rfl .i64 .i64 sq0.length (by omega) (by omega) W
  obtain ⟨f, hfe⟩ : ∃ f : Nat → Nat, f = fun j => onN pn sq0 xs1 (digL pn sq0.length j).reverse := ⟨_, rfl⟩
  have hf1 : ∀ i, f i ≤ 1 := fun i => by rw [hfe]; simp only [onN]; split <;> omega
  have hsum : sumD pn sq0.length (fun v => onN pn sq0 xs1 v.reverse) = sumR (pn ^ sq0.length) f := by rw [hfe]; rfl
  rw [hsum]
  have HF := Lib.hid hfe; clear hfe hsum
  go_enter Try.func17, Try.ntmps17
  go_wp2_with (go_at_call 23; refine dim_c.mono ?_; rintro e w1 ⟨rfl, hb1⟩)
  have hg : W0.heap.size ≤ w1.heap.size := by have h1 := hb.size; have h2 := hb1.size; simp at h2; omega
  have hqg : qm < w1.heap.size := by have h2 := hb1.size; simp at h2; omega
  have hwg : w.heap.size < w1.heap.size := by have h2 := hb1.size; simp at h2; omega
  have hnew := made_own (W := w1) (n := sq0.length) (by omega)
  have hp0 : 0 < pn := by omega
  have hpw := pow_bd (p := pn) (n := sq0.length) (by omega) (by omega)
  have hpp : 0 < pn ^ sq0.length := Nat.pow_pos hp0
  go_loopw [] (fun wr => ∃ m : Nat, m < pn ^ sq0.length ∧ OwnI wr w1.heap.size w1.heap.size sq0.length sq0.length (digL pn sq0.length m).reverse ∧ wr.cell? ⟨qm, 0, none⟩ = some (.int .i64 (sumR m f)) ∧ wr.frozen? ⟨qm, 0, none⟩ = false ∧
      wr.cell? ⟨w.heap.size, 0, none⟩ = some (.int .i64 pn) ∧ wr.cell? ⟨w.heap.size, 1, none⟩ = some (.slice a0 sq0.length c0) ∧ Below W0.heap.size W0 wr ∧ w.grownBy wr (some qm) ∧ w1.heap.size < wr.heap.size)
    (fun wr => pn ^ sq0.length - valL pn (readW wr w1.heap.size sq0.length).reverse)
  case atStart =>
    have hW : Below w.heap.size w (w1.alloc (.cells (madeCells #[Value.int .i64 0] sq0.length) 2)) := (by repeat (first | exact Below.refl _ _ | apply blw_drew | apply blw_alloc | (refine blw_set ?_ (by first | omega | (simp; done) | (simp; omega)) _) | refine below_chain ?_ (by assumption)))
    have hW1 : Below w1.heap.size w1 (w1.alloc (.cells (madeCells #[Value.int .i64 0] sq0.length) 2)) := (by repeat (first | exact Below.refl _ _ | apply blw_drew | apply blw_alloc | (refine blw_set ?_ (by first | omega | (simp; done) | (simp; omega)) _) | refine below_chain ?_ (by assumption)))
    obtain ⟨b0, b1⟩ := boxed hb1
    exact ⟨0, hpp, by rw [digL_zero, List.reverse_replicate]; exact hnew, kept hW dm, keptF hW hlm fm, kept hW1 b0, kept hW1 b1, below_chain hb hW, gb_below hW, by simp⟩
  case round =>
    obtain ⟨m, hm, hown, hcm, hfm, e0, e1, hbr, hgr, hszr⟩ := hrel
    have hrd := Lib.hid hown.read
    have hv2 : isV pn sq0 (digL pn sq0.length m).reverse = true := isV_iff.2 ⟨by rw [List.length_reverse, digL_len], (digL_fp hp0 _ _).rev⟩
    have hsb := sumR_le hf1 m
    have X0 := hx0.below hbr
    have X1 := hx1.below hbr
    have k0 := kept hbr d0
    have k1 := kept hbr d1
    have kx := kept hbr dx
    have hc := cnt1_c hs hn hv hv2 X0 X1 hown.sl k0 k1 kx hcm hfm (by omega) (by omega)
    rw [show (onN pn sq0 xs1 (digL pn sq0.length m).reverse : Int) = f m by rw [HF.out]] at hc
    go_wp2_with (go_at_call 18; refine hc.mono ?_; rintro e w2 ⟨rfl, hcm2, hfm2, hg2⟩)
    have hown := hown.grown hg2 (fun e => by have := Option.some.inj e; omega)
    have e0 := farc hg2 e0 (fun e => by have := Option.some.inj e; omega)
    have e1 := farc hg2 e1 (fun e => by have := Option.some.inj e; omega)
    have hbr := blw_grown hbr hg2 hq
    have hgr := gb_trans hgr hg2
    have hsz2 := hg2.size
    have hsf : (sumR m f : Int) + f m = sumR (m + 1) f := rfl
    rw [hsf] at hcm2
    clear hsf hc X0 X1 k0 k1 kx hcm hfm
    go_loopw [6] (fun i wx => ∃ c q : Nat, c ≤ sq0.length ∧ i = .int .i64 ((sq0.length : Int) - 1 - c) ∧ m + 1 = (q + 1) * pn ^ c ∧ q < pn ^ (sq0.length - c) ∧ OwnI wx w1.heap.size w1.heap.size sq0.length sq0.length (List.replicate c 0 ++ digL pn (sq0.length - c) q).reverse ∧
        wx.cell? ⟨qm, 0, none⟩ = some (.int .i64 (sumR (m + 1) f)) ∧ wx.frozen? ⟨qm, 0, none⟩ = false ∧ wx.cell? ⟨w.heap.size, 0, none⟩ = some (.int .i64 pn) ∧ wx.cell? ⟨w.heap.size, 1, none⟩ = some (.slice a0 sq0.length c0) ∧ Below W0.heap.size W0 wx ∧ w.grownBy wx (some qm) ∧ w1.heap.size < wx.heap.size)
      (fun i _ => (intOf i + 1).toNat)
    case atStart => exact ⟨0, m, Nat.zero_le _, by simp, by simp, by simpa using hm, by simpa using hown, hcm2, hfm2, e0, e1, hbr, hgr, by omega⟩
    case round =>
      obtain ⟨c, q, hc, rfl, hmc, hqc, hown, hcm, hfm, e0, e1, hbr, hgr, hszr⟩ := hrel
      by_cases hlt : c < sq0.length
      · obtain ⟨r, hr⟩ : ∃ r, sq0.length = c + (r + 1) := ⟨sq0.length - c - 1, by omega⟩
        have hdig : digL pn (sq0.length - c) q = ((q % pn : Nat) : Int) :: digL pn r (q / pn) := by rw [show sq0.length - c = r + 1 by omega]; rfl
        rw [hdig] at hown
        have hdl : (digL pn r (q / pn)).length = r := digL_len _ _
        have hat := hown.at r (by rw [hown.len]; omega)
        have hgt := rev_get (l1 := List.replicate c 0) (l2 := digL pn r (q / pn)) (a := ((q % pn : Nat) : Int))
        rw [hdl] at hgt
        rw [Nat.zero_add, hgt] at hat
        have hbd : Below wr.heap.size wr wr.drew := (by repeat (first | exact Below.refl _ _ | apply blw_drew | apply blw_alloc | (refine blw_set ?_ (by first | omega | (simp; done) | (simp; omega)) _) | refine below_chain ?_ (by assumption)))
        have hat := kept hbd hat
        have e0 := kept hbd e0; have e1 := kept hbd e1; have hcm := kept hbd hcm; have hown := hown.below hbd
        have hset := fun b => hown.set (i := r) b
        have hrs := fun b => rev_set (l1 := List.replicate c (0 : Int)) (l2 := digL pn r (q / pn)) (a := ((q % pn : Nat) : Int)) (b := b)
        simp only [hdl] at hrs
        simp only [hrs] at hset
        have hfree := hown.free r
        have hidx : ((sq0.length : Int) - 1 - c) = r := by omega
        rw [hidx]
        have hqm := Nat.mod_lt q hp0
        have hr0 : r < sq0.length := by omega
        have H := Lib.hid (And.intro hr (And.intro hdig (And.intro hgt hidx))); clear hr hdig hgt hidx hrs hdl
        by_cases heq : q % pn + 1 = pn
        · have hb1' : (((q % pn : Nat) : Int) == (pn : Int) - 1) = true := by rw [beq_iff_eq]; omega
          go_wp2
          refine region_flow [(false, [(0, 0), (1, 0), (2, 0), (3, 0), (4, 0), (5, 0), (6, 1), (7, 0), (8, 1), (9, 0), (10, 0), (11, 0)])] (by kernel_rfl) ?_
          refine norm_K fun K hK => ?_
          change wpList _ _ _ [_, _, _, _, _, _, _, _, _, _, _, _] _ _
          go_wp2_with fail
          first | (refine hK _ _ ⟨rfl, ?_⟩; clear hK K) | refine ⟨rfl, ?_⟩
          go_wp2
          go_roundw
          case rel =>
            have e2 : sq0.length - (c + 1) = r := by have := H.out.1; omega
            have e3 : List.replicate (c + 1) (0 : Int) ++ digL pn r (q / pn) = List.replicate c 0 ++ 0 :: digL pn r (q / pn) := by
              rw [List.replicate_succ', List.append_assoc]; rfl
            refine ⟨c + 1, q / pn, by omega, by go_num, carry_step hp0 hlt hmc heq, ?_, ?_, ?_, ?_, ?_, ?_, ?_, ?_, ?_⟩
            · rw [show sq0.length - c = r + 1 by have := H.out.1; omega, Nat.pow_succ] at hqc
              rw [e2, Nat.div_lt_iff_lt_mul hp0]; exact hqc
            · rw [e2, e3]; exact hset 0
            · exact farc (gb_set _ _ _ _) hcm (fun e => by have := Option.some.inj e; omega)
            · simp [go_sem, hfm]
            · exact farc (gb_set _ _ _ _) e0 (fun e => by have := Option.some.inj e; omega)
            · exact farc (gb_set _ _ _ _) e1 (fun e => by have := Option.some.inj e; omega)
            · exact blw_set hbr.drew (by show W0.heap.size ≤ w1.heap.size; omega) _
            · exact gb_far (gb_trans hgr (gb_below hbd)) (by omega) _ _
            · simpa using hszr
          case measure => simp [intOf] <;> omega
        · have hb2' : (((q % pn : Nat) : Int) == (pn : Int) - 1) = false := by rw [beq_eq_false_iff_ne]; omega
          go_wp2
          refine region_flow [(false, [(0, 0), (1, 0), (2, 0), (3, 0), (4, 0), (5, 0), (6, 1), (7, 0), (8, 1), (9, 0), (10, 0), (11, 0)])] (by kernel_rfl) ?_
          refine norm_K fun K hK => ?_
          change wpList _ _ _ [_, _, _, _, _, _, _, _, _, _, _, _] _ _
          go_wp2_with fail
          first | (refine hK _ _ ⟨rfl, ?_⟩; clear hK K) | refine ⟨rfl, ?_⟩
          go_wp2
          go_roundw
          case rel =>
            have hdg : digL pn sq0.length (m + 1) = List.replicate c 0 ++ (((q % pn : Nat) : Int) + 1) :: digL pn r (q / pn) := by
              rw [hmc, H.out.1, digL_carry hp0, digL_next hp0 (by omega)]
            refine ⟨m + 1, carry_last (by omega) hlt hqc hmc (by omega), ?_, ?_, ?_, ?_, ?_, ?_, ?_, ?_⟩
            · rw [hdg]; exact hset _
            · exact farc (gb_set _ _ _ _) hcm (fun e => by have := Option.some.inj e; omega)
            · simp [go_sem, hfm]
            · exact farc (gb_set _ _ _ _) e0 (fun e => by have := Option.some.inj e; omega)
            · exact farc (gb_set _ _ _ _) e1 (fun e => by have := Option.some.inj e; omega)
            · exact blw_set hbr.drew (by show W0.heap.size ≤ w1.heap.size; omega) _
            · exact gb_far (gb_trans hgr (gb_below hbd)) (by omega) _ _
            · simpa using hszr
          case measure =>
            have hdg : digL pn sq0.length (m + 1) = List.replicate c 0 ++ (((q % pn : Nat) : Int) + 1) :: digL pn r (q / pn) := by
              rw [hmc, H.out.1, digL_carry hp0, digL_next hp0 (by omega)]
            have hl := carry_last (by omega) hlt hqc hmc (by omega)
            have hn2 := hset (((q % pn : Nat) : Int) + 1)
            rw [← hdg] at hn2
            have hn3 := hn2.read
            rw [Int.natCast_emod] at hn3
            have hn4 : readW (wr.setCell ⟨w1.heap.size, r, none⟩ (.int .i64 ((q : Int) % pn + 1))).drew w1.heap.size sq0.length = _ := hn3
            rw [hn4, hrd.out, List.reverse_reverse, List.reverse_reverse, valL_dig hp0 _ _ hl, valL_dig hp0 _ _ hm]
            omega
      · obtain rfl : c = sq0.length := by omega
        have hq0 : q = 0 := by rw [Nat.sub_self] at hqc; simpa using hqc
        have hmp : m + 1 = pn ^ sq0.length := by rw [hmc, hq0]; simp
        rw [hmp] at hcm
        have hi : ((sq0.length : Int) - 1 - sq0.length) = -1 := by omega
        rw [hi]
        clear hmc hqc hq0 hi
        have H := Lib.hid hmp; clear hmp
        have hbd : Below wr.heap.size wr wr.drew := (by repeat (first | exact Below.refl _ _ | apply blw_drew | apply blw_alloc | (refine blw_set ?_ (by first | omega | (simp; done) | (simp; omega)) _) | refine below_chain ?_ (by assumption)))
        go_wp2
        refine region_flow [(false, [(0, 0), (1, 0), (2, 0), (3, 0), (4, 0), (5, 0), (6, 1), (7, 0), (8, 1), (9, 0), (10, 0), (11, 0)])] (by kernel_rfl) ?_
        refine norm_K fun K hK => ?_
        change wpList _ _ _ [_, _, _, _, _, _, _, _, _, _, _, _] _ _
        go_wp2_with fail
        first | (refine hK _ _ ⟨rfl, ?_⟩; clear hK K) | refine ⟨rfl, ?_⟩
        go_wp2
        go_ret
        exact ⟨rfl, kept hbd hcm, gb_trans hgr (gb_below hbd)⟩
end Go.Proofs.Ytklnpikkkekonaa
