/- Texts joined for a claim: HcU, LinA. -/
import Derived.Test.YtilgbekffbphgaaGreatJaz
import Derived.Test.YtilgbekffbphgaaGreatJba
namespace Go.Proofs.YtilgbekffbphgaaGreat
open Go.RowKit
def leadN : List Int -> Nat
 | [] => 0
 | x :: xs => if x = 0 then leadN xs + 1 else 0
theorem leadN_le : ∀ xs : List Int, leadN xs <= xs.length
 | [] => Nat.le_refl _
 | x :: xs => by
  unfold leadN
  have := leadN_le xs
  split <;> simp <;> omega
theorem drop_lead {xs : List Int} {k : Nat} (h : k < xs.length) : leadN (xs.drop k) = if xs[k] = 0 then leadN (xs.drop (k + 1)) + 1 else 0 := by
 rw [List.drop_eq_getElem_cons h]; rfl
theorem isZ_lead : ∀ xs : List Int, isZ xs = decide (leadN xs = xs.length)
 | [] => rfl
 | x :: xs => by
  have := isZ_lead xs
  unfold isZ at *
  rw [List.all_cons, this]
  show ((x == 0) && decide (leadN xs = xs.length)) = decide ((if x = 0 then leadN xs + 1 else 0) = xs.length + 1)
  by_cases h : x = 0
  ·rw [if_pos h, h]; simp
  ·have hb : (x == 0) = false := by simpa using h
   rw [hb, if_neg h]; simp
theorem lead_c {x : Value} {xs : List Int} {w : World} (hx : Sl w x xs) (hm : xs.length <= 1000000) :
  Calls Tryz.prog 106 #[x] w fun e w' => e = .returned (.int .i64 (leadN xs)) /\ w = w' := by
 obtain ⟨a, c, rfl, rfl | ⟨b, off, rfl, hx⟩⟩ := hx
 ·go_enter Tryz.func106, Tryz.ntmps106
  go_wp2
  refine wp_loop_rounds 1 ?_; rw [rounds_succ]
  go_wp2
  go_ret
  exact ⟨rfl, rfl⟩
 go_enter Tryz.func106, Tryz.ntmps106
 go_wp2
 go_loop [3] (fun i => ∃ k : Nat, k <= xs.length /\ i = .int .i64 k /\ leadN xs = k + leadN (xs.drop k)) (fun i => xs.length - (intOf i).toNat)
 case atStart => exact ⟨0, Nat.zero_le _, rfl, by simp⟩
 case round =>
  obtain ⟨k, hk, rfl, hr⟩ := hrel
  by_cases hlt : k < xs.length
  ·obtain ⟨u, hu, hcx, htx⟩ := hx.get hlt
   have hd := drop_lead hlt
   have hcx2 := hx.get' hlt
   obtain ⟨q, hq⟩ : ∃ q, q = xs[k] := ⟨_, rfl⟩
   rw [<- hq] at hd hcx2
   have HR := Lib.hid hr; have HD := Lib.hid hd
   clear hr hd htx hcx hq hu u
   by_cases h0 : q = 0
   ·subst h0
    go_wp2
    go_round
    case rel => exact ⟨k + 1, by omega, by go_num, by rw [HR.out, HD.out, if_pos rfl]; omega⟩
    case measure => simp [intOf]; omega
   ·have hne : (q == 0) = false := by simpa using h0
    go_wp2
    go_ret
    exact ⟨by rw [HR.out, HD.out, if_neg h0]; rfl, rfl⟩
  ·obtain rfl : k = xs.length := by omega
   rw [List.drop_length] at hr
   have HR := Lib.hid hr; clear hr
   go_wp2
   go_ret
   exact ⟨by rw [HR.out]; rfl, rfl⟩
theorem first_c {x : Value} {xs : List Int} {w : World} (hx : Sl w x xs) (hm : xs.length <= 1000000) :
  Calls Tryz.prog 121 #[x] w fun e w' => e = .returned (.int .i64 (leadN xs)) /\ w = w' := by
 obtain ⟨a, c, rfl, rfl | ⟨b, off, rfl, hx⟩⟩ := hx
 ·go_enter Tryz.func121, Tryz.ntmps121
  go_wp2
  refine wp_loop_rounds 1 ?_; rw [rounds_succ]
  go_wp2
  go_ret
  exact ⟨rfl, rfl⟩
 go_enter Tryz.func121, Tryz.ntmps121
 go_wp2
 go_loop [3] (fun i => ∃ k : Nat, k <= xs.length /\ i = .int .i64 k /\ leadN xs = k + leadN (xs.drop k)) (fun i => xs.length - (intOf i).toNat)
 case atStart => exact ⟨0, Nat.zero_le _, rfl, by simp⟩
 case round =>
  obtain ⟨k, hk, rfl, hr⟩ := hrel
  by_cases hlt : k < xs.length
  ·obtain ⟨u, hu, hcx, htx⟩ := hx.get hlt
   have hd := drop_lead hlt
   have hcx2 := hx.get' hlt
   obtain ⟨q, hq⟩ : ∃ q, q = xs[k] := ⟨_, rfl⟩
   rw [<- hq] at hd hcx2
   have HR := Lib.hid hr; have HD := Lib.hid hd
   clear hr hd htx hcx hq hu u
   by_cases h0 : q = 0
   ·subst h0
    go_wp2
    go_round
    case rel => exact ⟨k + 1, by omega, by go_num, by rw [HR.out, HD.out, if_pos rfl]; omega⟩
    case measure => simp [intOf]; omega
   ·have hne : (q == 0) = false := by simpa using h0
    go_wp2
    go_ret
    exact ⟨by rw [HR.out, HD.out, if_neg h0]; rfl, rfl⟩
  ·obtain rfl : k = xs.length := by omega
   rw [List.drop_length] at hr
   have HR := Lib.hid hr; clear hr
   go_wp2
   go_ret
   exact ⟨by rw [HR.out]; rfl, rfl⟩
theorem iszero_c {x : Value} {xs : List Int} {w : World} (hx : Sl w x xs) (hm : xs.length <= 1000000) :
  Calls Tryz.prog 77 #[x] w fun e w' => e = .returned (.bool (isZ xs)) /\ w = w' := by
 obtain ⟨a, c, rfl, hx'⟩ := id hx
 have hle := leadN_le xs
 have hz := isZ_lead xs
 have hb : ((leadN xs : Int) == (xs.length : Int)) = decide (leadN xs = xs.length) := by
  by_cases h : leadN xs = xs.length
  ·simp [h]
  ·have h2 : ((leadN xs : Int) == (xs.length : Int)) = false := by rw [beq_eq_false_iff_ne]; omega
   rw [h2, decide_eq_false h]
 have HZ := Lib.hid (hz.trans hb.symm); clear hz hb
 go_enter Tryz.func77, Tryz.ntmps77
 go_wp2_with (go_at_call 106; refine (lead_c hx hm).mono ?_; rintro e w1 ⟨rfl, rfl⟩)
 go_ret
 exact ⟨by rw [HZ.out]; rfl, rfl⟩
theorem equal_c {x y : Value} {xs ys : List Int} {w : World} (hx : Sl w x xs) (hy : Sl w y ys) (hm : xs.length <= 1048576) (hm2 : ys.length <= 1048576) :
  Calls Tryz.prog 57 #[x, y] w fun e w' => e = .returned (.bool (decide (xs = ys))) /\ Below w.heap.size w w' := by
 by_cases hl : ys.length = xs.length
 ·rcases two_rows hx hy hl with ⟨rfl, rfl, a, c, a2, c2, rfl, rfl⟩ | ⟨b, off, c, b2, off2, c2, rfl, rfl, hx, hy⟩
  ·go_enter Tryz.func57, Tryz.ntmps57
   go_wp2
   refine wp_loop_rounds 1 ?_; rw [rounds_succ]
   go_wp2
   go_ret
   exact ⟨rfl, Below.refl _ _⟩
  have HL := Lib.hid hl; clear hl hm2
  go_enter Tryz.func57, Tryz.ntmps57
  go_wp2
  go_loopw [13] (fun i wr => ∃ m : Nat, m <= xs.length /\ i = .int .i64 m /\ xs.take m = ys.take m /\ Below w.heap.size w wr)
   (fun i _ => xs.length - (intOf i).toNat)
  case atStart => exact ⟨0, Nat.zero_le _, rfl, rfl, Below.refl _ _⟩
  case round =>
   obtain ⟨m, hm', rfl, heq, hb⟩ := hrel
   by_cases hlt : m < xs.length
   ·obtain ⟨u, hxm, hcx, htx⟩ := (hx.below hb).get hlt
    have hlt2 : m < ys.length := by rw [HL.out]; exact hlt
    obtain ⟨z, hym, hcy, hty⟩ := (hy.below hb).get hlt2
    have H := Lib.hid (And.intro htx (And.intro hty heq)); clear htx hty heq
    by_cases huz : u = z
    ·subst huz
     go_wp2
     refine region_flow [(false, [(0, 0), (1, 0), (2, 0), (3, 1), (4, 0), (5, 0), (6, 0), (7, 1), (8, 0)])] (by kernel_rfl) ?_
     refine norm_K fun K hK => ?_
     change wpList _ _ _ [_, _, _, _, _, _, _, _, _] _ _
     go_wp2
     first | (refine hK _ _ ⟨rfl, ?_⟩; clear hK K) | refine ⟨rfl, ?_⟩
     go_wp2
     go_roundw
     case rel => exact ⟨m + 1, by omega, by go_num, by rw [H.out.1, H.out.2.1, H.out.2.2], hb.drew⟩
     case measure => simp [intOf]; omega
    ·have hd : decide (xs = ys) = false := by
      refine decide_eq_false fun he => huz ?_
      have h1 : xs.take (m + 1) = ys.take (m + 1) := by rw [he]
      rw [H.out.1, H.out.2.1, H.out.2.2] at h1
      have h2 := congrArg List.getLast? (List.append_cancel_left h1)
      simpa using h2
     have hne : (u != z) = true := by simpa using huz
     have HD := Lib.hid hd; clear hd
     go_wp2
     refine region_flow [(false, [(0, 0), (1, 0), (2, 0), (3, 1), (4, 0), (5, 0), (6, 0), (7, 1), (8, 0)])] (by kernel_rfl) ?_
     refine norm_K fun K hK => ?_
     change wpList _ _ _ [_, _, _, _, _, _, _, _, _] _ _
     go_wp2
     first | (refine hK _ _ ⟨rfl, ?_⟩; clear hK K) | refine ⟨rfl, ?_⟩
     go_wp2
     go_ret
     exact ⟨by rw [HD.out]; rfl, hb.drew⟩
   ·obtain rfl : m = xs.length := by omega
    rw [take_all (Nat.le_refl _), take_all (by rw [HL.out]; exact Nat.le_refl _)] at heq
    have hd : decide (xs = ys) = true := decide_eq_true heq
    have HD := Lib.hid hd; clear hd heq
    go_wp2
    go_ret
    exact ⟨by rw [HD.out]; rfl, hb⟩
 ·obtain ⟨a, c, rfl, _⟩ := hx
  obtain ⟨a2, c2, rfl, _⟩ := hy
  have hd : decide (xs = ys) = false := decide_eq_false fun he => hl (by rw [he])
  have hne : ((xs.length : Int) != (ys.length : Int)) = true := by rw [bne_iff_ne]; omega
  have HD := Lib.hid hd; clear hd
  go_enter Tryz.func57, Tryz.ntmps57
  go_wp2
  go_ret
  exact ⟨by rw [HD.out]; rfl, Below.refl _ _⟩
theorem same_c {x y : Value} {xs ys : List Int} {w : World} (hx : Sl w x xs) (hy : Sl w y ys) (hm : xs.length <= 1048576) (hm2 : ys.length <= 1048576) :
  Calls Tryz.prog 66 #[x, y] w fun e w' => e = .returned (.bool (decide (xs = ys))) /\ Below w.heap.size w w' := by
 by_cases hl : ys.length = xs.length
 ·rcases two_rows hx hy hl with ⟨rfl, rfl, a, c, a2, c2, rfl, rfl⟩ | ⟨b, off, c, b2, off2, c2, rfl, rfl, hx, hy⟩
  ·go_enter Tryz.func66, Tryz.ntmps66
   go_wp2
   refine wp_loop_rounds 1 ?_; rw [rounds_succ]
   go_wp2
   go_ret
   exact ⟨rfl, Below.refl _ _⟩
  have HL := Lib.hid hl; clear hl hm2
  go_enter Tryz.func66, Tryz.ntmps66
  go_wp2
  go_loopw [5] (fun i wr => ∃ m : Nat, m <= xs.length /\ i = .int .i64 m /\ xs.take m = ys.take m /\ Below w.heap.size w wr)
   (fun i _ => xs.length - (intOf i).toNat)
  case atStart => exact ⟨0, Nat.zero_le _, rfl, rfl, Below.refl _ _⟩
  case round =>
   obtain ⟨m, hm', rfl, heq, hb⟩ := hrel
   by_cases hlt : m < xs.length
   ·obtain ⟨u, hxm, hcx, htx⟩ := (hx.below hb).get hlt
    have hlt2 : m < ys.length := by rw [HL.out]; exact hlt
    obtain ⟨z, hym, hcy, hty⟩ := (hy.below hb).get hlt2
    have H := Lib.hid (And.intro htx (And.intro hty heq)); clear htx hty heq
    by_cases huz : u = z
    ·subst huz
     go_wp2
     refine region_flow [(false, [(0, 0), (1, 0), (2, 0), (3, 1), (4, 0), (5, 0), (6, 0), (7, 1), (8, 0)])] (by kernel_rfl) ?_
     refine norm_K fun K hK => ?_
     change wpList _ _ _ [_, _, _, _, _, _, _, _, _] _ _
     go_wp2
     first | (refine hK _ _ ⟨rfl, ?_⟩; clear hK K) | refine ⟨rfl, ?_⟩
     go_wp2
     go_roundw
     case rel => exact ⟨m + 1, by omega, by go_num, by rw [H.out.1, H.out.2.1, H.out.2.2], hb.drew⟩
     case measure => simp [intOf]; omega
    ·have hd : decide (xs = ys) = false := by
      refine decide_eq_false fun he => huz ?_
      have h1 : xs.take (m + 1) = ys.take (m + 1) := by rw [he]
      rw [H.out.1, H.out.2.1, H.out.2.2] at h1
      have h2 := congrArg List.getLast? (List.append_cancel_left h1)
      simpa using h2
     have hne : (u != z) = true := by simpa using huz
     have HD := Lib.hid hd; clear hd
     go_wp2
     refine region_flow [(false, [(0, 0), (1, 0), (2, 0), (3, 1), (4, 0), (5, 0), (6, 0), (7, 1), (8, 0)])] (by kernel_rfl) ?_
     refine norm_K fun K hK => ?_
     change wpList _ _ _ [_, _, _, _, _, _, _, _, _] _ _
     go_wp2
     first | (refine hK _ _ ⟨rfl, ?_⟩; clear hK K) | refine ⟨rfl, ?_⟩
     go_wp2
     go_ret
     exact ⟨by rw [HD.out]; rfl, hb.drew⟩
   ·obtain rfl : m = xs.length := by omega
    rw [take_all (Nat.le_refl _), take_all (by rw [HL.out]; exact Nat.le_refl _)] at heq
    have hd : decide (xs = ys) = true := decide_eq_true heq
    have HD := Lib.hid hd; clear hd heq
    go_wp2
    go_ret
    exact ⟨by rw [HD.out]; rfl, hb⟩
 ·obtain ⟨a, c, rfl, _⟩ := hx
  obtain ⟨a2, c2, rfl, _⟩ := hy
  have hd : decide (xs = ys) = false := decide_eq_false fun he => hl (by rw [he])
  have hne : ((xs.length : Int) != (ys.length : Int)) = true := by rw [bne_iff_ne]; omega
  have HD := Lib.hid hd; clear hd
  go_enter Tryz.func66, Tryz.ntmps66
  go_wp2
  go_ret
  exact ⟨by rw [HD.out]; rfl, Below.refl _ _⟩
end Go.Proofs.YtilgbekffbphgaaGreat
namespace Go.Proofs.YtilgbekffbphgaaGreat
def Rw (p : Int) (m : Nat) (rows : List (List Int)) : Prop := ∀ r ∈ rows, Ev p m r
def zeroL (m : Nat) : List Int := List.replicate m 0
def comb (p : Int) (m : Nat) : List Int -> List (List Int) -> List Int
 | c :: cs, r :: rs => plusL p (comb p m cs rs) r c
 | _, _ => zeroL m
def Spn (p : Int) (m : Nat) (rows : List (List Int)) (v : List Int) : Prop := ∃ cs, cs.length = rows.length /\ v = comb p m cs rows
section
variable {p : Int} {m : Nat} {rows rows' rs : List (List Int)} {v w r : List Int}
theorem Rw.cons (h : Rw p m (r :: rs)) : Ev p m r /\ Rw p m rs := ⟨h r (by simp), fun x hx => h x (by simp [hx])⟩
theorem Rw.mk_ (h : Ev p m r) (h2 : Rw p m rs) : Rw p m (r :: rs) := fun x hx => by
 rcases List.mem_cons.1 hx with rfl | hx
 ·exact h
 ·exact h2 x hx
theorem Rw.app (h : Rw p m rows) (h2 : Rw p m rows') : Rw p m (rows ++ rows') := fun x hx => by
 rcases List.mem_append.1 hx with hx | hx
 ·exact h x hx
 ·exact h2 x hx
theorem zero_at {j : Nat} : (zeroL m).getD j 0 = 0 := by
 unfold zeroL
 rw [List.getD_eq_getElem?_getD, List.getElem?_replicate]
 split <;> rfl
theorem zero_len : (zeroL m).length = m := by simp [zeroL]
theorem zeroL_ev (hp : 1 <= p) : Ev p m (zeroL m) := ⟨zero_len, fun x hx => by have := List.eq_of_mem_replicate hx; omega⟩
theorem Ev.at {xs : List Int} {n : Nat} (h : Ev p n xs) (hp : 1 <= p) (j : Nat) : 0 <= xs.getD j 0 /\ xs.getD j 0 < p := by
 rw [List.getD_eq_getElem?_getD]
 cases hx : xs[j]? with
 | none => simp; omega
 | some y => exact h.2 y (List.mem_of_getElem? hx)
theorem Ev.md {xs : List Int} {n : Nat} (h : Ev p n xs) (hp : 1 <= p) (j : Nat) : xs.getD j 0 % p = xs.getD j 0 := Int.emod_eq_of_lt (h.at hp j).1 (h.at hp j).2
theorem pat {k : Int} (h : Ev p m v) (h2 : Ev p m w) (j : Nat) : (plusL p v w k).getD j 0 = (v.getD j 0 + k * w.getD j 0) % p := plus_at (h2.1.trans h.1.symm) j
theorem Ev.ext (h : Ev p m v) (h2 : Ev p m w) (e : ∀ j, v.getD j 0 = w.getD j 0) : v = w := ext_at (h.1.trans h2.1.symm) fun j _ => e j
theorem comb_ev (hp : 1 <= p) : ∀ {cs : List Int} {rows : List (List Int)}, Rw p m rows -> Ev p m (comb p m cs rows)
 | [], _, _ => zeroL_ev hp
 | _ :: _, [], _ => zeroL_ev hp
 | _ :: _, _ :: _, h => (comb_ev hp h.cons.2).plus hp h.cons.1
theorem mm {a b k : Int} : (a % p + k * (b % p)) % p = (a + k * b) % p := by
 rw [Int.add_emod, Int.emod_emod, Int.mul_emod, Int.emod_emod, <- Int.mul_emod, <- Int.add_emod]
theorem plus_zero (hp : 1 <= p) {k : Int} (h : Ev p m v) : plusL p v (zeroL m) k = v :=
 (h.plus hp (zeroL_ev hp)).ext h fun j => by rw [pat h (zeroL_ev hp), zero_at, Int.mul_zero, Int.add_zero, h.md hp]
theorem plus_dvd (hp : 1 <= p) {k : Int} (h : Ev p m v) (h2 : Ev p m w) (hk : k % p = 0) : plusL p v w k = v :=
 (h.plus hp h2).ext h fun j => by
  rw [pat h h2, Int.add_emod, Int.mul_emod, hk, Int.zero_mul, Int.zero_emod, Int.add_zero, Int.emod_emod, h.md hp]
theorem plus_plus (hp : 1 <= p) {a b : Int} (h : Ev p m v) (h2 : Ev p m w) (h3 : Ev p m r) : plusL p (plusL p v w a) r b = plusL p (plusL p v r b) w a :=
  ((h.plus hp h2).plus hp h3).ext ((h.plus hp h3).plus hp h2) fun j => by
    rw [pat (h.plus hp h2) h3, pat h h2, pat (h.plus hp h3) h2, pat h h3, Int.emod_add_emod, Int.emod_add_emod]
    congr 1; omega
theorem plus_assoc (hp : 1 <= p) {a b : Int} (h : Ev p m v) (h2 : Ev p m w) (h3 : Ev p m r) : plusL p v (plusL p w r a) b = plusL p (plusL p v w b) r (b * a) :=
 (h.plus hp (h2.plus hp h3)).ext ((h.plus hp h2).plus hp h3) fun j => by
  rw [pat h (h2.plus hp h3), pat h2 h3, pat (h.plus hp h2) h3, pat h h2, Int.emod_add_emod]
  rw [Int.add_emod, Int.mul_emod, Int.emod_emod, <- Int.mul_emod, <- Int.add_emod]
  congr 1; grind
theorem plus_same (hp : 1 <= p) {a b : Int} (h : Ev p m v) (h2 : Ev p m w) : plusL p (plusL p v w a) w b = plusL p v w (a + b) :=
  ((h.plus hp h2).plus hp h2).ext (h.plus hp h2) fun j => by
    rw [pat (h.plus hp h2) h2, pat h h2, pat h h2, Int.emod_add_emod]
    congr 1; grind
theorem Spn.ev (hp : 1 <= p) (hr : Rw p m rows) (h : Spn p m rows v) : Ev p m v := by
 obtain ⟨cs, _, rfl⟩ := h
 exact comb_ev hp hr
theorem comb_plus (hp : 1 <= p) {k : Int} : ∀ {cs ds : List Int} {rows : List (List Int)}, Rw p m rows -> cs.length = rows.length -> ds.length = rows.length ->
  plusL p (comb p m cs rows) (comb p m ds rows) k = comb p m (List.zipWith (fun a b => a + k * b) cs ds) rows
 | [], [], [], _, _, _ => plus_zero hp (zeroL_ev hp)
 | [], _ :: _, _, _, h1, h2 => absurd (h1.trans h2.symm) (by simp)
 | _ :: _, [], _, _, h1, h2 => absurd (h1.trans h2.symm) (by simp)
 | c :: cs, d :: ds, r :: rs, h, h1, h2 => by
  have ih := comb_plus hp (k := k) (cs := cs) (ds := ds) h.cons.2 (by simpa using h1) (by simpa using h2)
  have e1 := comb_ev hp (cs := cs) h.cons.2
  have e2 := comb_ev hp (cs := ds) h.cons.2
  have e3 := h.cons.1
  show plusL p (plusL p (comb p m cs rs) r c) (plusL p (comb p m ds rs) r d) k = plusL p (comb p m (List.zipWith _ cs ds) rs) r (c + k * d)
  rw [plus_assoc hp (e1.plus hp e3) e2 e3, plus_plus hp e1 e3 e2, ih, plus_same hp (comb_ev hp h.cons.2) e3]
theorem Spn.plus (hp : 1 <= p) (hr : Rw p m rows) {k : Int} (h : Spn p m rows v) (h2 : Spn p m rows w) : Spn p m rows (plusL p v w k) := by
 obtain ⟨cs, hc, rfl⟩ := h
 obtain ⟨ds, hd, rfl⟩ := h2
 exact ⟨_, by simp [hc, hd], comb_plus hp hr hc hd⟩
theorem Spn.zr (hp : 1 <= p) : ∀ {rows : List (List Int)}, Rw p m rows -> Spn p m rows (zeroL m)
 | [], _ => ⟨[], rfl, rfl⟩
 | r :: rs, h => by
  obtain ⟨cs, hc, e⟩ := Spn.zr hp h.cons.2
  exact ⟨0 :: cs, by simp [hc], by show zeroL m = plusL p (comb p m cs rs) r 0; rw [<- e, plus_dvd hp (zeroL_ev hp) h.cons.1 rfl]⟩
theorem Spn.tail (hp : 1 <= p) (hr : Rw p m (r :: rs)) (h : Spn p m rs v) : Spn p m (r :: rs) v := by
 obtain ⟨cs, hc, rfl⟩ := h
 exact ⟨0 :: cs, by simp [hc], (plus_dvd hp (comb_ev hp hr.cons.2) hr.cons.1 rfl).symm⟩
theorem Spn.head (hp : 1 <= p) (hr : Rw p m (r :: rs)) : Spn p m (r :: rs) r := by
 obtain ⟨cs, hc, e⟩ := Spn.zr hp hr.cons.2
 refine ⟨1 :: cs, by simp [hc], ?_⟩
 show r = plusL p (comb p m cs rs) r 1
 rw [<- e]
 refine hr.cons.1.ext ((zeroL_ev hp).plus hp hr.cons.1) fun j => ?_
 rw [pat (zeroL_ev hp) hr.cons.1, zero_at, Int.zero_add, Int.one_mul, hr.cons.1.md hp]
theorem Spn.mem (hp : 1 <= p) : ∀ {rows : List (List Int)}, Rw p m rows -> r ∈ rows -> Spn p m rows r
 | [], _, h => by simp at h
 | x :: xs, hr, h => by
  rcases List.mem_cons.1 h with rfl | h
  ·exact Spn.head hp hr
  ·exact (Spn.mem hp hr.cons.2 h).tail hp hr
theorem Spn.trans (hp : 1 <= p) (hr' : Rw p m rows') : ∀ {rows : List (List Int)} {v : List Int}, (∀ r ∈ rows, Spn p m rows' r) -> Spn p m rows v -> Spn p m rows' v
 | [], v, _, ⟨cs, hc, e⟩ => by
  obtain rfl : cs = [] := by simpa using hc
  rw [e]; exact Spn.zr hp hr'
 | r :: rs, v, h, ⟨cs, hc, e⟩ => by
  match cs, hc, e with
  | c :: cs, hc, e =>
   rw [e]
   exact Spn.plus hp hr' (Spn.trans hp hr' (fun x hx => h x (by simp [hx])) ⟨cs, by simpa using hc, rfl⟩) (h r (by simp))
def SameS (p : Int) (m : Nat) (a b : List (List Int)) : Prop := ∀ v, Spn p m a v ↔ Spn p m b v
theorem SameS.of (hp : 1 <= p) (hr : Rw p m rows) (hr' : Rw p m rows') (h : ∀ r ∈ rows, Spn p m rows' r) (h' : ∀ r ∈ rows', Spn p m rows r) : SameS p m rows rows' :=
 fun _ => ⟨Spn.trans hp hr' h, Spn.trans hp hr h'⟩
theorem SameS.rfl' : SameS p m rows rows := fun _ => Iff.rfl
theorem SameS.tr {a b c : List (List Int)} (h : SameS p m a b) (h2 : SameS p m b c) : SameS p m a c := fun v => (h v).trans (h2 v)
/-! ### Leading places -/
theorem lead_nz : ∀ xs : List Int, leadN xs < xs.length -> xs.getD (leadN xs) 0 ≠ 0
 | [], h => absurd h (by decide)
 | x :: xs, h => by
  by_cases h0 : x = 0
  ·have e : leadN (x :: xs) = leadN xs + 1 := if_pos h0
   rw [e] at h ⊢
   rw [List.getD_cons_succ]
   exact lead_nz xs (by simpa using h)
  ·have e : leadN (x :: xs) = 0 := if_neg h0
   rw [e]
   simpa using h0
theorem lead_low : ∀ {xs : List Int} {c : Nat}, c < leadN xs -> xs.getD c 0 = 0
 | [], c, h => by simp [leadN] at h
 | x :: xs, c, h => by
  unfold leadN at h
  split at h
  ·next e =>
   match c with
   | 0 => simpa using e
   | c + 1 => rw [List.getD_cons_succ]; exact lead_low (by omega)
  ·omega
theorem lead_is {xs : List Int} {c : Nat} (h : xs.getD c 0 ≠ 0) (h2 : ∀ j < c, xs.getD j 0 = 0) : leadN xs = c := by
 rcases Nat.lt_trichotomy (leadN xs) c with h1 | h1 | h1
 ·have hl : c < xs.length := by
   by_cases hc : c < xs.length
   ·exact hc
   ·exact absurd (out_at (by omega)) h
  exact absurd (h2 _ h1) (lead_nz xs (by omega))
 ·exact h1
 ·exact absurd (lead_low h1) h
structure Rref (p : Int) (m : Nat) (rows : List (List Int)) : Prop where
 rw_ : Rw p m rows
 one : ∀ r ∈ rows, leadN r < m /\ r.getD (leadN r) 0 = 1
 pw : rows.Pairwise fun r s => leadN r < leadN s /\ r.getD (leadN s) 0 = 0
theorem Rref.nil : Rref p m [] := ⟨fun _ h => by simp at h, fun _ h => by simp at h, List.Pairwise.nil⟩
theorem Rref.cons (h : Rref p m (r :: rs)) : Rref p m rs := ⟨h.rw_.cons.2, fun x hx => h.one x (by simp [hx]), (List.pairwise_cons.1 h.pw).2⟩
theorem Rref.hd (h : Rref p m (r :: rs)) : ∀ s ∈ rs, leadN r < leadN s /\ r.getD (leadN s) 0 = 0 := (List.pairwise_cons.1 h.pw).1
theorem comb_low (hp : 1 <= p) {c : Nat} : ∀ {cs : List Int} {rows : List (List Int)}, Rw p m rows -> (∀ s ∈ rows, s.getD c 0 = 0) -> (comb p m cs rows).getD c 0 = 0
 | [], _, _, _ => zero_at
 | _ :: _, [], _, _ => zero_at
 | a :: cs, r :: rs, hr, h => by
  show (plusL p (comb p m cs rs) r a).getD c 0 = 0
  rw [pat (comb_ev hp hr.cons.2) hr.cons.1, comb_low hp hr.cons.2 (fun s hs => h s (by simp [hs])), h r (by simp)]; simp
theorem Spn.low (hp : 1 <= p) {c : Nat} (hr : Rw p m rows) (h : ∀ s ∈ rows, s.getD c 0 = 0) (hv : Spn p m rows v) : v.getD c 0 = 0 := by
 obtain ⟨cs, _, rfl⟩ := hv
 exact comb_low hp hr h
theorem Rref.lead (hp : 2 <= p) : ∀ {rows : List (List Int)} {v : List Int}, Rref p m rows -> Spn p m rows v -> leadN v < m -> leadN v ∈ rows.map leadN
 | [], v, _, ⟨cs, hc, e⟩, hl => by
  obtain rfl : cs = [] := by simpa using hc
  have e0 : v = zeroL m := e
  have hne := lead_nz v (by rw [e0, zero_len, <- e0]; exact hl)
  rw [e0, zero_at] at hne
  exact absurd rfl hne
 | r :: rs, v, h, ⟨cs, hc, e⟩, hl => by
  match cs, hc, e with
  | c :: cs, hc, e =>
   have he := comb_ev (p := p) (m := m) (by omega) (cs := cs) h.cons.rw_
   have e0 : v = plusL p (comb p m cs rs) r c := e
   have hlow : ∀ j, j <= leadN r -> (comb p m cs rs).getD j 0 = 0 := fun j hj => comb_low (by omega) h.cons.rw_ fun s hs => lead_low (by have := (h.hd s hs).1; omega)
   by_cases h0 : c % p = 0
   ·have e1 : v = comb p m cs rs := by rw [e0, plus_dvd (by omega) he h.rw_.cons.1 h0]
    exact List.mem_cons_of_mem _ (Rref.lead hp h.cons ⟨cs, by simpa using hc, e1⟩ hl)
   ·have : leadN v = leadN r := by
     refine lead_is ?_ fun j hj => ?_
     ·rw [e0, pat he h.rw_.cons.1, hlow _ (Nat.le_refl _), (h.one r (by simp)).2, Int.zero_add, Int.mul_one]; exact h0
     ·rw [e0, pat he h.rw_.cons.1, hlow _ (by omega), lead_low hj]; simp
    rw [this]
    exact List.mem_cons_self
theorem asc_eq : ∀ {a b : List Nat}, a.Pairwise (· < ·) -> b.Pairwise (· < ·) -> (∀ x, x ∈ a ↔ x ∈ b) -> a = b
 | [], [], _, _, _ => rfl
 | [], y :: ys, _, _, h => by have := (h y).2 (by simp); simp at this
 | x :: xs, [], _, _, h => by have := (h x).1 (by simp); simp at this
 | x :: xs, y :: ys, ha, hb, h => by
  obtain ⟨a1, a2⟩ := List.pairwise_cons.1 ha
  obtain ⟨b1, b2⟩ := List.pairwise_cons.1 hb
  have e : x = y := by
   have h1 := (h x).1 (by simp)
   have h2 := (h y).2 (by simp)
   rcases List.mem_cons.1 h1 with h1 | h1
   ·exact h1
   rcases List.mem_cons.1 h2 with h2 | h2
   ·exact h2.symm
   have := b1 x h1
   have := a1 y h2
   omega
  subst e
  refine congrArg _ (asc_eq a2 b2 fun z => ?_)
  constructor
  ·intro hz
   rcases List.mem_cons.1 ((h z).1 (by simp [hz])) with e | e
   ·have := a1 z hz; omega
   ·exact e
  ·intro hz
   rcases List.mem_cons.1 ((h z).2 (by simp [hz])) with e | e
   ·have := b1 z hz; omega
   ·exact e
theorem Rref.asc (h : Rref p m rows) : (rows.map leadN).Pairwise (· < ·) := by
 rw [List.pairwise_map]
 exact h.pw.imp fun x => x.1
theorem Rref.at (h : Rref p m rows) {i j : Nat} (hi : i < rows.length) (hj : j < rows.length) : rows[i].getD (leadN rows[j]) 0 = if i = j then 1 else 0 := by
 have hp := List.pairwise_iff_getElem.1 h.pw
 rcases Nat.lt_trichotomy i j with h1 | h1 | h1
 ·rw [(hp i j hi hj h1).2, if_neg (by omega)]
 ·subst h1; rw [(h.one _ (List.getElem_mem hi)).2, if_pos rfl]
 ·rw [lead_low (hp j i hj hi h1).1, if_neg (by omega)]
end
end Go.Proofs.YtilgbekffbphgaaGreat
