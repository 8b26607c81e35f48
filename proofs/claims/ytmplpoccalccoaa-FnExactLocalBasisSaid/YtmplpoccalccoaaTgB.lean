/-
  Isometries and forms of a doubling: program and reference, walked.
-/
import Derived.Test.YtmplpoccalccoaaJbl
namespace Go.Proofs.Ytmplpoccalccoaa
open Go.RowKit

theorem sform_c {p : Int} {s : Value} {st : List Int} {b off c i j k n : Nat} {w : World} (hd : Dok p st) (hs : El w s st) (hn : n = sz st.length) (hT : Tb w b off n (basF p st)) (hi : i < n) (hj : j < n) (hk : k < n) :
    Calls Try.prog 92 #[.agg #[.int .i64 p, s], .slice (some ⟨b, off, none⟩) n c, .int .i64 i, .int .i64 j, .int .i64 k] w fun e w' => e = .returned (.int .i64 (formF p st i j k)) ∧ Below w.heap.size w w' := by
  have hp1 := hd.hp.lo; have hp2 := hd.hp.hi; have hl3 := hd.hl; have hsz := sz_le hd
  rw [← hn] at hsz
  have HN := Lib.hid hn; clear hn
  obtain ⟨a0, c0, rfl, _⟩ := id hs.op
  have hbit := xor_bits i (by omega) j (by omega)
  obtain ⟨x, hx_⟩ : ∃ x, x = i ^^^ j := ⟨_, rfl⟩
  rw [← hx_] at hbit
  by_cases hxk : x = k
  · have hF : formF p st i j k = 2 * basF p st i j * basF p st k k % p := by unfold formF; rw [if_pos (by rw [← hx_]; exact hxk)]
    have b1 := basF_fp (p := p) (st := st) (i := i) (j := j) hd
    have b2 := basF_fp (p := p) (st := st) (i := k) (j := k) hd
    obtain ⟨bi, oi, ci, hci, hti⟩ := hT i hi
    have hcj := hti j hj
    obtain ⟨bk, ok, ck, hck, htk⟩ := hT k hk
    have hckk := htk k hk
    rw [hF]
    obtain ⟨y, hy⟩ : ∃ y, y = basF p st i j := ⟨_, rfl⟩
    obtain ⟨z, hz⟩ : ∃ z, z = basF p st k k := ⟨_, rfl⟩
    rw [← hy] at hcj b1 ⊢; rw [← hz] at hckk b2 ⊢
    have m1 := mulb (k := 2 * y) (y := z) (A := 26) (B := 13) (by omega) (by omega) (by omega) (by omega)
    clear hF hx_ hy hz hti htk hT
    subst hxk
    have hne : ((x : Int) != (x : Int)) = false := by simp
    go_enter Try.func92, Try.ntmps92
    have hb0 : Below w.heap.size w (w.alloc (.cells #[.int .i64 p, .slice a0 st.length c0] 32)) := (by repeat (first | exact Below.refl _ _ | apply blw_drew | apply blw_alloc | (refine blw_set ?_ (by first | omega | (simp; done) | (simp; omega)) _) | refine below_chain ?_ (by assumption)))
    have hs := hs.below hb0; have hci := kept hb0 hci; have hcj := kept hb0 hcj; have hck := kept hb0 hck; have hckk := kept hb0 hckk
    have d0 : (w.alloc (.cells #[.int .i64 p, .slice a0 st.length c0] 32)).cell? ⟨w.heap.size, 0, none⟩ = some (.int .i64 p) := by simp [go_sem]
    have d1 : (w.alloc (.cells #[.int .i64 p, .slice a0 st.length c0] 32)).cell? ⟨w.heap.size, 1, none⟩ = some (.slice a0 st.length c0) := by simp [go_sem]
    go_wp2_with fail
    refine region_flow [(false, [(0, 0), (1, 1), (2, 0), (3, 0), (4, 0), (5, 1), (6, 0), (7, 0), (8, 1), (9, 0), (10, 0), (11, 0), (12, 0), (13, 1), (14, 0), (15, 0), (16, 1), (17, 0), (18, 4), (19, 0)])] (by kernel_rfl) ?_
    refine norm_K fun K hK => ?_
    change wpList _ _ _ [_, _, _, _, _, _, _, _, _, _, _, _, _, _, _, _, _, _, _, _] _ _
    have hb1 : Below (w.alloc (.cells #[.int .i64 p, .slice a0 st.length c0] 32)).heap.size (w.alloc (.cells #[.int .i64 p, .slice a0 st.length c0] 32)) (w.alloc (.cells #[.int .i64 p, .slice a0 st.length c0] 32)).drew := (by repeat (first | exact Below.refl _ _ | apply blw_drew | apply blw_alloc | (refine blw_set ?_ (by first | omega | (simp; done) | (simp; omega)) _) | refine below_chain ?_ (by assumption)))
    have hs := hs.below hb1; have hci := kept hb1 hci; have hcj := kept hb1 hcj; have hck := kept hb1 hck; have hckk := kept hb1 hckk; have d0 := kept hb1 d0; have d1 := kept hb1 d1
    generalize (w.alloc (.cells #[.int .i64 p, .slice a0 st.length c0] 32)).drew = wq at *
    go_wp2_with fail
    refine (smod_c (by omega) (by omega)).mono ?_; rintro e w2 ⟨rfl, rfl⟩
    go_wp2_with fail
    first | (refine hK _ _ ⟨rfl, ?_⟩; clear hK K) | refine ⟨rfl, ?_⟩
    go_wp2_with fail
    go_ret
    exact ⟨rfl, (by repeat (first | exact Below.refl _ _ | apply blw_drew | apply blw_alloc | (refine blw_set ?_ (by first | omega | (simp; done) | (simp; omega)) _) | refine below_chain ?_ (by assumption)))⟩
  · have hF : formF p st i j k = 0 := by unfold formF; rw [if_neg (by rw [← hx_]; exact hxk)]
    rw [hF]
    clear hF hx_ hT
    have hne : ((x : Int) != (k : Int)) = true := by rw [bne_iff_ne]; omega
    go_enter Try.func92, Try.ntmps92
    go_wp2_with fail
    go_ret
    exact ⟨rfl, (by repeat (first | exact Below.refl _ _ | apply blw_drew | apply blw_alloc | (refine blw_set ?_ (by first | omega | (simp; done) | (simp; omega)) _) | refine below_chain ?_ (by assumption)))⟩
end Go.Proofs.Ytmplpoccalccoaa
