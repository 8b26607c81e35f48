/- Texts joined for a claim: HdD, Idem, JorC, PnA. -/
import Derived.Test.YtgcelfnjijhmkaaGreatHdA
import Derived.Test.YtgcelfnjijhmkaaGreatJbi
import Derived.Test.YtgcelfnjijhmkaaGreatJbl
/-
  Peirce parts and primitive idempotents: plain functions; lists of three matrices.
-/
namespace Go.Proofs.YtgcelfnjijhmkaaGreat
open Go.RowKit

def primH (p : Int) (st : List Int) (E : Her) : Bool := idemH p st E && (decide (rankH p st E = 1) && decide (traceH p E = 1))
section
variable {p : Int} {st : List Int} {E X Y Z : Her}
end
end Go.Proofs.YtgcelfnjijhmkaaGreat
/-
  A matrix that is a point with a trace other than 0 is a multiple of a primitive idempotent, and of no other matrix is this so.
-/
namespace Go.Proofs.YtgcelfnjijhmkaaGreat

theorem rankH_one {p : Int} {st : List Int} {X : Her} : rankH p st X = 1 ↔ ¬ isZ (numsH X) = true ∧ isZ (numsH (adjH p st X)) = true := by
  unfold rankH
  split
  · rename_i h; constructor
    · intro h2; exact absurd h2 (by decide)
    · intro h2; exact absurd h h2.1
  · rename_i h
    split
    · rename_i h2; exact ⟨fun _ => ⟨h, h2⟩, fun _ => rfl⟩
    · rename_i h2
      constructor
      · intro h3; split at h3 <;> exact absurd h3 (by decide)
      · intro h3; exact absurd h3.2 h2
theorem idem_prim {p : Int} {st : List Int} {X : Her} (hd : Dok p st) (hX : isH p (sz st.length) X = true) (ht : traceH p X ≠ 0) :
    primH p st (multH p X (invL p (traceH p X))) = true ↔ rankH p st X = 1 := by
  have hp1 := hd.hp.lo
  have hsz := (sz_le hd).2
  obtain ⟨n, hn⟩ : ∃ n : Nat, p = n := ⟨p.toNat, by omega⟩
  haveI : NeZero n := ⟨by omega⟩
  have hT : 0 ≤ traceH p X ∧ traceH p X < p := by unfold traceH; exact mod_fp2 (by omega)
  obtain ⟨t, htt⟩ : ∃ t, t = traceH p X := ⟨_, rfl⟩
  rw [← htt] at ht hT ⊢
  obtain ⟨i1, i2, _⟩ := inv_tab hd.hp (a := t) (by omega) hT.2
  obtain ⟨m, hm⟩ : ∃ m, m = invL p t := ⟨_, rfl⟩
  rw [← hm] at i1 i2 ⊢
  have hmm : toF n t * toF n m = 1 := by
    rw [← toF_mul, ← toF_mod, ← hn, i2, toF_one]
  have hE := multH_is (p := p) (k := m) (by omega) hX
  have hAX := adjH_is (p := p) (by omega) hX
  have hAE := adjH_is (p := p) (by omega) hE
  have eE := toH_mult (n := n) (k := m) hn hX
  have eAX := toH_adj (n := n) hn (by omega) hd.hl hX
  have eAE := toH_adj (n := n) hn (by omega) hd.hl hE
  have zX := isZ_nums (n := n) hn hsz hX
  have zE := isZ_nums (n := n) hn hsz hE
  have zAX := isZ_nums (n := n) hn hsz hAX
  have zAE := isZ_nums (n := n) hn hsz hAE
  rw [eE, AC_mult] at eAE
  have key : rankH p st (multH p X m) = 1 ↔ rankH p st X = 1 := by
    rw [rankH_one, rankH_one, zX, zE, zAX, zAE, eAX, eAE, eE]
    constructor
    · rintro ⟨h1, h2⟩
      refine ⟨fun h => h1 (by rw [h, MC_zero]), MC_inv (m := toF n m * toF n m) (m' := toF n t * toF n t) (by grind) h2⟩
    · rintro ⟨h1, h2⟩
      refine ⟨fun h => h1 (MC_inv (m := toF n m) (m' := toF n t) hmm h), by rw [h2, MC_zero]⟩
  unfold primH
  rw [Bool.and_eq_true, Bool.and_eq_true, decide_eq_true_eq, decide_eq_true_eq, key]
  constructor
  · exact fun h => h.2.1
  · intro h
    have hA : AC (gam n st 0) (gam n st 1) (gam n st 2) (toH n (multH p X m)) = zero3 := by
      rw [eE, AC_mult, ← eAX, (zAX.1 (rankH_one.1 h).2), MC_zero]
    have hTr : TC (toH n (multH p X m)) = 1 := by
      rw [eE]
      have h1 := toF_trace (n := n) (p := p) (X := X) hn
      rw [← htt] at h1
      unfold MC TC at *
      grind
    refine ⟨?_, h, ?_⟩
    · unfold idemH sameB
      rw [decide_eq_true_eq]
      obtain ⟨j1, j2, _⟩ := inv_tab hd.hp (a := 2) (by omega) (by omega)
      have hiv : 2 * toF n (invL p 2) = 1 := by
        rw [← toF_two, ← toF_mul, ← toF_mod, ← hn, j2, toF_one]
      have e := toH_jordan (n := n) hn (by omega) hd.hl hE hE hiv
      rw [prim_id hiv hA hTr] at e
      rw [toH_inj hn hsz (jordanH_is (by omega) hE hE) hE e]
    · have hT2 : 0 ≤ traceH p (multH p X m) ∧ traceH p (multH p X m) < p := by unfold traceH; exact mod_fp2 (by omega)
      exact toF_inj (n := n) hn hT2 ⟨by omega, by omega⟩ (by rw [toF_trace hn, hTr, toF_one])
end Go.Proofs.YtgcelfnjijhmkaaGreat
/-
  Pairings, adjoints, crosses, determinants, inverses of matrices as rows of numbers. No program in sight.
-/
namespace Go.Proofs.YtgcelfnjijhmkaaGreat

section
variable {n : Nat} [NeZero n] (g h k : Fin n)
end
section
variable {p : Int} {st : List Int} {X Y Z : Her}
end
end Go.Proofs.YtgcelfnjijhmkaaGreat
/-
  Points and lines of the planes, as rows of numbers. No program in sight.
-/
namespace Go.Proofs.YtgcelfnjijhmkaaGreat

section
variable {n : Nat} [NeZero n] (g h k : Fin n)
end
section
variable {p : Int} {st : List Int} {X Y Z : Her}
theorem isPt_iff : isPt p st X = true ↔ isZ (numsH X) = false ∧ isZ (numsH (adjH p st X)) = true := by
  unfold isPt rankH
  rw [beq_iff_eq]
  cases h1 : isZ (numsH X)
  · cases h2 : isZ (numsH (adjH p st X))
    · simp only [Bool.false_eq_true, if_false, and_false, iff_false]
      split <;> decide
    · simp
  · simp
end
end Go.Proofs.YtgcelfnjijhmkaaGreat
