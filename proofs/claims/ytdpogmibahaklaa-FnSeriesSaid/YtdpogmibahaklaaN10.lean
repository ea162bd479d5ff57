/- The turned series, and how far it lies from the exact one. -/
import Derived.Test.YtdpogmibahaklaaN9
set_option linter.unusedVariables false
set_option linter.unusedSimpArgs false
namespace Go.Proofs.Ytdpogmibahaklaa

def d1 (k : Nat) : Z := if k = 1 then 1 else 0
def but (B : Nat → Rat) (k i : Nat) : Rat := if i = k then 0 else B i

def turnChk (B R : Nat → Rat) (M E : Nat → Nat → Rat) (n k : Nat) : Bool :=
  let s := (accB (mixW (M (n - 2)) (but B k) k) (mixE (M (n - 2)) (but B k) k) (k + 1) 0 0 0).1
  decide (s + (vv * s + tt) ≤ B k) && decide (E (n - 1) k + (vv * s + tt) ≤ R k) &&
    (List.range n).all (fun i => decide ((accB (mixW (M (n - 2)) (but B k) i) (mixE (M (n - 2)) (but B k) i) (i + 1) 0 0 0).1 ≤ 100000000) && (List.range (i + 1)).all (fun j => decide (M (n - 2) j * but B k (i - j) ≤ 100000000)))

structure TurnHyp (b : List C) (n : Nat) (P : Rat) (B R : Nat → Rat) (M E : Nat → Nat → Rat) : Prop where
  hl : b.length = n
  n2 : 2 ≤ n
  n7 : n ≤ 7
  b0 : b.getD 0 zero = zero
  b1 : b.getD 1 zero = one
  hb : ∀ i, i < n → Good b (fun _ => P) i
  B0 : B 0 = 0
  B1 : 1 ≤ B 1
  Bp : ∀ k, 0 ≤ B k
  R0 : ∀ k, 0 ≤ R k
  hM : P ≤ M 0 0
  hM2 : ∀ k, 0 ≤ M 0 k
  hE : ∀ k, 0 ≤ E 0 k
  hc : ∀ j, j + 1 < n → ∀ k, k < n → compChk P B M E j k = true
  ht : ∀ k, 2 ≤ k → k < n → turnChk B R M E n k = true

/-- What is so when the numbers below j stand. -/
structure TurnOk (b : List C) (n : Nat) (B R : Nat → Rat) (j : Nat) (out : List C) : Prop where
  two : 2 ≤ j
  ol : out.length = n
  o0 : out.getD 0 zero = zero
  o1 : out.getD 1 zero = one
  og : ∀ i, i < n → Good out B i
  oz : ∀ i, j ≤ i → out.getD i zero = zero
  oe : ∀ i, i < j → Le (compZ (Vl b) (Vl out) n (n - 1) i - d1 i) (R i)

theorem turn_step {b : List C} {n : Nat} {P : Rat} {B R : Nat → Rat} {M E : Nat → Nat → Rat} (H : TurnHyp b n P B R M E) {k : Nat} {out : List C} (hk : k < n) (h : TurnOk b n B R k out) :
    ∃ out', turnStepF b k out = some out' ∧ TurnOk b n B R (k + 1) out' := by
  have hbig := big_ge
  have k2 := h.two
  have n2 := H.n2
  obtain ⟨r, st, m, c, er, h1, h2, h3, h4, h5⟩ := comp_Z H.hl H.n2 H.hb h.og H.hM H.hM2 H.hE H.hc
  have hck := H.ht k k2 hk
  simp only [turnChk, Bool.and_eq_true, decide_eq_true_eq, List.all_eq_true, List.mem_range] at hck
  obtain ⟨⟨c1, c2⟩, c3⟩ := hck
  have hbut : ∀ i, i < n → Good out (but B k) i := by
    intro i hi
    by_cases e : i = k
    · have hz := h.oz i (by omega)
      unfold Good Vl
      rw [hz]
      exact ⟨Fin_zero, (Le.zero.of_eq V_zero.symm).mono (by unfold but; rw [if_pos e]; grind)⟩
    · have g := h.og i hi
      exact ⟨g.1, g.2.mono (by unfold but; rw [if_neg e]; grind)⟩
  obtain ⟨m', em', ml, mg, _⟩ := mulS_Z (a := st) (b := out) (P := M (n - 2)) (Q := but B k) (M := fun i => (accB (mixW (M (n - 2)) (but B k) i) (mixE (M (n - 2)) (but B k) i) (i + 1) 0 0 0).1)
    (E := fun i => (accB (mixW (M (n - 2)) (but B k) i) (mixE (M (n - 2)) (but B k) i) (i + 1) 0 0 0).2) h1.2.1 hbut (by
      intro i hi
      obtain ⟨c4, c5⟩ := c3 i hi
      simp only [mulChk, Bool.and_eq_true, decide_eq_true_eq, List.all_eq_true, List.mem_range]
      exact ⟨⟨⟨c4, by grind⟩, by grind⟩, c5⟩)
  rw [h2] at em'
  cases em'
  have gk := mg k hk
  have gk2 := gk.2
  have gk1 := gk.1
  dsimp only at gk2
  have hrk : r.getD k zero = m.getD k zero := by rw [h4, getD_set k (by omega), if_neg (by omega)]
  have c6 := (c3 k hk).1
  generalize (accB (mixW (M (n - 2)) (but B k) k) (mixE (M (n - 2)) (but B k) k) (k + 1) 0 0 0).1 = S at *
  have frk : Fin (r.getD k zero) := by rw [hrk]; exact gk1
  have lrk : Le (V (r.getD k zero)) S := by rw [hrk]; exact gk2
  obtain ⟨d, ed, fd, vd⟩ := neg_Z frk lrk (by grind)
  obtain ⟨q, eq, fq, dq⟩ := quot_Z fd (lrk.neg.of_eq vd.symm) (by grind)
  have lq : Le (V q) (S + (vv * S + tt)) := ((lrk.neg.of_eq vd.symm).add dq).of_eq (by (apply Z.ext <;> simp only [Z.add_re, Z.add_im, Z.sub_re, Z.sub_im, Z.neg_re, Z.neg_im, Z.mul_re, Z.mul_im, Z.zero_re, Z.zero_im, Z.one_re, Z.one_im, Z.nat_re, Z.nat_im, Z.lit_re, Z.lit_im] <;> grind))
  have ol := h.ol
  have hkl : k < out.length := by omega
  have hEk := h5.2.2 k hk
  have hv0 : Vl out 0 = 0 := by unfold Vl; rw [h.o0]; exact V_zero
  have hvk : Vl out k = 0 := by unfold Vl; rw [h.oz k (Nat.le_refl _)]; exact V_zero
  have hb1 : Vl b 1 = 1 := by unfold Vl; rw [H.b1]; exact V_one
  refine ⟨out.set k q, ?_, ?_⟩
  · unfold turnStepF
    simp only [er, Option.bind_some, ed, H.b1, eq]
  · refine ⟨by omega, by simp [ol], ?_, ?_, ?_, ?_, ?_⟩
    · rw [getD_set 0 hkl, if_neg (by omega)]; exact h.o0
    · rw [getD_set 1 hkl, if_neg (by omega)]; exact h.o1
    · intro i hi
      by_cases e : i = k
      · subst e; exact Good.set_eq hkl fq (lq.mono c1)
      · exact (h.og i hi).set_ne hkl e
    · intro i hi
      rw [getD_set i hkl, if_neg (by omega)]; exact h.oz i (by omega)
    · intro i hi
      by_cases e : i = k
      · subst e
        have hat := compZ_at (a := Vl b) (b := Vl (out.set i q)) (b' := Vl out) (n := n) (k := i) (by omega) (fun l hl => Vl_set_ne hkl (by omega)) (by rw [Vl_set_ne hkl (by omega)]; exact hv0) (n - 2)
        rw [show n - 2 + 1 = n - 1 by omega, show n - 1 - (n - 2) = 1 by omega, hb1, Vl_set_eq hkl, hvk] at hat
        have e2 : d1 i = 0 := if_neg (by omega)
        rw [e2]
        refine ((hEk.neg.add dq).of_eq ?_).mono c2
        rw [vd]
        unfold Vl at *
        (apply Z.ext <;> simp only [Z.add_re, Z.add_im, Z.sub_re, Z.sub_im, Z.neg_re, Z.neg_im, Z.mul_re, Z.mul_im, Z.zero_re, Z.zero_im, Z.one_re, Z.one_im, Z.nat_re, Z.nat_im, Z.lit_re, Z.lit_im] <;> (simp only [Z.eq_iff, Z.add_re, Z.add_im, Z.sub_re, Z.sub_im, Z.neg_re, Z.neg_im, Z.mul_re, Z.mul_im, Z.zero_re, Z.zero_im, Z.one_re, Z.one_im, Z.nat_re, Z.nat_im, Z.lit_re, Z.lit_im] at * <;> grind))
      · rw [compZ_low (b' := Vl out) (k := k) (fun l hl => Vl_set_ne hkl (by omega)) (n - 1) i (by omega)]
        exact h.oe i (by omega)

theorem turn_start {b : List C} {n : Nat} {P : Rat} {B R : Nat → Rat} {M E : Nat → Nat → Rat} (H : TurnHyp b n P B R M E) : TurnOk b n B R 2 ((List.replicate n zero).set 1 one) := by
  have n2 := H.n2
  have hkl : 1 < (List.replicate n zero).length := by simp; omega
  have v0 : Vl ((List.replicate n zero).set 1 one) 0 = 0 := by
    rw [Vl_set_ne hkl (by omega)]; unfold Vl; rw [getD_rep]; exact V_zero
  have v1 : Vl ((List.replicate n zero).set 1 one) 1 = 1 := by
    rw [Vl_set_eq hkl]; exact V_one
  have hb1 : Vl b 1 = 1 := by unfold Vl; rw [H.b1]; exact V_one
  have hb0 : Vl b 0 = 0 := by unfold Vl; rw [H.b0]; exact V_zero
  refine ⟨Nat.le_refl _, by simp, ?_, ?_, ?_, ?_, ?_⟩
  · rw [getD_set 0 hkl, if_neg (by omega), getD_rep]
  · rw [getD_set 1 hkl, if_pos rfl]
  · intro i hi
    by_cases e : i = 1
    · subst e; exact Good.set_eq hkl Fin_one ((Le.one.of_eq V_one.symm).mono H.B1)
    · exact Good.set_ne (Good.rep (H.Bp i)) hkl e
  · intro i hi
    rw [getD_set i hkl, if_neg (by omega), getD_rep]
  · intro i hi
    rcases (by omega : i = 0 ∨ i = 1) with rfl | rfl
    · rw [compZ_zero v0, Nat.sub_self, hb0]
      refine (Le.zero.mono (H.R0 0)).of_eq ?_
      show (0 : Z) = 0 - d1 0
      rw [show d1 0 = 0 from rfl]; (apply Z.ext <;> simp only [Z.add_re, Z.add_im, Z.sub_re, Z.sub_im, Z.neg_re, Z.neg_im, Z.mul_re, Z.mul_im, Z.zero_re, Z.zero_im, Z.one_re, Z.one_im, Z.nat_re, Z.nat_im, Z.lit_re, Z.lit_im] <;> grind)
    · have e : compZ (Vl b) (Vl ((List.replicate n zero).set 1 one)) n (n - 1) 1 = 1 := by
        have h1 : n - 1 = (n - 2) + 1 := by omega
        rw [h1]
        simp only [compZ, cz, at0]
        rw [compZ_zero v0, v0, show 0 + 1 = 1 from rfl, v1, show n - 1 - (n - 2) = 1 by omega, hb1]
        rw [if_neg (by omega)]
        (simp only [Z.eq_iff, Z.add_re, Z.add_im, Z.sub_re, Z.sub_im, Z.neg_re, Z.neg_im, Z.mul_re, Z.mul_im, Z.zero_re, Z.zero_im, Z.one_re, Z.one_im, Z.nat_re, Z.nat_im, Z.lit_re, Z.lit_im] at * <;> grind)
      rw [e]
      refine (Le.zero.mono (H.R0 1)).of_eq ?_
      rw [show d1 1 = 1 from rfl]; (apply Z.ext <;> simp only [Z.add_re, Z.add_im, Z.sub_re, Z.sub_im, Z.neg_re, Z.neg_im, Z.mul_re, Z.mul_im, Z.zero_re, Z.zero_im, Z.one_re, Z.one_im, Z.nat_re, Z.nat_im, Z.lit_re, Z.lit_im] <;> grind)

theorem turn_Z {b : List C} {n : Nat} {P : Rat} {B R : Nat → Rat} {M E : Nat → Nat → Rat} (H : TurnHyp b n P B R M E) : ∃ tu, turnF b = some tu ∧ TurnOk b n B R n tu := by
  have hq : quotF one one = some one := by decide +kernel
  have n2 := H.n2
  unfold turnF
  rw [H.b1, hq, H.hl]
  simp only [Option.bind_some]
  exact stepsF_build (f := turnStepF b) (N := n) (fun i out => TurnOk b n B R i out) (fun i out hi h => turn_step H hi h) (n - 2) 2 _ (by omega) (turn_start H)
end Go.Proofs.Ytdpogmibahaklaa
