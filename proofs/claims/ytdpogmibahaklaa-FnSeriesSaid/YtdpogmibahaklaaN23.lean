/- The third part of what the statement asks: put together. -/
import Derived.Test.YtdpogmibahaklaaN22
set_option linter.unusedVariables false
set_option linter.unusedSimpArgs false
namespace Go.Proofs.Ytdpogmibahaklaa

theorem z_at (v : Int) (h0 : 0 ≤ v) (h9 : v < 9) : ∃ q, floatBits .quo .f32 (floatOfInt .f32 (v - 4)) 1090519040 = some q ∧ Fin (q, 0) ∧ Le (V (q, 0)) (1 / 2) := by
  obtain ⟨k, rfl⟩ := Int.eq_ofNat_of_zero_le h0
  have h := z_ok k (by simp; omega)
  generalize floatBits .quo .f32 (floatOfInt .f32 ((k : Int) - 4)) 1090519040 = o at *
  cases o with
  | none => cases h
  | some q =>
    simp only [Bool.and_eq_true, decide_eq_true_eq] at h
    obtain ⟨⟨h1, h2⟩, h3⟩ := h
    refine ⟨q, rfl, ⟨h1, fin_zero _⟩, by decide +kernel, ?_⟩
    have e1 : -(1 / 2) ≤ val .f32 q := h2
    have e2 : val .f32 q ≤ 1 / 2 := h3
    have eim : (V (q, 0)).im = 0 := by simp only [V, val_zero]
    have ere : (V (q, 0)).re = val .f32 q := by simp only [V]
    rw [eim, ere]
    generalize val .f32 q = p at *
    have := Rat.mul_nonneg (show 0 ≤ 1 / 2 - p by grind) (show 0 ≤ p + 1 / 2 by grind)
    grind

theorem ser3 {n : Nat} {a : List C} (n2 : 2 ≤ n) (la : a.length = n) (a0 : a.getD 0 zero = one) (ga : ∀ j, j < n → Good a (fun _ => 141422 / 100000) j) : SerOk3 a := by
  constructor
  · intro v h0 h9
    obtain ⟨q, eq, fq, lq⟩ := z_at v h0 h9
    obtain ⟨r, u, er, fr, _⟩ := nest_Z la n2 ga fq lq
    obtain ⟨p1, p2⟩ := nest_last (by omega) er
    exact ⟨q, r, eq, fq.c, er, fr.c, plain_of fr.1 p1, plain_of fr.2 p2⟩
  · have hz0 : Le (V zero) (1 / 2) := (Le.zero.of_eq V_zero.symm).mono (by decide +kernel)
    obtain ⟨r, u, er, fr, lr, lu, h⟩ := nest_Z la n2 ga Fin_zero hz0
    have e1 : Vl a 0 = 1 := by unfold Vl; rw [a0]; exact V_one
    have h1 : Le (V r - V one) (1 / 1000000) := h.of_eq (by rw [V_zero, e1, V_one]; (apply Z.ext <;> simp only [Z.add_re, Z.add_im, Z.sub_re, Z.sub_im, Z.neg_re, Z.neg_im, Z.mul_re, Z.mul_im, Z.zero_re, Z.zero_im, Z.one_re, Z.one_im, Z.nat_re, Z.nat_im, Z.lit_re, Z.lit_im] <;> grind))
    obtain ⟨d, ed, fd, hd⟩ := minus_Z fr Fin_one h1 (by unfold big; decide +kernel)
    have hV : Le (V d) (2 / 1000000) := ((h1.add hd).of_eq (by (apply Z.ext <;> simp only [Z.add_re, Z.add_im, Z.sub_re, Z.sub_im, Z.neg_re, Z.neg_im, Z.mul_re, Z.mul_im, Z.zero_re, Z.zero_im, Z.one_re, Z.one_im, Z.nat_re, Z.nat_im, Z.lit_re, Z.lit_im] <;> grind))).mono (by unfold vv tt; decide +kernel)
    obtain ⟨l, el, fl, hl⟩ := long_Z fd hV (by unfold big; decide +kernel)
    refine ⟨r, er, fr.c, l, by simp [farF, ed, el], ?_⟩
    obtain ⟨c1, c2, c3⟩ := c001_ok
    have ho : Ieee.double.order l c001 = _ := order_ok fl c1
    rw [ho, if_pos]
    unfold vv at hl
    grind
end Go.Proofs.Ytdpogmibahaklaa
