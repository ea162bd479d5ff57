/- The operations on complex numbers of 32-bit parts: how far each lies from the exact one. -/
import Derived.Test.YtdpogmibahaklaaN1
import Derived.Test.YtdpogmibahaklaaFl
set_option linter.unusedVariables false
set_option linter.unusedSimpArgs false
namespace Go.Proofs.Ytdpogmibahaklaa

def Fin (x : C) : Prop := fin .f32 x.1 ∧ fin .f32 x.2
def V (x : C) : Z := ⟨val .f32 x.1, val .f32 x.2⟩
/-- A little more than half a unit in the last place, of 1. -/
def vv : Rat := 1 / 16000000
def tt : Rat := 1 / 1000000000000000000000000000000
def big : Rat := 1000000000000000000000000000000

theorem U32 : U .f32 = 1 / 16777216 := by show p2 (-24) = _; unfold p2; decide +kernel
theorem U64 : U .f64 = 1 / 9007199254740992 := by show p2 (-53) = _; unfold p2; decide +kernel
theorem T32 : T .f32 ≤ 1 / 10000000000000000000000000000000 := by show p2 (-150) ≤ _; unfold p2; decide +kernel
theorem T64 : T .f64 ≤ 1 / 100000000000000000000000000000000 := by
  show p2 (-1075) ≤ _
  have := p2_mono (show (-1075 : Int) ≤ -150 by decide)
  have h2 : p2 (-150) ≤ 1 / 100000000000000000000000000000000 := by unfold p2; decide +kernel
  grind
theorem big_lt : 4 * big < p2 127 := by unfold p2 big; decide +kernel
theorem big_lt64 : 4 * (big * big) < p2 1000 := by
  have := p2_mono (show (300 : Int) ≤ 1000 by decide)
  have h2 : 4 * (big * big) < p2 300 := by unfold p2 big; decide +kernel
  grind
theorem p2_1000 : p2 1000 ≤ p2 1023 := p2_mono (by decide)

theorem err_le {K t : Rat} (hK : 0 ≤ K) (h : t ≤ 1 / 5000000000000000000000000000000) : U .f32 * K + 2 * t ≤ vv * K + tt := by
  rw [U32]
  unfold vv tt
  grind

theorem plus_Z {x y : C} {K : Rat} (hx : Fin x) (hy : Fin y) (h : Le (V x + V y) K) (hK : K ≤ big) : ∃ r, plusF x y = some r ∧ Fin r ∧ Le (V r - (V x + V y)) (vv * K + tt) := by
  have hb := big_lt
  have h1 := h.re_abs
  have h2 := h.im_abs
  have hp := h.pos
  obtain ⟨r1, e1, f1, d1, _⟩ := add_ok hx.1 hy.1 (show (val .f32 x.1 + val .f32 y.1).abs < p2 127 by
    have : (val .f32 x.1 + val .f32 y.1).abs ≤ K := h1
    grind)
  obtain ⟨r2, e2, f2, d2, _⟩ := add_ok hx.2 hy.2 (show (val .f32 x.2 + val .f32 y.2).abs < p2 127 by
    have : (val .f32 x.2 + val .f32 y.2).abs ≤ K := h2
    grind)
  refine ⟨(r1, r2), by simp [plusF, e1, e2], ⟨f1, f2⟩, ?_⟩
  refine (h.parts (u := U .f32) (t := T .f32) (U_nonneg _) (T_nonneg _) ?_ ?_).mono (err_le hp (by have := T32; grind))
  · show (val .f32 r1 - (val .f32 x.1 + val .f32 y.1)).abs ≤ U .f32 * (val .f32 x.1 + val .f32 y.1).abs + T .f32
    unfold Rd at d1; exact d1
  · show (val .f32 r2 - (val .f32 x.2 + val .f32 y.2)).abs ≤ U .f32 * (val .f32 x.2 + val .f32 y.2).abs + T .f32
    unfold Rd at d2; exact d2

theorem minus_Z {x y : C} {K : Rat} (hx : Fin x) (hy : Fin y) (h : Le (V x - V y) K) (hK : K ≤ big) : ∃ r, minusF x y = some r ∧ Fin r ∧ Le (V r - (V x - V y)) (vv * K + tt) := by
  have hb := big_lt
  have h1 := h.re_abs
  have h2 := h.im_abs
  have hp := h.pos
  obtain ⟨r1, e1, f1, d1, _⟩ := sub_ok hx.1 hy.1 (show (val .f32 x.1 - val .f32 y.1).abs < p2 127 by
    have : (val .f32 x.1 - val .f32 y.1).abs ≤ K := h1
    grind)
  obtain ⟨r2, e2, f2, d2, _⟩ := sub_ok hx.2 hy.2 (show (val .f32 x.2 - val .f32 y.2).abs < p2 127 by
    have : (val .f32 x.2 - val .f32 y.2).abs ≤ K := h2
    grind)
  refine ⟨(r1, r2), by simp [minusF, e1, e2], ⟨f1, f2⟩, ?_⟩
  refine (h.parts (u := U .f32) (t := T .f32) (U_nonneg _) (T_nonneg _) ?_ ?_).mono (err_le hp (by have := T32; grind))
  · show (val .f32 r1 - (val .f32 x.1 - val .f32 y.1)).abs ≤ U .f32 * (val .f32 x.1 - val .f32 y.1).abs + T .f32
    unfold Rd at d1; exact d1
  · show (val .f32 r2 - (val .f32 x.2 - val .f32 y.2)).abs ≤ U .f32 * (val .f32 x.2 - val .f32 y.2).abs + T .f32
    unfold Rd at d2; exact d2

theorem val_zero (k : FloatKind) : val k 0 = 0 := by cases k <;> (unfold val; decide +kernel)
theorem fin_zero (k : FloatKind) : fin k 0 := by cases k <;> (unfold fin; decide +kernel)
theorem rep_neg {k : FloatKind} {x : Rat} (h : Rep k x) : Rep k (-x) := by
  obtain ⟨s, m, e, h1, h2, h3⟩ := h
  refine ⟨!s, m, e, h1, h2, ?_⟩
  rw [h3]
  cases s <;> simp [sgn]

theorem V_zero : V zero = 0 := by
  apply Z.ext
  · exact (val_zero .f32).trans Z.zero_re.symm
  · exact (val_zero .f32).trans Z.zero_im.symm
theorem Fin_zero : Fin zero := ⟨fin_zero _, fin_zero _⟩
theorem V_one : V one = 1 := by
  apply Z.ext
  · show val .f32 1065353216 = 1
    unfold val; decide +kernel
  · exact (val_zero .f32).trans Z.one_im.symm
theorem Fin_one : Fin one := ⟨by show fin .f32 1065353216; unfold fin; decide +kernel, fin_zero _⟩

/-- '0 - x' is exact. -/
theorem neg_Z {x : C} {K : Rat} (hx : Fin x) (h : Le (V x) K) (hK : K ≤ big) : ∃ r, minusF zero x = some r ∧ Fin r ∧ V r = -V x := by
  have hb := big_lt
  have h1 := h.re_abs
  have h2 := h.im_abs
  have hp := h.pos
  have z : ∀ t : Rat, (0 : Rat) - t = -t := fun t => by grind
  obtain ⟨r1, e1, f1, _, d1⟩ := sub_ok (fin_zero .f32) hx.1 (show (val .f32 0 - val .f32 x.1).abs < p2 127 by
    have : (val .f32 x.1).abs ≤ K := h1
    rw [val_zero, z, Rat.abs_neg]
    grind)
  obtain ⟨r2, e2, f2, _, d2⟩ := sub_ok (fin_zero .f32) hx.2 (show (val .f32 0 - val .f32 x.2).abs < p2 127 by
    have : (val .f32 x.2).abs ≤ K := h2
    rw [val_zero, z, Rat.abs_neg]
    grind)
  rw [val_zero, z] at d1 d2
  refine ⟨(r1, r2), by simp [minusF, zero, e1, e2], ⟨f1, f2⟩, ?_⟩
  apply Z.ext
  · exact d1 (rep_neg (val_rep hx.1))
  · exact d2 (rep_neg (val_rep hx.2))

/-- A product by a number. -/
theorem scale_Z {x : C} {b : Nat} {c K : Rat} (hx : Fin x) (hb : fin .f32 b) (hc : val .f32 b = c) (h : Le (⟨c, 0⟩ * V x) K) (hK : K ≤ big) :
    ∃ r, scaleF x b = some r ∧ Fin r ∧ Le (V r - ⟨c, 0⟩ * V x) (vv * K + tt) := by
  have hb' := big_lt
  have h1 := h.re_abs
  have h2 := h.im_abs
  have hp := h.pos
  have q1 : ((⟨c, 0⟩ : Z) * V x).re = val .f32 x.1 * val .f32 b := by rw [hc]; show c * val .f32 x.1 - 0 * val .f32 x.2 = _; grind
  have q2 : ((⟨c, 0⟩ : Z) * V x).im = val .f32 x.2 * val .f32 b := by rw [hc]; show c * val .f32 x.2 + 0 * val .f32 x.1 = _; grind
  rw [q1] at h1
  rw [q2] at h2
  obtain ⟨r1, e1, f1, d1, _⟩ := mul_ok hx.1 hb (show (val .f32 x.1 * val .f32 b).abs < p2 127 by grind)
  obtain ⟨r2, e2, f2, d2, _⟩ := mul_ok hx.2 hb (show (val .f32 x.2 * val .f32 b).abs < p2 127 by grind)
  refine ⟨(r1, r2), by simp [scaleF, e1, e2], ⟨f1, f2⟩, ?_⟩
  refine (h.parts (u := U .f32) (t := T .f32) (U_nonneg _) (T_nonneg _) ?_ ?_).mono (err_le hp (by have := T32; grind))
  · show (val .f32 r1 - ((⟨c, 0⟩ : Z) * V x).re).abs ≤ _
    rw [q1]; exact d1
  · show (val .f32 r2 - ((⟨c, 0⟩ : Z) * V x).im).abs ≤ _
    rw [q2]; exact d2
end Go.Proofs.Ytdpogmibahaklaa
