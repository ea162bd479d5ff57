/- More operations on complex numbers of 32-bit parts: parts, products, quotients by one, lengths. -/
import Derived.Test.YtdpogmibahaklaaN2
import Derived.Test.YtdpogmibahaklaaFq
set_option linter.unusedVariables false
set_option linter.unusedSimpArgs false
namespace Go.Proofs.Ytdpogmibahaklaa

theorem ofInt_all : ∀ k ∈ List.range 17, dfin (FloatKind.f32.format.read (floatOfInt .f32 (k : Int))) = true ∧ dval (FloatKind.f32.format.read (floatOfInt .f32 (k : Int))) = (k : Rat) := by
  decide +kernel
theorem ofInt_fin {k : Nat} (h : k ≤ 16) : fin .f32 (floatOfInt .f32 (k : Int)) := (ofInt_all k (by simp; omega)).1
theorem ofInt_val {k : Nat} (h : k ≤ 16) : val .f32 (floatOfInt .f32 (k : Int)) = (k : Rat) := (ofInt_all k (by simp; omega)).2

theorem part_Z {x : C} {k : Nat} {y : Z} {K : Rat} (hx : Fin x) (k1 : 1 ≤ k) (k2 : k ≤ 16) (hy : (k : Z) * y = V x) (h : Le y K) (hK : K ≤ big) :
    ∃ r, partF x (k : Int) = some r ∧ Fin r ∧ Le (V r - y) (2 * vv * K + tt) := by
  have hb := big_lt
  have h1 := h.re_abs
  have h2 := h.im_abs
  have hp := h.pos
  have hk0 : val .f32 (floatOfInt .f32 (k : Int)) ≠ 0 := by
    rw [ofInt_val k2]
    intro h0
    have : (k : Rat) = ((0 : Nat) : Rat) := h0
    have := Rat.natCast_inj.1 this
    omega
  have y1 : y.re * val .f32 (floatOfInt .f32 (k : Int)) = val .f32 x.1 := by
    rw [ofInt_val k2]
    have := congrArg Z.re hy
    simp only [Z.mul_re, Z.nat_re, Z.nat_im] at this
    have e : (V x).re = val .f32 x.1 := rfl
    rw [e] at this
    grind
  have y2 : y.im * val .f32 (floatOfInt .f32 (k : Int)) = val .f32 x.2 := by
    rw [ofInt_val k2]
    have := congrArg Z.im hy
    simp only [Z.mul_im, Z.nat_re, Z.nat_im] at this
    have e : (V x).im = val .f32 x.2 := rfl
    rw [e] at this
    grind
  obtain ⟨r1, e1, f1, d1⟩ := div_ok hx.1 (ofInt_fin k2) hk0 y.re y1 (show 2 * y.re.abs < p2 127 by grind)
  obtain ⟨r2, e2, f2, d2⟩ := div_ok hx.2 (ofInt_fin k2) hk0 y.im y2 (show 2 * y.im.abs < p2 127 by grind)
  refine ⟨(r1, r2), by simp [partF, e1, e2], ⟨f1, f2⟩, ?_⟩
  refine (h.parts (u := 2 * U .f32) (t := T .f32) (by have := U_nonneg .f32; grind) (T_nonneg _) ?_ ?_).mono ?_
  · show (val .f32 r1 - y.re).abs ≤ _
    unfold Rd2 at d1; exact d1
  · show (val .f32 r2 - y.im).abs ≤ _
    unfold Rd2 at d2; exact d2
  · have := T32
    rw [U32]
    unfold vv tt
    grind

/-- A difference of two products in 64 bits, narrowed. -/
theorem twice_le {W x1 x2 y1 y2 s r : Rat} (hW : 0 ≤ W) (h1 : x1.abs ≤ W) (h2 : x2.abs ≤ W) (a1 : (y1 - x1).abs ≤ U .f64 * x1.abs + T .f64) (a2 : (y2 - x2).abs ≤ U .f64 * x2.abs + T .f64)
    (a3 : (s - (y1 + y2)).abs ≤ U .f64 * (y1 + y2).abs + T .f64) (a4 : (r - s).abs ≤ U .f32 * s.abs + T .f32) :
    (r - (x1 + x2)).abs ≤ U .f32 * (x1 + x2).abs + (1 / 1000000000000000 * W + 2 * T .f64 + 2 * T .f64 + T .f64 + T .f64 + T .f32) := by
  have n1 := T_nonneg .f64
  have n2 := T_nonneg .f32
  rw [U64] at a1 a2 a3
  rw [U32] at a4 ⊢
  generalize T .f64 = t at *
  generalize T .f32 = u at *
  have b1 := abs_le.1 h1
  have b2 := abs_le.1 h2
  have c1 := abs_le.1 a1
  have c2 := abs_le.1 a2
  have c3 := abs_le.1 a3
  have c4 := abs_le.1 a4
  have g1 : (y1 + y2).abs ≤ 3 * W + 2 * t := by rw [abs_le]; constructor <;> grind
  have g2 : (s - (x1 + x2)).abs ≤ 1 / 1500000000000000 * W + 4 * t := by rw [abs_le]; constructor <;> grind
  have g3 : s.abs ≤ (x1 + x2).abs + (s - (x1 + x2)).abs := by
    have := abs_add (x1 + x2) (s - (x1 + x2))
    rw [show x1 + x2 + (s - (x1 + x2)) = s by grind] at this
    exact this
  have g4 := abs_le.1 g2
  rw [abs_le]
  generalize (x1 + x2).abs = A at *
  generalize s.abs = S at *
  generalize (s - (x1 + x2)).abs = D at *
  constructor <;> grind

theorem abs_mul_le {x y M N : Rat} (hx : x.abs ≤ M) (hy : y.abs ≤ N) : (x * y).abs ≤ M * N := by
  rw [abs_mul]
  have h1 := Rat.abs_nonneg (x := x)
  have h2 := Rat.abs_nonneg (x := y)
  have h3 := Rat.mul_nonneg (show 0 ≤ M - x.abs by grind) (show 0 ≤ N by grind)
  have h4 := Rat.mul_nonneg h1 (show 0 ≤ N - y.abs by grind)
  grind

theorem times_Z {x y : C} {M N : Rat} (hx : Fin x) (hy : Fin y) (h1 : Le (V x) M) (h2 : Le (V y) N) (hW : M * N ≤ big) :
    ∃ p, timesF x y = some p ∧ fin .f64 p.1 ∧ fin .f64 p.2 ∧
      (∀ r, (r - val .f64 p.1).abs ≤ U .f32 * (val .f64 p.1).abs + T .f32 → (r - (V x * V y).re).abs ≤ U .f32 * (V x * V y).re.abs + (1 / 1000000000000000 * (M * N) + 2 * T .f64 + 2 * T .f64 + T .f64 + T .f64 + T .f32)) ∧
      (∀ r, (r - val .f64 p.2).abs ≤ U .f32 * (val .f64 p.2).abs + T .f32 → (r - (V x * V y).im).abs ≤ U .f32 * (V x * V y).im.abs + (1 / 1000000000000000 * (M * N) + 2 * T .f64 + 2 * T .f64 + T .f64 + T .f64 + T .f32)) ∧
      (val .f64 p.1).abs ≤ 4 * big ∧ (val .f64 p.2).abs ≤ 4 * big := by
  have hb : 100 * big < p2 1023 := by
    have := big_lt64
    have := p2_1000
    have : 100 * big ≤ 4 * (big * big) := by unfold big; decide +kernel
    grind
  have ht := T64
  have ht0 := T_nonneg .f64
  have hu := U64
  have hW0 : 0 ≤ M * N := Rat.mul_nonneg h1.pos h2.pos
  have hbig : 1 ≤ big := by unfold big; decide +kernel
  obtain ⟨a, wa, fa, va⟩ := wide_ok hx.1
  obtain ⟨b, wb, fb, vb⟩ := wide_ok hx.2
  obtain ⟨c, wc, fc, vc⟩ := wide_ok hy.1
  obtain ⟨d, wd, fd, vd⟩ := wide_ok hy.2
  have xa : (val .f64 a).abs ≤ M := by rw [va]; exact h1.re_abs
  have xb : (val .f64 b).abs ≤ M := by rw [vb]; exact h1.im_abs
  have yc : (val .f64 c).abs ≤ N := by rw [vc]; exact h2.re_abs
  have yd : (val .f64 d).abs ≤ N := by rw [vd]; exact h2.im_abs
  have pac := abs_mul_le xa yc
  have pbd := abs_mul_le xb yd
  have pad := abs_mul_le xa yd
  have pbc := abs_mul_le xb yc
  obtain ⟨ac, eac, fac, dac, _⟩ := mul_ok fa fc (show _ < p2 1023 by grind)
  obtain ⟨bd, ebd, fbd, dbd, _⟩ := mul_ok fb fd (show _ < p2 1023 by grind)
  obtain ⟨ad, ead, fad, dad, _⟩ := mul_ok fa fd (show _ < p2 1023 by grind)
  obtain ⟨bc, ebc, fbc, dbc, _⟩ := mul_ok fb fc (show _ < p2 1023 by grind)
  have ere : (V x * V y).re = val .f64 a * val .f64 c + -(val .f64 b * val .f64 d) := by
    rw [va, vb, vc, vd]
    show val .f32 x.1 * val .f32 y.1 - val .f32 x.2 * val .f32 y.2 = _
    grind
  have eim : (V x * V y).im = val .f64 a * val .f64 d + val .f64 b * val .f64 c := by
    rw [va, vb, vc, vd]
    rfl
  generalize val .f64 a * val .f64 c = pac0 at *
  generalize val .f64 b * val .f64 d = pbd0 at *
  generalize val .f64 a * val .f64 d = pad0 at *
  generalize val .f64 b * val .f64 c = pbc0 at *
  have hsm : U .f64 * (M * N) + T .f64 ≤ 1 / 2 * big := by rw [hu]; grind
  have near : ∀ {p q : Rat}, p.abs ≤ M * N → Rd .f64 q p → q.abs ≤ 3 / 2 * big := by
    intro p q hp hq
    unfold Rd at hq
    have hq' : (q - p).abs ≤ 1 / 2 * big := by
      rw [hu] at hq hsm
      grind
    have := abs_le.1 hq'
    have := abs_le.1 hp
    rw [abs_le]
    constructor <;> grind
  have nac := near pac dac
  have nbd := near pbd dbd
  have nad := near pad dad
  have nbc := near pbc dbc
  have s1 : (val .f64 ac - val .f64 bd).abs ≤ 3 * big := by
    have := abs_le.1 nac
    have := abs_le.1 nbd
    rw [abs_le]; constructor <;> grind
  have s2 : (val .f64 ad + val .f64 bc).abs ≤ 3 * big := by
    have := abs_le.1 nad
    have := abs_le.1 nbc
    rw [abs_le]; constructor <;> grind
  obtain ⟨re, ere', fre, dre, _⟩ := sub_ok fac fbd (show _ < p2 1023 by grind)
  obtain ⟨im, eim', fim, dim, _⟩ := add_ok fad fbc (show _ < p2 1023 by grind)
  have fin4 : ∀ {p q : Rat}, p.abs ≤ 3 * big → Rd .f64 q p → q.abs ≤ 4 * big := by
    intro p q hp hq
    unfold Rd at hq
    have hq' : (q - p).abs ≤ big := by
      rw [hu] at hq
      grind
    have := abs_le.1 hq'
    have := abs_le.1 hp
    rw [abs_le]
    constructor <;> grind
  refine ⟨(re, im), ?_, fre, fim, ?_, ?_, fin4 s1 dre, fin4 s2 dim⟩
  · simp [timesF, wide, wa, wb, wc, wd, eac, ebd, ead, ebc, ere', eim']
  · intro r hr
    rw [ere]
    refine twice_le hW0 pac (by rw [Rat.abs_neg]; exact pbd) dac (y2 := -val .f64 bd) ?_ ?_ hr
    · unfold Rd at dbd
      rw [Rat.abs_neg, show -val .f64 bd - -pbd0 = -(val .f64 bd - pbd0) by grind, Rat.abs_neg]
      exact dbd
    · unfold Rd at dre
      rw [show val .f64 ac + -val .f64 bd = val .f64 ac - val .f64 bd by grind]
      exact dre
  · intro r hr
    rw [eim]
    exact twice_le hW0 pad pbc dad dbc dim hr

theorem mul_Z {x y : C} {M N : Rat} (hx : Fin x) (hy : Fin y) (h1 : Le (V x) M) (h2 : Le (V y) N) (hW : M * N ≤ big) :
    ∃ r, mulF x y = some r ∧ Fin r ∧ Le (V r - V x * V y) (vv * (M * N) + tt) := by
  obtain ⟨p, ep, f1, f2, k1, k2, b1, b2⟩ := times_Z hx hy h1 h2 hW
  have hb := big_lt
  obtain ⟨r1, e1, g1, d1, _⟩ := narrow_ok f1 (by grind)
  obtain ⟨r2, e2, g2, d2, _⟩ := narrow_ok f2 (by grind)
  refine ⟨(r1, r2), by simp [mulF, ep, narrow, e1, e2], ⟨g1, g2⟩, ?_⟩
  have hp : 0 ≤ M * N := Rat.mul_nonneg h1.pos h2.pos
  have n1 := T_nonneg .f64
  have n2 := T_nonneg .f32
  unfold Rd at d1 d2
  have k1' := k1 _ d1
  have k2' := k2 _ d2
  refine ((h1.mul h2).parts (u := U .f32) (t := 1 / 1000000000000000 * (M * N) + 2 * T .f64 + 2 * T .f64 + T .f64 + T .f64 + T .f32) (U_nonneg _) ?_ ?_ ?_).mono ?_
  · grind
  · show (val .f32 r1 - (V x * V y).re).abs ≤ _
    exact k1'
  · show (val .f32 r2 - (V x * V y).im).abs ≤ _
    exact k2'
  · have := T32
    have := T64
    rw [U32]
    unfold vv tt
    grind
end Go.Proofs.Ytdpogmibahaklaa
