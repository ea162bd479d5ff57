/- The square root of a float64, from above; a quotient by 1. -/
import Derived.Test.YtdpogmibahaklaaOps
set_option linter.unusedVariables false
set_option linter.unusedSimpArgs false
namespace Go.Proofs.Ytdpogmibahaklaa

theorem rootFrom_spec (n : Nat) : ∀ (todo root : Nat), root * root ≤ n → n < (root + 2 ^ todo) * (root + 2 ^ todo) →
    Ieee.Datum.rootFrom n todo root * Ieee.Datum.rootFrom n todo root ≤ n ∧ n < (Ieee.Datum.rootFrom n todo root + 1) * (Ieee.Datum.rootFrom n todo root + 1)
  | 0, root, h1, h2 => by
    simp only [Ieee.Datum.rootFrom]
    exact ⟨h1, by simpa using h2⟩
  | todo + 1, root, h1, h2 => by
    simp only [Ieee.Datum.rootFrom, Nat.one_shiftLeft]
    have e : root + 2 ^ (todo + 1) = root + 2 ^ todo + 2 ^ todo := by rw [Nat.pow_succ]; omega
    rw [e] at h2
    by_cases h : (root + 2 ^ todo) * (root + 2 ^ todo) ≤ n
    · rw [if_pos h]
      exact rootFrom_spec n todo _ h h2
    · rw [if_neg h]
      exact rootFrom_spec n todo _ h1 (by omega)

theorem root_number (m : Nat) (i : Int) (hm : m ≠ 0) : ∃ (w : Nat) (st : Nat) (q : Int), (Ieee.Datum.number false m i).root 54 = some (.number false (2 * w + st) (q - 1)) ∧ st ≤ 1 ∧ 2 ^ 53 ≤ w ∧
    (w : Rat) * w * (p2 q * p2 q) ≤ (m : Rat) * p2 i := by
  obtain ⟨m0, hm0⟩ : ∃ m0, m0 = 2 * 54 - m.log2 := ⟨_, rfl⟩
  obtain ⟨more, hmore⟩ : ∃ more, more = m0 + ((i - m0) % 2).toNat := ⟨_, rfl⟩
  obtain ⟨n, hn⟩ : ∃ n, n = m <<< more := ⟨_, rfl⟩
  have hlt : n < (0 + 2 ^ (n.log2 / 2 + 1)) * (0 + 2 ^ (n.log2 / 2 + 1)) := by
    have h1 : n < 2 ^ (n.log2 + 1) := Nat.lt_log2_self
    rw [Nat.zero_add, ← Nat.pow_add]
    have h2 : 2 ^ (n.log2 + 1) ≤ 2 ^ (n.log2 / 2 + 1 + (n.log2 / 2 + 1)) := Nat.pow_le_pow_right (by decide) (by omega)
    omega
  obtain ⟨s1, s2⟩ := rootFrom_spec n (n.log2 / 2 + 1) 0 (by simp) hlt
  refine ⟨Ieee.Datum.rootFrom n (n.log2 / 2 + 1) 0, (Ieee.Datum.rootFrom n (n.log2 / 2 + 1) 0 * Ieee.Datum.rootFrom n (n.log2 / 2 + 1) 0 != n).toNat, (i - more) / 2, ?_, ?_, ?_, ?_⟩
  · simp only [Ieee.Datum.root]
    rw [if_neg hm]
    simp only [Bool.false_eq_true, if_false]
    rw [← hm0, ← hmore, ← hn]
  · cases (Ieee.Datum.rootFrom n (n.log2 / 2 + 1) 0 * Ieee.Datum.rootFrom n (n.log2 / 2 + 1) 0 != n) <;> simp
  · generalize Ieee.Datum.rootFrom n (n.log2 / 2 + 1) 0 = w at *
    apply Decidable.byContradiction
    intro hc
    have h1 : (w + 1) * (w + 1) ≤ 2 ^ 53 * 2 ^ 53 := Nat.mul_le_mul (by omega) (by omega)
    have h2 : 2 ^ 108 ≤ n := by
      rw [hn, Nat.shiftLeft_eq]
      have h3 : 2 ^ m.log2 ≤ m := Nat.log2_self_le hm
      have h4 : 2 ^ m.log2 * 2 ^ more ≤ m * 2 ^ more := Nat.mul_le_mul_right _ h3
      rw [← Nat.pow_add] at h4
      have h5 : 2 ^ 108 ≤ 2 ^ (m.log2 + more) := Nat.pow_le_pow_right (by decide) (by omega)
      omega
    have h6 : (2 : Nat) ^ 53 * 2 ^ 53 = 2 ^ 106 := by rw [← Nat.pow_add]
    have h7 : (2 : Nat) ^ 106 < 2 ^ 108 := by decide
    omega
  · generalize Ieee.Datum.rootFrom n (n.log2 / 2 + 1) 0 = w at *
    have e1 : p2 ((i - more) / 2) * p2 ((i - more) / 2) = p2 (i - more) := by
      rw [← p2_add]; congr 1; omega
    rw [e1, ← p2_shift i more]
    have h1 : ((w * w : Nat) : Rat) ≤ ((m * 2 ^ more : Nat) : Rat) := Rat.natCast_le_natCast.2 (by rw [← Nat.shiftLeft_eq, ← hn]; exact s1)
    rw [Rat.natCast_mul, Rat.natCast_mul] at h1
    have := Rat.mul_le_mul_of_nonneg_right h1 (p2_nonneg (i - more))
    grind

theorem sq_le {a b : Rat} (hb : 0 ≤ b) (h : a * a ≤ b * b) : a ≤ b := by
  apply Decidable.byContradiction
  intro hc
  have hab : b < a := Rat.not_le.1 hc
  have h1 : b * b ≤ b * a := Rat.mul_le_mul_of_nonneg_left (Rat.le_of_lt hab) hb
  have h2 : b * a < a * a := Rat.mul_lt_mul_of_pos_right hab (by grind)
  grind

/-- THE SQUARE ROOT OF A NUMBER THAT IS AT MOST A SQUARE. -/
theorem sqrt_ok {x : Nat} (hx : fin .f64 x) (h0 : 0 ≤ val .f64 x) (t : Rat) (ht : 0 ≤ t) (htt : val .f64 x ≤ t * t) (hb : t < p2 1000) :
    ∃ r, Ieee.double.sqrt x = some r ∧ fin .f64 r ∧ (val .f64 r).abs ≤ t + p2 (-50) * t + p2 (-1075) := by
  obtain ⟨s, m, i, ex⟩ := fin_form hx
  have ht2 : 0 ≤ p2 (-50) * t := Rat.mul_nonneg (p2_nonneg _) ht
  have ht3 := p2_nonneg (-1075)
  have ex' : Ieee.double.read x = .number s m i := ex
  by_cases hm : m = 0
  · subst hm
    have hz : ((0 : Nat) : Rat) * p2 i < p2 (top .f64) := by
      have := p2_pos (top .f64)
      simp
      exact this
    obtain ⟨w1, w2, w3⟩ := write_ok .f64 s 0 i hz
    refine ⟨Ieee.double.write (.number s 0 i), ?_, w1, ?_⟩
    · unfold Ieee.Format.sqrt
      rw [ex']
      simp [Ieee.Datum.root]
    · have e : val .f64 (Ieee.double.write (.number s 0 i)) = 0 := by
        have hz0 : sgn s (((0 : Nat) : Rat) * p2 i) = 0 := by cases s <;> simp [sgn]
        have : Rep .f64 (sgn s (((0 : Nat) : Rat) * p2 i)) := by
          rw [hz0]
          exact ⟨false, 0, -1074, by decide, by decide, by simp [sgn]⟩
        have := write_exact hz this
        rw [hz0] at this
        exact this
      rw [e, abs_le]
      grind
  · have hs : s = false := by
      cases s
      · rfl
      · unfold val at h0
        rw [ex] at h0
        have : 0 < (m : Rat) * p2 i := Rat.mul_pos (Rat.natCast_pos.2 (Nat.pos_of_ne_zero hm)) (p2_pos _)
        simp only [dval, sgn, if_true] at h0
        grind
    subst hs
    obtain ⟨w, st, q, hr, hst, hw, hwq⟩ := root_number m i hm
    have hv : val .f64 x = (m : Rat) * p2 i := by unfold val; rw [ex]; rfl
    rw [hv] at htt
    have hp := p2_pos q
    have hwt : (w : Rat) * p2 q ≤ t := by
      refine sq_le ht ?_
      have : (w : Rat) * p2 q * ((w : Rat) * p2 q) = (w : Rat) * w * (p2 q * p2 q) := by grind
      rw [this]
      exact Rat.le_trans hwq htt
    have h53 : ((2 ^ 53 : Nat) : Rat) * p2 q ≤ t := Rat.le_trans (Rat.mul_le_mul_of_nonneg_right (Rat.natCast_le_natCast.2 hw) (Rat.le_of_lt hp)) hwt
    have hpq : p2 q ≤ p2 (-53) * t := by
      have h1 := Rat.mul_le_mul_of_nonneg_left h53 (p2_nonneg (-53))
      rw [← p2_nat] at h1
      have h2 : p2 (-53) * (p2 ((53 : Nat) : Int) * p2 q) = p2 q := by
        rw [← Rat.mul_assoc, ← p2_add]
        show p2 0 * p2 q = p2 q
        rw [p2_zero, Rat.one_mul]
      rw [h2] at h1
      exact h1
    have he : ((2 * w + st : Nat) : Rat) * p2 (q - 1) = (w : Rat) * p2 q + (st : Rat) * p2 (q - 1) := by
      have h2 : p2 q = 2 * p2 (q - 1) := by rw [← p2_succ]; congr 1; omega
      rw [Rat.natCast_add, Rat.natCast_mul, show ((2 : Nat) : Rat) = 2 from rfl, h2]
      grind
    have hstq : (st : Rat) * p2 (q - 1) ≤ p2 q := by
      have h1 : (st : Rat) ≤ ((1 : Nat) : Rat) := Rat.natCast_le_natCast.2 hst
      have h2 := Rat.mul_le_mul_of_nonneg_right h1 (p2_nonneg (q - 1))
      have h3 := p2_mono (show q - 1 ≤ q by omega)
      rw [show ((1 : Nat) : Rat) = 1 from rfl] at h2
      grind
    have hst0 : (0 : Rat) ≤ (st : Rat) * p2 (q - 1) := Rat.mul_nonneg Rat.natCast_nonneg (p2_nonneg _)
    have hw0 : (0 : Rat) ≤ (w : Rat) * p2 q := Rat.mul_nonneg Rat.natCast_nonneg (Rat.le_of_lt hp)
    have hsmall : p2 (-53) * t ≤ t := by
      have := Rat.mul_le_mul_of_nonneg_right (p2_mono (show (-53 : Int) ≤ 0 by decide)) ht
      rw [p2_zero] at this
      grind
    have h1000 : 2 * p2 1000 = p2 1001 := (p2_succ 1000).symm
    have hlt : ((2 * w + st : Nat) : Rat) * p2 (q - 1) < p2 (top .f64) := by
      rw [he]
      have := p2_mono (show (1001 : Int) ≤ top .f64 by decide)
      grind
    obtain ⟨w1, w2, right⟩ := write_ok .f64 false _ _ hlt
    refine ⟨FloatKind.f64.format.write (.number false (2 * w + st) (q - 1)), ?_, w1, ?_⟩
    · unfold Ieee.Format.sqrt
      rw [ex']
      show ((Ieee.Datum.number false m i).root 54).map _ = _
      rw [hr]
      rfl
    · unfold Rd at w2
      have e : sgn false (((2 * w + st : Nat) : Rat) * p2 (q - 1)) = ((2 * w + st : Nat) : Rat) * p2 (q - 1) := rfl
      rw [e, he] at w2
      rw [Rat.abs_of_nonneg (show 0 ≤ (w : Rat) * p2 q + (st : Rat) * p2 (q - 1) by grind), abs_le] at w2
      -- the root is not below 0: it is rounded from a number that is not
      have hU : U .f64 = p2 (-53) := rfl
      have hT : T .f64 = p2 (-1075) := rfl
      rw [hU, hT] at w2
      have hxx : p2 (-53) * ((w : Rat) * p2 q + (st : Rat) * p2 (q - 1)) ≤ p2 (-53) * (2 * t) := Rat.mul_le_mul_of_nonneg_left (by grind) (p2_nonneg _)
      have h50 : p2 (-50) = 8 * p2 (-53) := by
        have a := p2_succ (-53)
        have b := p2_succ (-52)
        have c := p2_succ (-51)
        have a' : p2 (-52) = 2 * p2 (-53) := a
        have b' : p2 (-51) = 2 * p2 (-52) := b
        have c' : p2 (-50) = 2 * p2 (-51) := c
        grind
      have e8 : p2 (-50) * t = 8 * (p2 (-53) * t) := by rw [h50]; grind
      have e9 : p2 (-53) * (2 * t) = 2 * (p2 (-53) * t) := by grind
      rw [abs_le, e8]
      rw [e9] at hxx
      generalize val .f64 (FloatKind.f64.format.write (Ieee.Datum.number false (2 * w + st) (q - 1))) = v at *
      clear right
      generalize p2 (-53) * ((w : Rat) * p2 q + (st : Rat) * p2 (q - 1)) = g at *
      generalize p2 (-53) * t = g2 at *
      grind

/-- A quotient by 1. -/
theorem quo_one {x : Nat} (hx : fin .f64 x) (h : (val .f64 x).abs < p2 1023) :
    ∃ r, floatBits .quo .f64 x 4607182418800017408 = some r ∧ fin .f64 r ∧ val .f64 r = val .f64 x := by
  obtain ⟨s, m, i, ex⟩ := fin_form hx
  have ey : FloatKind.f64.format.read 4607182418800017408 = .number false (2 ^ 52) (-52) := by decide
  obtain ⟨q, b, hq, x', x0, hx1, _, hx3⟩ := quo_number .f64 s false m (2 ^ 52) i (-52) (by decide)
  have hone : ((2 ^ 52 : Nat) : Rat) * p2 (-52) = 1 := by
    rw [← p2_nat, ← p2_add]; exact p2_zero
  rw [hone, Rat.mul_one] at hx1
  have hv : val .f64 x = sgn s x' := by unfold val; rw [ex, hx1]; rfl
  -- the quotient is written exactly: no digit is lost
  have hqx : (q : Rat) * p2 b = x' := by
    obtain ⟨d, hd⟩ : ∃ d, d = FloatKind.f64.format.fractionBits + 2 := ⟨_, rfl⟩
    have hd' : d = 54 := hd
    have hb := (read_bounds (by decide) ex).1
    have hb' : m < 2 ^ 53 := hb
    have hmq : (Ieee.Datum.number s m i).quotient (FloatKind.f64.format.fractionBits + 2) (.number false (2 ^ 52) (-52)) =
        some (.number (s ^^ false) (2 * (m <<< (54 + 52 - m.log2) / 2 ^ 52) + (m <<< (54 + 52 - m.log2) % 2 ^ 52 != 0).toNat) (i - -52 - ((54 + 52 - m.log2 : Nat) : Int) - 1)) := by
      simp only [Ieee.Datum.quotient]
      rw [if_neg (by decide), show ((2 : Nat) ^ 52).log2 = 52 by decide, ← hd, hd']
    rw [hmq] at hq
    injection hq with hq
    injection hq with _ hq1 hq2
    have hlog : m.log2 ≤ 53 := by
      by_cases h0 : m = 0
      · subst h0; decide
      · have := (Nat.log2_lt h0).2 hb'; omega
    obtain ⟨c, hc⟩ : ∃ c, 54 + 52 - m.log2 = c + 52 := ⟨54 - m.log2, by omega⟩
    have hsh : m <<< (54 + 52 - m.log2) = (m * 2 ^ c) * 2 ^ 52 := by
      rw [hc, Nat.shiftLeft_eq, Nat.pow_add, Nat.mul_assoc]
    rw [hsh, Nat.mul_div_cancel _ (by decide), Nat.mul_mod_left] at hq1
    rw [← hq1, ← hq2, hx1, hc]
    simp only [bne_self_eq_false, Bool.toNat_false, Nat.add_zero]
    rw [Rat.natCast_mul, Rat.natCast_mul, show ((2 : Nat) : Rat) = 2 from rfl]
    have h1 : 2 * p2 (i - -52 - ((c + 52 : Nat) : Int) - 1) = p2 (i - c) := by
      rw [← p2_succ]; congr 1; omega
    have h2 := p2_shift i c
    grind
  have hrep : Rep .f64 (sgn (s ^^ false) ((q : Rat) * p2 b)) := by
    rw [hqx, Bool.xor_false, ← hv]
    exact val_rep hx
  have hlt : (q : Rat) * p2 b < p2 (top .f64) := by
    rw [hqx]
    rw [hv, abs_sgn, Rat.abs_of_nonneg x0] at h
    exact h
  obtain ⟨w1, w2, _⟩ := write_ok .f64 (s ^^ false) q b hlt
  refine ⟨_, ?_, w1, ?_⟩
  · show FloatKind.f64.format.div x 4607182418800017408 = _
    unfold Ieee.Format.div
    rw [ex, ey, hq]
    rfl
  · rw [write_exact hlt hrep, hqx, Bool.xor_false, hv]

end Go.Proofs.Ytdpogmibahaklaa
