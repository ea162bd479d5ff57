/- What the rounding of Ieee's formats gives, as bounds on rational numbers: the word nearest to a number differs from it by at most half a unit in the last place. -/
import Ieee.Arith
set_option linter.unusedVariables false
set_option linter.unusedSimpArgs false
namespace Go.Proofs.Ytdpogmibahaklaa

/-! ### Powers of two -/
def p2 (e : Int) : Rat := (2 : Rat) ^ e
theorem two_ne : (2 : Rat) ≠ 0 := by decide
theorem p2_add (a b : Int) : p2 (a + b) = p2 a * p2 b := Rat.zpow_add two_ne a b
theorem p2_pos (e : Int) : 0 < p2 e := Rat.zpow_pos (by decide)
theorem p2_nonneg (e : Int) : 0 ≤ p2 e := Rat.le_of_lt (p2_pos e)
theorem p2_zero : p2 0 = 1 := Rat.zpow_zero 2
theorem p2_nat (n : Nat) : p2 (n : Int) = ((2 ^ n : Nat) : Rat) := by
  unfold p2
  rw [Rat.zpow_natCast, Rat.natCast_pow]
  rfl
theorem p2_succ (e : Int) : p2 (e + 1) = 2 * p2 e := by
  rw [p2_add, show p2 1 = 2 from Rat.zpow_one 2, Rat.mul_comm]
theorem p2_le_of_nat (n : Nat) : 1 ≤ p2 (n : Int) := by
  rw [p2_nat]
  have : 1 ≤ 2 ^ n := Nat.one_le_two_pow
  exact Rat.natCast_le_natCast.2 this
theorem p2_mono {a b : Int} (h : a ≤ b) : p2 a ≤ p2 b := by
  obtain ⟨n, rfl⟩ : ∃ n : Nat, b = a + n := ⟨(b - a).toNat, by omega⟩
  rw [p2_add]
  have h1 := p2_le_of_nat n
  have h2 := p2_nonneg a
  have := Rat.mul_le_mul_of_nonneg_left h1 h2
  simpa using this
theorem p2_shift (e : Int) (n : Nat) : p2 (e - n) * ((2 ^ n : Nat) : Rat) = p2 e := by
  rw [← p2_nat, ← p2_add]
  congr 1
  omega

/-! ### The cut to a whole number, to the nearest -/
theorem cut_even (neg : Bool) (n drop : Nat) :
    2 * (Ieee.Toward.even.cut neg n drop * 2 ^ drop) ≤ 2 * n + 2 ^ drop ∧ 2 * n ≤ 2 * (Ieee.Toward.even.cut neg n drop * 2 ^ drop) + 2 ^ drop := by
  unfold Ieee.Toward.cut
  dsimp only
  rw [Nat.one_shiftLeft]
  by_cases hd : drop ≤ n.log2 + 2
  · rw [Nat.min_eq_left hd]
    have hg : 0 < 2 ^ drop := Nat.two_pow_pos _
    generalize hgd : 2 ^ drop = g at *
    have hdm := Nat.div_add_mod n g
    have hlt := Nat.mod_lt n hg
    generalize hq : n / g = q at *
    generalize hr : n % g = r at *
    have hqg : (q + 1) * g = g * q + g := by rw [Nat.add_mul, Nat.mul_comm]; omega
    have hq0 : q * g = g * q := Nat.mul_comm _ _
    by_cases h1 : g < 2 * r
    · simp only [h1, decide_true, Bool.true_or, Bool.toNat_true]
      rw [hqg]
      omega
    · by_cases h2 : (g == 2 * r && q % 2 == 1) = true
      · simp only [h1, h2, decide_false, Bool.false_or, Bool.toNat_true]
        rw [hqg]
        simp only [Bool.and_eq_true, beq_iff_eq] at h2
        omega
      · have h2' : (g == 2 * r && q % 2 == 1) = false := by simpa using h2
        simp only [h1, h2', decide_false, Bool.false_or, Bool.toNat_false, Nat.add_zero]
        rw [hq0]
        omega
  · have hd' : n.log2 + 2 ≤ drop := by omega
    rw [Nat.min_eq_right hd']
    have hlt : n < 2 ^ (n.log2 + 1) := Nat.lt_log2_self
    have h2 : 2 ^ (n.log2 + 2) = 2 * 2 ^ (n.log2 + 1) := by rw [Nat.pow_succ, Nat.mul_comm]
    have h3 : n / 2 ^ (n.log2 + 2) = 0 := Nat.div_eq_of_lt (by omega)
    have h4 : n % 2 ^ (n.log2 + 2) = n := Nat.mod_eq_of_lt (by omega)
    have h5 : 2 ^ (n.log2 + 2) ≤ 2 ^ drop := Nat.pow_le_pow_right (by decide) hd'
    rw [h3, h4]
    have h6 : ¬ 2 ^ (n.log2 + 2) < 2 * n := by omega
    simp only [h6, decide_false, Bool.false_or, Nat.zero_mod, Nat.reduceBEq, Bool.and_false, Bool.toNat_false, Nat.add_zero, Nat.zero_mul, Nat.mul_zero, Nat.zero_add]
    omega
theorem cut_zero (neg : Bool) (n : Nat) : Ieee.Toward.even.cut neg n 0 = n := by
  have := cut_even neg n 0
  simp only [Nat.pow_zero, Nat.mul_one] at this
  omega
theorem cut_dvd (neg : Bool) (q drop : Nat) : Ieee.Toward.even.cut neg (q * 2 ^ drop) drop = q := by
  have h1 := cut_even neg (q * 2 ^ drop) drop
  have hg : 0 < 2 ^ drop := Nat.two_pow_pos _
  generalize Ieee.Toward.even.cut neg (q * 2 ^ drop) drop = k at *
  generalize 2 ^ drop = g at *
  rcases Nat.lt_trichotomy k q with h | h | h
  · have : (k + 1) * g ≤ q * g := Nat.mul_le_mul_right _ h
    rw [Nat.add_mul] at this
    omega
  · exact h
  · have : (q + 1) * g ≤ k * g := Nat.mul_le_mul_right _ h
    rw [Nat.add_mul] at this
    omega
theorem cut_le (neg : Bool) (n drop b : Nat) (h : n ≤ b * 2 ^ drop) : Ieee.Toward.even.cut neg n drop ≤ b := by
  have h1 := (cut_even neg n drop).1
  have hg : 0 < 2 ^ drop := Nat.two_pow_pos _
  refine Nat.le_of_lt_succ (Nat.lt_of_mul_lt_mul_right (a := 2 ^ drop) ?_)
  rw [Nat.succ_eq_add_one, Nat.add_mul, Nat.one_mul]
  omega
theorem le_cut (neg : Bool) (n drop b : Nat) (h : b * 2 ^ drop ≤ n) : b ≤ Ieee.Toward.even.cut neg n drop := by
  have h1 := (cut_even neg n drop).2
  have hg : 0 < 2 ^ drop := Nat.two_pow_pos _
  refine Nat.le_of_lt_succ (Nat.lt_of_mul_lt_mul_right (a := 2 ^ drop) ?_)
  rw [Nat.succ_eq_add_one, Nat.add_mul, Nat.one_mul]
  omega

/-! ### The value of a datum -/
def sgn (neg : Bool) (x : Rat) : Rat := if neg then -x else x
def dval : Ieee.Datum → Rat
  | .number s m e => sgn s ((m : Rat) * p2 e)
  | _ => 0
def dfin : Ieee.Datum → Bool
  | .number .. => true
  | _ => false

/-- What a word of a sign and a rung below infinity's stands for. -/
theorem read_word (f : Ieee.Format) (neg : Bool) (rung : Nat) (h : rung < f.infRung) :
    f.read (f.word neg rung) = if rung < f.binade then .number neg rung f.leastPlace else .number neg (f.binade + rung % f.binade) (f.leastPlace + (rung / f.binade - 1 : Nat)) := by
  have hsw : f.infRung < f.signWeight := by
    have hb : 0 < f.binade := Nat.two_pow_pos _
    have : f.infRung + f.binade = f.signWeight := by
      have h : 0 < 2 ^ f.exponentBits := Nat.two_pow_pos _
      unfold Ieee.Format.infRung Ieee.Format.signWeight
      rw [Nat.pow_add, ← Nat.succ_mul]
      exact congrArg (· * f.binade) (by omega)
    omega
  have hlt : rung < f.signWeight := by omega
  have h1 : f.word neg rung % f.signWeight = rung := by
    unfold Ieee.Format.word
    split
    · rw [Nat.add_mod_left, Nat.mod_eq_of_lt hlt]
    · exact Nat.mod_eq_of_lt hlt
  have h2 : (f.word neg rung / f.signWeight % 2 == 1) = neg := by
    have hp : 0 < f.signWeight := by omega
    unfold Ieee.Format.word
    cases neg
    · simp only [Bool.false_eq_true, if_false]
      rw [Nat.div_eq_of_lt hlt]
      rfl
    · simp only [if_true]
      rw [Nat.add_div_left _ hp, Nat.div_eq_of_lt hlt]
      rfl
  unfold Ieee.Format.read
  dsimp only
  rw [h1, h2]
  by_cases hb : rung < f.binade
  · simp only [hb, if_true]
  · simp only [hb, if_false, h, if_true]

/-- The value of a rung made of a place and of what is kept. -/
theorem read_kept (f : Ieee.Format) (neg : Bool) (L kept : Nat) (h2 : kept ≤ 2 * f.binade) (h1 : L = 0 ∨ f.binade ≤ kept) (hov : L * f.binade + kept < f.infRung) :
    dfin (f.read (f.word neg (L * f.binade + kept))) = true ∧ dval (f.read (f.word neg (L * f.binade + kept))) = sgn neg ((kept : Rat) * p2 (f.leastPlace + L)) := by
  have hb : 0 < f.binade := Nat.two_pow_pos _
  rw [read_word f neg _ hov]
  by_cases hk : kept < f.binade
  · have hL : L = 0 := by omega
    subst hL
    rw [Nat.zero_mul, Nat.zero_add, if_pos hk]
    exact ⟨rfl, by simp [dval]⟩
  · have hr : ¬ L * f.binade + kept < f.binade := by omega
    rw [if_neg hr]
    refine ⟨rfl, ?_⟩
    by_cases hk2 : kept < 2 * f.binade
    · have e1 : (L * f.binade + kept) / f.binade = L + 1 := by
        rw [show L * f.binade + kept = (L + 1) * f.binade + (kept - f.binade) by rw [Nat.add_mul]; omega]
        rw [Nat.add_comm, Nat.add_mul_div_right _ _ hb, Nat.div_eq_of_lt (by omega)]
        omega
      have e2 : (L * f.binade + kept) % f.binade = kept - f.binade := by
        rw [show L * f.binade + kept = (kept - f.binade) + (L + 1) * f.binade by rw [Nat.add_mul]; omega]
        rw [Nat.add_mul_mod_self_right, Nat.mod_eq_of_lt (by omega)]
      rw [e1, e2]
      simp only [dval]
      rw [show f.binade + (kept - f.binade) = kept by omega, show ((L + 1 - 1 : Nat) : Int) = (L : Int) by omega]
    · have hk3 : kept = 2 * f.binade := by omega
      have e1 : (L * f.binade + kept) / f.binade = L + 2 := by
        rw [hk3, ← Nat.add_mul, Nat.mul_div_cancel _ hb]
      have e2 : (L * f.binade + kept) % f.binade = 0 := by
        rw [hk3, ← Nat.add_mul, Nat.mul_mod_left]
      rw [e1, e2]
      simp only [dval, Nat.add_zero]
      rw [show ((L + 2 - 1 : Nat) : Int) = (L : Int) + 1 by omega, ← Int.add_assoc, p2_succ, hk3, Rat.natCast_mul]
      congr 1
      rw [show ((2 : Nat) : Rat) = 2 from rfl]
      grind

/-- THE WORD NEAREST TO A NUMBER: finite, and at most half a unit away. -/
theorem nearest_ok (f : Ieee.Format) (neg : Bool) (mag : Nat) (place B : Int) (hB : B + 2 < 2 ^ f.exponentBits + f.fractionBits + f.leastPlace) (hB2 : 3 < 2 ^ f.exponentBits) (hx : (mag : Rat) * p2 place < p2 B) :
    dfin (f.read (f.nearest neg mag place)) = true ∧ ∃ y : Rat, dval (f.read (f.nearest neg mag place)) = sgn neg y ∧
      y ≤ mag * p2 place + p2 (-f.fractionBits - 1) * (mag * p2 place) + p2 (f.leastPlace - 1) ∧
      mag * p2 place ≤ y + p2 (-f.fractionBits - 1) * (mag * p2 place) + p2 (f.leastPlace - 1) ∧
      (∀ m0 c : Nat, mag = m0 * 2 ^ c → m0 < 2 ^ (f.fractionBits + 1) → f.leastPlace ≤ place + c → y = mag * p2 place) := by
  have hb : 0 < f.binade := Nat.two_pow_pos _
  have hi : 0 < f.infRung := by
    unfold Ieee.Format.infRung
    exact Nat.mul_pos (by omega) hb
  unfold Ieee.Format.nearest
  by_cases hm : mag = 0
  · subst hm
    simp only [if_true]
    rw [read_word f neg 0 hi, if_pos hb]
    have a1 := p2_nonneg (f.leastPlace - 1)
    refine ⟨rfl, 0, ?_, ?_, ?_, ?_⟩
    · simp [dval]
    · simp; grind
    · simp; grind
    · simp
  · rw [if_neg hm]
    dsimp only
    generalize hlast : max (place + (mag.log2 : Int) - (f.fractionBits : Int)) f.leastPlace = last
    have hl1 : f.leastPlace ≤ last := by rw [← hlast]; exact Int.le_max_right _ _
    have hl2 : place + mag.log2 - f.fractionBits ≤ last := by rw [← hlast]; exact Int.le_max_left _ _
    have hl3 : last = f.leastPlace ∨ last = place + mag.log2 - f.fractionBits := by omega
    obtain ⟨L, hL⟩ : ∃ L : Nat, last = f.leastPlace + L := ⟨(last - f.leastPlace).toNat, by omega⟩
    have hL' : (last - f.leastPlace).toNat = L := by omega
    rw [hL', Nat.shiftLeft_eq]
    generalize hup : (place - last).toNat = up
    generalize hdr : (last - place).toNat = drop
    have hpl : place - up = last - drop := by omega
    have hmlo : 2 ^ mag.log2 ≤ mag := Nat.log2_self_le hm
    have hmhi : mag < 2 ^ (mag.log2 + 1) := Nat.lt_log2_self
    -- the number, as a whole number of units
    have hxe : (mag : Rat) * p2 place = ((mag * 2 ^ up : Nat) : Rat) * p2 (last - drop) := by
      rw [← hpl, Rat.natCast_mul]
      have := p2_shift place up
      grind
    have hbig : place + mag.log2 < B := by
      apply Decidable.byContradiction
      intro hc
      have h1 : p2 B ≤ p2 (place + mag.log2) := p2_mono (by omega)
      have h2 : p2 (place + mag.log2) ≤ mag * p2 place := by
        rw [p2_add, p2_nat, Rat.mul_comm]
        exact Rat.mul_le_mul_of_nonneg_right (Rat.natCast_le_natCast.2 hmlo) (p2_nonneg _)
      grind
    have hklt : mag * 2 ^ up ≤ 2 * f.binade * 2 ^ drop := by
      unfold Ieee.Format.binade
      have h1 : mag * 2 ^ up ≤ 2 ^ (mag.log2 + 1) * 2 ^ up := Nat.mul_le_mul_right _ (Nat.le_of_lt hmhi)
      have h2 : 2 ^ (mag.log2 + 1) * 2 ^ up = 2 ^ (mag.log2 + 1 + up) := (Nat.pow_add ..).symm
      have h3 : 2 * 2 ^ f.fractionBits * 2 ^ drop = 2 ^ (f.fractionBits + 1 + drop) := by
        rw [Nat.pow_add, Nat.pow_succ, Nat.mul_comm (2 ^ f.fractionBits) 2]
      have h4 : 2 ^ (mag.log2 + 1 + up) ≤ 2 ^ (f.fractionBits + 1 + drop) := Nat.pow_le_pow_right (by decide) (by omega)
      omega
    have hkeptU := cut_le neg (mag * 2 ^ up) drop (2 * f.binade) hklt
    have hkeptL : L = 0 ∨ f.binade ≤ Ieee.Toward.even.cut neg (mag * 2 ^ up) drop := by
      rcases hl3 with h | h
      · left; omega
      · right
        refine le_cut neg _ _ _ ?_
        unfold Ieee.Format.binade
        have h1 : 2 ^ mag.log2 * 2 ^ up ≤ mag * 2 ^ up := Nat.mul_le_mul_right _ hmlo
        have h2 : 2 ^ mag.log2 * 2 ^ up = 2 ^ (mag.log2 + up) := (Nat.pow_add ..).symm
        have h3 : 2 ^ f.fractionBits * 2 ^ drop = 2 ^ (f.fractionBits + drop) := (Nat.pow_add ..).symm
        have h4 : 2 ^ (f.fractionBits + drop) ≤ 2 ^ (mag.log2 + up) := Nat.pow_le_pow_right (by decide) (by omega)
        omega
    have hkc := cut_even neg (mag * 2 ^ up) drop
    have hkz : ∀ q, mag * 2 ^ up = q * 2 ^ drop → Ieee.Toward.even.cut neg (mag * 2 ^ up) drop = q := by
      intro q h
      rw [h]
      exact cut_dvd _ _ _
    generalize Ieee.Toward.even.cut neg (mag * 2 ^ up) drop = kept at *
    have hrung : L * f.binade + kept < f.infRung := by
      unfold Ieee.Format.infRung
      have h1 : L + 2 < 2 ^ f.exponentBits - 1 := by
        have : ((2 ^ f.exponentBits : Nat) : Int) = 2 ^ f.exponentBits := by simp
        rcases hl3 with h | h <;> omega
      have h2 : (L + 2) * f.binade < (2 ^ f.exponentBits - 1) * f.binade := Nat.mul_lt_mul_of_pos_right h1 hb
      rw [Nat.add_mul] at h2
      omega
    rw [Nat.min_eq_left (Nat.le_of_lt hrung)]
    obtain ⟨r1, r2⟩ := read_kept f neg L kept hkeptU hkeptL hrung
    refine ⟨r1, (kept : Rat) * p2 last, by rw [r2, hL], ?_⟩
    -- the error
    have hlast2 : p2 last = ((2 ^ drop : Nat) : Rat) * p2 (last - drop) := by
      have := p2_shift last drop
      grind
    have hu := p2_nonneg (last - drop)
    have k1 : (2 : Rat) * (kept * p2 last) ≤ 2 * (mag * p2 place) + p2 last := by
      rw [hxe, hlast2]
      have h := Rat.natCast_le_natCast.2 hkc.1
      simp only [Rat.natCast_mul, Rat.natCast_add] at h ⊢
      have := Rat.mul_le_mul_of_nonneg_right h hu
      have e2 : ((2 : Nat) : Rat) = 2 := rfl
      rw [e2] at this
      grind
    have k2 : (2 : Rat) * (mag * p2 place) ≤ 2 * (kept * p2 last) + p2 last := by
      rw [hxe, hlast2]
      have h := Rat.natCast_le_natCast.2 hkc.2
      simp only [Rat.natCast_mul, Rat.natCast_add] at h ⊢
      have := Rat.mul_le_mul_of_nonneg_right h hu
      have e2 : ((2 : Nat) : Rat) = 2 := rfl
      rw [e2] at this
      grind
    have hulp : p2 last ≤ 2 * (p2 (-f.fractionBits - 1) * (mag * p2 place)) + 2 * p2 (f.leastPlace - 1) := by
      have e1 : 2 * p2 (f.leastPlace - 1) = p2 f.leastPlace := by
        rw [← p2_succ]; congr 1; omega
      have e2 : 2 * p2 (-f.fractionBits - 1) = p2 (-f.fractionBits) := by
        rw [← p2_succ]; congr 1; omega
      have hx0 : 0 ≤ (mag : Rat) * p2 place := Rat.mul_nonneg Rat.natCast_nonneg (p2_nonneg _)
      rcases hl3 with h | h
      · rw [h, e1]
        have := Rat.mul_nonneg (p2_nonneg (-f.fractionBits - 1)) hx0
        grind
      · have h2 : p2 (place + mag.log2) ≤ mag * p2 place := by
          rw [p2_add, p2_nat, Rat.mul_comm]
          exact Rat.mul_le_mul_of_nonneg_right (Rat.natCast_le_natCast.2 hmlo) (p2_nonneg _)
        have h3 : p2 last = p2 (-f.fractionBits) * p2 (place + mag.log2) := by
          rw [← p2_add, h]; congr 1; omega
        rw [e1, h3]
        have h4 := Rat.mul_le_mul_of_nonneg_left h2 (p2_nonneg (-f.fractionBits))
        have h5 := p2_nonneg f.leastPlace
        rw [← e2] at h4 ⊢
        grind
    refine ⟨by grind, by grind, ?_⟩
    intro m0 c hm0 hm1 hm2
    have hm00 : m0 ≠ 0 := by
      intro h
      subst h
      simp at hm0
      exact hm hm0
    have hlog : mag.log2 = m0.log2 + c := by
      rw [Nat.log2_eq_iff hm, hm0]
      have h1 := Nat.log2_self_le hm00
      have h2 : m0 < 2 ^ (m0.log2 + 1) := Nat.lt_log2_self
      refine ⟨?_, ?_⟩
      · rw [Nat.pow_add]; exact Nat.mul_le_mul_right _ h1
      · rw [show m0.log2 + c + 1 = (m0.log2 + 1) + c by omega, Nat.pow_add]
        exact Nat.mul_lt_mul_of_pos_right h2 (Nat.two_pow_pos _)
    have hd0 : drop ≤ c := by
      have : m0.log2 < f.fractionBits + 1 := (Nat.log2_lt hm00).2 hm1
      omega
    have hq : mag * 2 ^ up = (m0 * 2 ^ (c - drop + up)) * 2 ^ drop := by
      rw [hm0, Nat.mul_assoc, Nat.mul_assoc, ← Nat.pow_add, ← Nat.pow_add]
      congr 2
      omega
    have hkq := hkz _ hq
    subst hkq
    rw [hxe, hq, hlast2, Rat.natCast_mul]
    grind

end Go.Proofs.Ytdpogmibahaklaa
