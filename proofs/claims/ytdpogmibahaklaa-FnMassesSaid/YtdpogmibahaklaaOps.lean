/- The operations on single numbers, as bounds on rational numbers: each gives a number, at most half a unit away from the exact result. -/
import Derived.Test.YtdpogmibahaklaaRnd
import Derived.Laws.FloatArith
set_option linter.unusedVariables false
set_option linter.unusedSimpArgs false
namespace Go.Proofs.Ytdpogmibahaklaa

/-! ### Absolute values -/
theorem abs_le {x M : Rat} : x.abs ≤ M ↔ -M ≤ x ∧ x ≤ M := by
  by_cases h : 0 ≤ x
  · rw [Rat.abs_of_nonneg h]; grind
  · rw [Rat.abs_of_nonpos (by grind)]; grind
theorem abs_lt {x M : Rat} : x.abs < M ↔ -M < x ∧ x < M := by
  by_cases h : 0 ≤ x
  · rw [Rat.abs_of_nonneg h]; grind
  · rw [Rat.abs_of_nonpos (by grind)]; grind
theorem abs_cases (x : Rat) : (0 ≤ x ∧ x.abs = x) ∨ (x < 0 ∧ x.abs = -x) := by
  by_cases h : 0 ≤ x
  · exact .inl ⟨h, Rat.abs_of_nonneg h⟩
  · exact .inr ⟨by grind, Rat.abs_of_nonpos (by grind)⟩
theorem abs_sgn (s : Bool) (x : Rat) : (sgn s x).abs = x.abs := by
  unfold sgn
  split
  · exact Rat.abs_neg
  · rfl
theorem abs_mul (x y : Rat) : (x * y).abs = x.abs * y.abs := by
  rcases abs_cases x with ⟨hx, ex⟩ | ⟨hx, ex⟩ <;> rcases abs_cases y with ⟨hy, ey⟩ | ⟨hy, ey⟩ <;> rw [ex, ey]
  · exact Rat.abs_of_nonneg (Rat.mul_nonneg hx hy)
  · have := Rat.mul_nonneg hx (show 0 ≤ -y by grind)
    rw [Rat.abs_of_nonpos (by grind)]; grind
  · have := Rat.mul_nonneg (show 0 ≤ -x by grind) hy
    rw [Rat.abs_of_nonpos (by grind)]; grind
  · have := Rat.mul_nonneg (show 0 ≤ -x by grind) (show 0 ≤ -y by grind)
    rw [Rat.abs_of_nonneg (by grind)]; grind
theorem abs_add (x y : Rat) : (x + y).abs ≤ x.abs + y.abs := by
  rcases abs_cases x with ⟨hx, ex⟩ | ⟨hx, ex⟩ <;> rcases abs_cases y with ⟨hy, ey⟩ | ⟨hy, ey⟩ <;> rw [ex, ey, abs_le] <;> grind

/-! ### Finite words, and what they stand for -/
def fin (k : FloatKind) (x : Nat) : Prop := dfin (k.format.read x) = true
def val (k : FloatKind) (x : Nat) : Rat := dval (k.format.read x)
def top : FloatKind → Int
  | .f32 => 127
  | .f64 => 1023
def U : FloatKind → Rat
  | .f32 => p2 (-24)
  | .f64 => p2 (-53)
def T : FloatKind → Rat
  | .f32 => p2 (-150)
  | .f64 => p2 (-1075)
theorem U_nonneg (k : FloatKind) : 0 ≤ U k := by cases k <;> exact p2_nonneg _
theorem T_nonneg (k : FloatKind) : 0 ≤ T k := by cases k <;> exact p2_nonneg _

/-- v is x, rounded: at most half a unit away. -/
def Rd (k : FloatKind) (v x : Rat) : Prop := (v - x).abs ≤ U k * x.abs + T k

theorem fin_form {k : FloatKind} {x : Nat} (h : fin k x) : ∃ s m e, k.format.read x = .number s m e := by
  unfold fin at h
  generalize k.format.read x = d at *
  cases d with
  | number s m e => exact ⟨s, m, e, rfl⟩
  | infinity s => cases h
  | nan s f => cases h

/-- The exact number is written: the word. -/
theorem write_ok (k : FloatKind) (neg : Bool) (mag : Nat) (place : Int) (h : (mag : Rat) * p2 place < p2 (top k)) :
    fin k (k.format.write (.number neg mag place)) ∧ Rd k (val k (k.format.write (.number neg mag place))) (sgn neg (mag * p2 place)) ∧
      (∀ m0 c : Nat, mag = m0 * 2 ^ c → m0 < 2 ^ (k.format.fractionBits + 1) → k.format.leastPlace ≤ place + c → val k (k.format.write (.number neg mag place)) = sgn neg (mag * p2 place)) := by
  have hx0 : 0 ≤ (mag : Rat) * p2 place := Rat.mul_nonneg Rat.natCast_nonneg (p2_nonneg _)
  have key : ∀ y : Rat, y ≤ mag * p2 place + U k * (mag * p2 place) + T k → mag * p2 place ≤ y + U k * (mag * p2 place) + T k → Rd k (sgn neg y) (sgn neg (mag * p2 place)) := by
    intro y h1 h2
    unfold Rd
    rw [abs_sgn, Rat.abs_of_nonneg hx0]
    have : (sgn neg y - sgn neg (mag * p2 place)) = sgn neg (y - mag * p2 place) := by
      unfold sgn; split <;> grind
    rw [this, abs_sgn, abs_le]
    grind
  cases k with
  | f32 =>
    obtain ⟨h1, y, h2, h3, h4, h5⟩ := nearest_ok Ieee.single neg mag place 127 (by decide) (by decide) h
    refine ⟨h1, ?_, ?_⟩
    · show Rd _ (dval (Ieee.single.read (Ieee.single.nearest neg mag place))) _
      rw [h2]
      exact key y h3 h4
    · intro m0 c a b d
      show dval (Ieee.single.read (Ieee.single.nearest neg mag place)) = _
      rw [h2, h5 m0 c a b d]
  | f64 =>
    obtain ⟨h1, y, h2, h3, h4, h5⟩ := nearest_ok Ieee.double neg mag place 1023 (by decide) (by decide) h
    refine ⟨h1, ?_, ?_⟩
    · show Rd _ (dval (Ieee.double.read (Ieee.double.nearest neg mag place))) _
      rw [h2]
      exact key y h3 h4
    · intro m0 c a b d
      show dval (Ieee.double.read (Ieee.double.nearest neg mag place)) = _
      rw [h2, h5 m0 c a b d]

/-- x is among the format's numbers. -/
def Rep (k : FloatKind) (x : Rat) : Prop := ∃ (s : Bool) (m0 : Nat) (e0 : Int), m0 < 2 ^ (k.format.fractionBits + 1) ∧ k.format.leastPlace ≤ e0 ∧ x = sgn s ((m0 : Rat) * p2 e0)

theorem p2_ne (e : Int) : p2 e ≠ 0 := by have := p2_pos e; grind

theorem nat_cancel {a b : Nat} {e : Int} (h : (a : Rat) * p2 e = (b : Rat) * p2 e) : a = b := by
  have h1 : (a : Rat) * p2 e * (p2 e)⁻¹ = (b : Rat) * p2 e * (p2 e)⁻¹ := by rw [h]
  rw [Rat.mul_assoc, Rat.mul_assoc, Rat.mul_inv_cancel _ (p2_ne e), Rat.mul_one, Rat.mul_one] at h1
  exact Rat.natCast_inj.1 h1

theorem write_exact {k : FloatKind} {neg : Bool} {mag : Nat} {place : Int} (h : (mag : Rat) * p2 place < p2 (top k)) (hr : Rep k (sgn neg (mag * p2 place))) :
    val k (k.format.write (.number neg mag place)) = sgn neg (mag * p2 place) := by
  obtain ⟨s, m0, e0, h1, h2, h3⟩ := hr
  have hx0 : 0 ≤ (mag : Rat) * p2 place := Rat.mul_nonneg Rat.natCast_nonneg (p2_nonneg _)
  have hy0 : 0 ≤ (m0 : Rat) * p2 e0 := Rat.mul_nonneg Rat.natCast_nonneg (p2_nonneg _)
  have he : (mag : Rat) * p2 place = (m0 : Rat) * p2 e0 := by
    have := congrArg Rat.abs h3
    rw [abs_sgn, abs_sgn, Rat.abs_of_nonneg hx0, Rat.abs_of_nonneg hy0] at this
    exact this
  obtain ⟨_, _, w3⟩ := write_ok k neg mag place h
  by_cases hc : place ≤ e0
  · refine w3 m0 (e0 - place).toNat ?_ h1 (by omega)
    refine nat_cancel (e := place) ?_
    rw [he, Rat.natCast_mul, ← p2_nat, Rat.mul_assoc, ← p2_add]
    congr 2
    omega
  · refine w3 mag 0 (by simp) ?_ (by omega)
    have : mag * 2 ^ (place - e0).toNat = m0 := by
      refine nat_cancel (e := e0) ?_
      rw [← he, Rat.natCast_mul, ← p2_nat, Rat.mul_assoc, ← p2_add]
      congr 2
      omega
    have h4 : 0 < 2 ^ (place - e0).toNat := Nat.two_pow_pos _
    have h5 : mag * 1 ≤ mag * 2 ^ (place - e0).toNat := Nat.mul_le_mul_left _ h4
    omega

theorem read_bounds {f : Ieee.Format} {x : Nat} {s : Bool} {m : Nat} {e : Int} (hf : 2 ≤ f.exponentBits) (h : f.read x = .number s m e) :
    m < 2 ^ (f.fractionBits + 1) ∧ f.leastPlace ≤ e ∧ e + 3 ≤ f.leastPlace + 2 ^ f.exponentBits := by
  have hb : 0 < f.binade := Nat.two_pow_pos _
  have h2 : 2 ^ (f.fractionBits + 1) = 2 * f.binade := by unfold Ieee.Format.binade; rw [Nat.pow_succ, Nat.mul_comm]
  have h4 : ((2 ^ f.exponentBits : Nat) : Int) = 2 ^ f.exponentBits := by simp
  have h5 : 2 ^ 2 ≤ 2 ^ f.exponentBits := Nat.pow_le_pow_right (by decide) hf
  unfold Ieee.Format.read at h
  dsimp only at h
  split at h
  · rename_i hlt
    injection h with h0 h1 h3
    subst h1; subst h3
    refine ⟨by omega, by omega, by omega⟩
  · split at h
    · rename_i hge hlt
      injection h with h0 h1 h3
      subst h1; subst h3
      have hmod := Nat.mod_lt (x % f.signWeight) hb
      have hdiv : x % f.signWeight / f.binade < 2 ^ f.exponentBits - 1 := by
        rw [Nat.div_lt_iff_lt_mul hb]
        exact hlt
      refine ⟨by omega, by omega, by omega⟩
    · split at h <;> cases h

theorem val_rep {k : FloatKind} {x : Nat} (h : fin k x) : Rep k (val k x) := by
  obtain ⟨s, m, e, he⟩ := fin_form h
  have hb := read_bounds (by cases k <;> decide) he
  refine ⟨s, m, e, hb.1, hb.2.1, ?_⟩
  unfold val
  rw [he]
  rfl

theorem sgn_int (t : Int) (b : Int) (z : Bool) (hz : t = 0 ∨ z = decide (t < 0)) : sgn z ((t.natAbs : Rat) * p2 b) = (t : Rat) * p2 b := by
  rcases Int.lt_trichotomy t 0 with h | h | h
  · have hz' : z = true := by
      rcases hz with h0 | h0
      · omega
      · rw [h0]; simp [h]
    rw [hz']
    have : ((t.natAbs : Nat) : Rat) = -(t : Rat) := by
      rw [← Rat.intCast_natCast, ← Rat.intCast_neg]
      congr 1
      omega
    simp only [sgn, if_true, this]
    grind
  · subst h
    simp [sgn]
  · have hz' : z = false := by
      rcases hz with h0 | h0
      · omega
      · rw [h0]; simp; omega
    rw [hz']
    have : ((t.natAbs : Nat) : Rat) = (t : Rat) := by
      rw [← Rat.intCast_natCast]
      congr 1
      omega
    simp [sgn, this]

theorem signed_val (s : Bool) (m up : Nat) (b : Int) : ((Ieee.signed s m up : Int) : Rat) * p2 b = sgn s ((m : Rat) * p2 (b + up)) := by
  have h : ((m <<< up : Nat) : Rat) * p2 b = (m : Rat) * p2 (b + up) := by
    rw [Nat.shiftLeft_eq, Rat.natCast_mul, ← p2_nat, p2_add]
    grind
  unfold Ieee.signed sgn
  split
  · rw [Rat.intCast_neg, Rat.intCast_natCast, ← h]
    grind
  · rw [Rat.intCast_natCast, ← h]

/-- The exact sum of two numbers, as a number. -/
theorem sum_number (s t : Bool) (m n : Nat) (i j : Int) :
    ∃ (z : Bool) (q : Nat) (b : Int), (Ieee.Datum.number s m i).sum (.number t n j) = some (.number z q b) ∧ sgn z ((q : Rat) * p2 b) = sgn s ((m : Rat) * p2 i) + sgn t ((n : Rat) * p2 j) := by
  refine ⟨_, _, _, rfl, ?_⟩
  rw [sgn_int _ _ _ (by split <;> simp_all)]
  rw [Rat.intCast_add, Rat.add_mul, signed_val, signed_val]
  congr 3
  · congr 1; omega
  · congr 1; omega

theorem abs_of_number (s : Bool) (m : Nat) (i : Int) : (sgn s ((m : Rat) * p2 i)).abs = (m : Rat) * p2 i := by
  rw [abs_sgn]
  exact Rat.abs_of_nonneg (Rat.mul_nonneg Rat.natCast_nonneg (p2_nonneg _))

theorem add_ok {k : FloatKind} {x y : Nat} (hx : fin k x) (hy : fin k y) (h : (val k x + val k y).abs < p2 (top k)) :
    ∃ r, floatBits .add k x y = some r ∧ fin k r ∧ Rd k (val k r) (val k x + val k y) ∧ (Rep k (val k x + val k y) → val k r = val k x + val k y) := by
  obtain ⟨s, m, i, ex⟩ := fin_form hx
  obtain ⟨t, n, j, ey⟩ := fin_form hy
  obtain ⟨z, q, b, hs, hv⟩ := sum_number s t m n i j
  unfold val at h ⊢
  rw [ex, ey] at h ⊢
  simp only [dval] at h ⊢
  rw [← hv] at h ⊢
  rw [abs_of_number] at h
  obtain ⟨w1, w2, _⟩ := write_ok k z q b h
  refine ⟨_, ?_, w1, w2, write_exact h⟩
  show k.format.add x y = _
  unfold Ieee.Format.add
  rw [ex, ey, hs]
  rfl

theorem sub_ok {k : FloatKind} {x y : Nat} (hx : fin k x) (hy : fin k y) (h : (val k x - val k y).abs < p2 (top k)) :
    ∃ r, floatBits .sub k x y = some r ∧ fin k r ∧ Rd k (val k r) (val k x - val k y) ∧ (Rep k (val k x - val k y) → val k r = val k x - val k y) := by
  obtain ⟨s, m, i, ex⟩ := fin_form hx
  obtain ⟨t, n, j, ey⟩ := fin_form hy
  obtain ⟨z, q, b, hs, hv⟩ := sum_number s (!t) m n i j
  have hn : sgn s ((m : Rat) * p2 i) + sgn (!t) ((n : Rat) * p2 j) = sgn s ((m : Rat) * p2 i) - sgn t ((n : Rat) * p2 j) := by
    cases t <;> simp [sgn] <;> grind
  rw [hn] at hv
  unfold val at h ⊢
  rw [ex, ey] at h ⊢
  simp only [dval] at h ⊢
  rw [← hv] at h ⊢
  rw [abs_of_number] at h
  obtain ⟨w1, w2, _⟩ := write_ok k z q b h
  refine ⟨_, ?_, w1, w2, write_exact h⟩
  show k.format.sub x y = _
  unfold Ieee.Format.sub
  rw [ex, ey]
  simp only [Ieee.Datum.opposite]
  rw [hs]
  rfl

theorem mul_number (s t : Bool) (m n : Nat) (i j : Int) : sgn (s ^^ t) (((m * n : Nat) : Rat) * p2 (i + j)) = sgn s ((m : Rat) * p2 i) * sgn t ((n : Rat) * p2 j) := by
  rw [Rat.natCast_mul, p2_add]
  cases s <;> cases t <;> simp [sgn] <;> grind

theorem mul_ok {k : FloatKind} {x y : Nat} (hx : fin k x) (hy : fin k y) (h : (val k x * val k y).abs < p2 (top k)) :
    ∃ r, floatBits .mul k x y = some r ∧ fin k r ∧ Rd k (val k r) (val k x * val k y) ∧ (Rep k (val k x * val k y) → val k r = val k x * val k y) := by
  obtain ⟨s, m, i, ex⟩ := fin_form hx
  obtain ⟨t, n, j, ey⟩ := fin_form hy
  have hv := mul_number s t m n i j
  unfold val at h ⊢
  rw [ex, ey] at h ⊢
  simp only [dval] at h ⊢
  rw [← hv] at h ⊢
  rw [abs_of_number] at h
  obtain ⟨w1, w2, _⟩ := write_ok k _ _ _ h
  refine ⟨_, ?_, w1, w2, write_exact h⟩
  show k.format.mul x y = _
  unfold Ieee.Format.mul
  rw [ex, ey]
  rfl

/-! ### From one kind to the other -/
theorem conv_ok {a b : FloatKind} (hne : a ≠ b) {x : Nat} (hx : fin a x) (h : (val a x).abs < p2 (top b)) :
    ∃ r, floatToFloatBits a x b = some r ∧ fin b r ∧ Rd b (val b r) (val a x) ∧ (Rep b (val a x) → val b r = val a x) := by
  obtain ⟨s, m, i, ex⟩ := fin_form hx
  unfold val at h ⊢
  rw [ex] at h ⊢
  simp only [dval] at h ⊢
  rw [abs_of_number] at h
  obtain ⟨w1, w2, _⟩ := write_ok b s m i h
  refine ⟨_, ?_, w1, w2, write_exact h⟩
  unfold floatToFloatBits
  rw [if_neg hne]
  have ex' : a.decode x = .number s m i := ex
  rw [ex']
  dsimp only
  have : (b.decode (b.encode (.number s m i))).isInfinity = false := by
    obtain ⟨s', m', e', h'⟩ := fin_form w1
    show (b.format.read (b.format.write (.number s m i))).isInfinity = false
    rw [h']
    rfl
  rw [this]
  rfl

theorem rep_wide {x : Rat} (h : Rep .f32 x) : Rep .f64 x := by
  obtain ⟨s, m, e, h1, h2, h3⟩ := h
  refine ⟨s, m, e, Nat.lt_trans h1 (by decide), ?_, h3⟩
  have : (-1074 : Int) ≤ -149 := by decide
  exact Int.le_trans this h2

theorem val32_lt {x : Nat} (h : fin .f32 x) : (val .f32 x).abs < p2 128 := by
  obtain ⟨s, m, e, he⟩ := fin_form h
  obtain ⟨h1, h2, h3⟩ := read_bounds (by decide) he
  have h4 : e ≤ 104 := by
    have : (-149 : Int) + 2 ^ 8 = 107 := by decide
    have : e + 3 ≤ -149 + 2 ^ 8 := h3
    omega
  have h1' : m < 2 ^ 24 := h1
  unfold val
  rw [he]
  simp only [dval]
  rw [abs_of_number]
  have a1 : (m : Rat) * p2 e ≤ (m : Rat) * p2 104 := Rat.mul_le_mul_of_nonneg_left (p2_mono h4) Rat.natCast_nonneg
  have a2 : (m : Rat) * p2 104 < ((2 ^ 24 : Nat) : Rat) * p2 104 := Rat.mul_lt_mul_of_pos_right (Rat.natCast_lt_natCast.2 h1') (p2_pos _)
  have a3 : ((2 ^ 24 : Nat) : Rat) * p2 104 = p2 128 := by rw [← p2_nat, ← p2_add]; rfl
  grind

theorem p2_lt {a b : Int} (h : a < b) : p2 a < p2 b := by
  have h1 := p2_mono (show a + 1 ≤ b by omega)
  rw [p2_succ] at h1
  have := p2_pos a
  grind

theorem wide_ok {x : Nat} (hx : fin .f32 x) : ∃ r, floatToFloatBits .f32 x .f64 = some r ∧ fin .f64 r ∧ val .f64 r = val .f32 x := by
  have h : (val .f32 x).abs < p2 1023 := Rat.lt_of_le_of_ne (Rat.le_of_lt (by have := val32_lt hx; have := p2_lt (show (128 : Int) < 1023 by decide); grind)) (by have := val32_lt hx; have := p2_lt (show (128 : Int) < 1023 by decide); grind)
  obtain ⟨r, h1, h2, _, h4⟩ := conv_ok (a := .f32) (b := .f64) (by decide) hx h
  exact ⟨r, h1, h2, h4 (rep_wide (val_rep hx))⟩

theorem narrow_ok {x : Nat} (hx : fin .f64 x) (h : (val .f64 x).abs < p2 127) :
    ∃ r, floatToFloatBits .f64 x .f32 = some r ∧ fin .f32 r ∧ Rd .f32 (val .f32 r) (val .f64 x) ∧ (Rep .f32 (val .f64 x) → val .f32 r = val .f64 x) :=
  conv_ok (a := .f64) (b := .f32) (by decide) hx h

/-! ### The order -/
theorem order_ok {k : FloatKind} {x y : Nat} (hx : fin k x) (hy : fin k y) :
    k.format.order x y = some (if val k x < val k y then .lt else if val k x = val k y then .eq else .gt) := by
  obtain ⟨s, m, i, ex⟩ := fin_form hx
  obtain ⟨t, n, j, ey⟩ := fin_form hy
  have hb : ∃ b, b = min i j := ⟨_, rfl⟩
  obtain ⟨b, hb⟩ := hb
  have e1 : val k x = ((Ieee.signed s m (i - b).toNat : Int) : Rat) * p2 b := by
    unfold val
    rw [ex, signed_val]
    simp only [dval]
    congr 3
    omega
  have e2 : val k y = ((Ieee.signed t n (j - b).toNat : Int) : Rat) * p2 b := by
    unfold val
    rw [ey, signed_val]
    simp only [dval]
    congr 3
    omega
  unfold Ieee.Format.order
  rw [ex, ey]
  simp only [Ieee.Datum.order]
  rw [← hb, e1, e2]
  congr 1
  generalize Ieee.signed s m (i - b).toNat = p
  generalize Ieee.signed t n (j - b).toNat = q
  have hp := p2_pos b
  show compareOfLessAndEq p q = _
  unfold compareOfLessAndEq
  have h1 : ((p : Rat) * p2 b < (q : Rat) * p2 b) ↔ p < q := by
    rw [Rat.mul_lt_mul_right hp, Rat.intCast_lt_intCast]
  have h2 : ((p : Rat) * p2 b = (q : Rat) * p2 b) ↔ p = q := by
    constructor
    · intro h
      rcases Int.lt_trichotomy p q with h' | h' | h'
      · have := h1.2 h'; grind
      · exact h'
      · have : (q : Rat) * p2 b < (p : Rat) * p2 b := by rw [Rat.mul_lt_mul_right hp, Rat.intCast_lt_intCast]; exact h'
        grind
    · rintro rfl; rfl
  by_cases c1 : p < q
  · rw [if_pos c1, if_pos (h1.2 c1)]
  · rw [if_neg c1, if_neg (fun h => c1 (h1.1 h))]
    by_cases c2 : p = q
    · rw [if_pos c2, if_pos (h2.2 c2)]
    · rw [if_neg c2, if_neg (fun h => c2 (h2.1 h))]

/-! ### Division -/
/-- v is x, rounded, and one digit more lost. -/
def Rd2 (k : FloatKind) (v x : Rat) : Prop := (v - x).abs ≤ 2 * U k * x.abs + T k

theorem quo_number (k : FloatKind) (s t : Bool) (m n : Nat) (i j : Int) (hn : n ≠ 0) :
    ∃ (q : Nat) (b : Int), (Ieee.Datum.number s m i).quotient (k.format.fractionBits + 2) (.number t n j) = some (.number (s ^^ t) q b) ∧
      ∃ x : Rat, 0 ≤ x ∧ x * ((n : Rat) * p2 j) = (m : Rat) * p2 i ∧ ((q : Rat) * p2 b - x).abs ≤ U k / 2 * x ∧ (m % n = 0 → (q : Rat) * p2 b = x) := by
  obtain ⟨d, hd⟩ : ∃ d, d = k.format.fractionBits + 2 := ⟨_, rfl⟩
  obtain ⟨more, hmore⟩ : ∃ more, more = d + n.log2 - m.log2 := ⟨_, rfl⟩
  refine ⟨2 * (m <<< more / n) + (m <<< more % n != 0).toNat, i - j - more - 1, ?_, ?_⟩
  · simp only [Ieee.Datum.quotient]
    rw [if_neg hn, ← hd, ← hmore]
  rw [Nat.shiftLeft_eq]
  have hn0 : 0 < n := Nat.pos_of_ne_zero hn
  have hnq : (0 : Rat) < (n : Rat) := Rat.natCast_pos.2 hn0
  have hp := p2_pos (i - j - more - 1)
  have hpj := p2_pos j
  have hdm := Nat.div_add_mod (m * 2 ^ more) n
  have hml := Nat.mod_lt (m * 2 ^ more) hn0
  have hz : m % n = 0 → m * 2 ^ more % n = 0 := by
    intro h
    rw [Nat.mul_mod, h, Nat.zero_mul, Nat.zero_mod]
  have hm0 : m ≠ 0 → 2 ^ (d - 1) ≤ m * 2 ^ more / n := by
    intro hm
    rw [Nat.le_div_iff_mul_le hn0]
    have h1 : 2 ^ m.log2 ≤ m := Nat.log2_self_le hm
    have h2 : n < 2 ^ (n.log2 + 1) := Nat.lt_log2_self
    have h3 : 2 ^ m.log2 * 2 ^ more ≤ m * 2 ^ more := Nat.mul_le_mul_right _ h1
    rw [← Nat.pow_add] at h3
    have h4 : 2 ^ (d - 1) * n ≤ 2 ^ (d - 1) * 2 ^ (n.log2 + 1) := Nat.mul_le_mul_left _ (Nat.le_of_lt h2)
    rw [← Nat.pow_add] at h4
    have h5 : 2 ^ (d - 1 + (n.log2 + 1)) ≤ 2 ^ (m.log2 + more) := Nat.pow_le_pow_right (by decide) (by omega)
    omega
  generalize hqq : m * 2 ^ more / n = fl at *
  generalize hrr : m * 2 ^ more % n = rm at *
  obtain ⟨st, hst⟩ : ∃ st, st = (rm != 0).toNat := ⟨_, rfl⟩
  have hst1 : st ≤ 1 := by rw [hst]; cases rm != 0 <;> simp
  have hst0 : rm = 0 → st = 0 := by intro h; rw [hst, h]; rfl
  have hst2 : rm ≠ 0 → st = 1 := by intro h; rw [hst]; simp [h]
  rw [← hst]
  -- the exact quotient, in units
  obtain ⟨y, hy⟩ : ∃ y : Rat, y = ((m * 2 ^ more : Nat) : Rat) / n := ⟨_, rfl⟩
  have hyn : y * n = (fl : Rat) * n + rm := by
    rw [hy, Rat.div_mul_cancel (by grind), ← hdm, Rat.natCast_add, Rat.natCast_mul]
    grind
  have hy0 : 0 ≤ y := by
    have h1 : (0 : Rat) ≤ (fl : Rat) * n + rm := Rat.add_nonneg (Rat.mul_nonneg Rat.natCast_nonneg (Rat.le_of_lt hnq)) Rat.natCast_nonneg
    rw [← hyn] at h1
    exact Rat.le_of_mul_le_mul_right (by simpa using h1) hnq
  have hyl : (fl : Rat) ≤ y := by
    refine Rat.le_of_mul_le_mul_right (c := (n : Rat)) ?_ hnq
    rw [hyn]
    have : (0 : Rat) ≤ rm := Rat.natCast_nonneg
    grind
  have hyu : y ≤ (fl : Rat) + 1 := by
    refine Rat.le_of_mul_le_mul_right (c := (n : Rat)) ?_ hnq
    rw [hyn, Rat.add_mul]
    have : (rm : Rat) ≤ n := Rat.natCast_le_natCast.2 (Nat.le_of_lt hml)
    grind
  have hye : rm = 0 → y = fl := by
    intro h
    have : y * n = (fl : Rat) * n := by rw [hyn, h, show ((0 : Nat) : Rat) = 0 from rfl]; grind
    have h2 : y * n * (n : Rat)⁻¹ = (fl : Rat) * n * (n : Rat)⁻¹ := by rw [this]
    rw [Rat.mul_assoc, Rat.mul_assoc, Rat.mul_inv_cancel _ (by grind), Rat.mul_one, Rat.mul_one] at h2
    exact h2
  refine ⟨2 * y * p2 (i - j - more - 1), ?_, ?_, ?_, ?_⟩
  · exact Rat.mul_nonneg (by grind) (Rat.le_of_lt hp)
  · have e1 : 2 * p2 (i - j - more - 1) * p2 j = p2 (i - more) := by
      rw [← p2_succ, ← p2_add]; congr 1; omega
    have e2 : ((2 ^ more : Nat) : Rat) * p2 (i - more) = p2 i := by
      have := p2_shift i more; grind
    have e3 : y * n = ((m * 2 ^ more : Nat) : Rat) := by rw [hy, Rat.div_mul_cancel (by grind)]
    have e4 : 2 * y * p2 (i - j - more - 1) * ((n : Rat) * p2 j) = (y * n) * (2 * p2 (i - j - more - 1) * p2 j) := by grind
    rw [e4, e1, e3, Rat.natCast_mul, Rat.mul_assoc, e2]
  · have e5 : ((2 * fl + st : Nat) : Rat) * p2 (i - j - more - 1) - 2 * y * p2 (i - j - more - 1) = ((2 * fl + st : Nat) - 2 * y) * p2 (i - j - more - 1) := by grind
    rw [e5, abs_mul, Rat.abs_of_nonneg (Rat.le_of_lt hp)]
    rw [show U k / 2 * (2 * y * p2 (i - j - more - 1)) = (U k * y) * p2 (i - j - more - 1) by rw [Rat.div_def]; grind]
    refine Rat.mul_le_mul_of_nonneg_right ?_ (Rat.le_of_lt hp)
    rw [Rat.natCast_add, Rat.natCast_mul, show ((2 : Nat) : Rat) = 2 from rfl]
    by_cases hr : rm = 0
    · rw [hye hr, hst0 hr]
      have := Rat.mul_nonneg (U_nonneg k) hy0
      rw [hye hr] at this
      rw [abs_le]
      simp
      grind
    · rw [hst2 hr]
      have hm : m ≠ 0 := by
        intro h
        subst h
        simp at hrr
        exact hr hrr.symm
      have h1 := hm0 hm
      have h2 : (1 : Rat) ≤ U k * y := by
        have h3 : U k * ((2 ^ (d - 1) : Nat) : Rat) = 1 := by
          rw [hd]
          cases k
          · show p2 (-24) * ((2 ^ 24 : Nat) : Rat) = 1
            rw [← p2_nat, ← p2_add]; exact p2_zero
          · show p2 (-53) * ((2 ^ 53 : Nat) : Rat) = 1
            rw [← p2_nat, ← p2_add]; exact p2_zero
        rw [← h3]
        exact Rat.mul_le_mul_of_nonneg_left (Rat.le_trans (Rat.natCast_le_natCast.2 h1) hyl) (U_nonneg k)
      rw [show ((1 : Nat) : Rat) = 1 from rfl, abs_le]
      grind
  · intro h
    have hr := hz h
    rw [hst0 hr, hye hr, Rat.natCast_add, Rat.natCast_mul, show ((0 : Nat) : Rat) = 0 from rfl, show ((2 : Nat) : Rat) = 2 from rfl]
    grind

theorem div_ok {k : FloatKind} {x y : Nat} (hx : fin k x) (hy : fin k y) (hy0 : val k y ≠ 0) (z : Rat) (hz : z * val k y = val k x) (h : 2 * z.abs < p2 (top k)) :
    ∃ r, floatBits .quo k x y = some r ∧ fin k r ∧ Rd2 k (val k r) z := by
  obtain ⟨s, m, i, ex⟩ := fin_form hx
  obtain ⟨t, n, j, ey⟩ := fin_form hy
  have hn : n ≠ 0 := by
    intro h0
    subst h0
    apply hy0
    unfold val
    rw [ey]
    cases t <;> simp [dval, sgn]
  obtain ⟨q, b, hq, x', x0, hx1, hx2, _⟩ := quo_number k s t m n i j hn
  have hzx : z = sgn (s ^^ t) x' := by
    unfold val at hz hy0
    rw [ey] at hy0
    rw [ex, ey] at hz
    simp only [dval] at hz hy0
    have : sgn (s ^^ t) x' * sgn t ((n : Rat) * p2 j) = sgn s ((m : Rat) * p2 i) := by
      rw [← hx1]
      cases s <;> cases t <;> simp [sgn] <;> grind
    rw [← this] at hz
    have h2 := congrArg (· * (sgn t ((n : Rat) * p2 j))⁻¹) hz
    simp only [Rat.mul_assoc] at h2
    rw [Rat.mul_inv_cancel _ hy0, Rat.mul_one, Rat.mul_one] at h2
    exact h2
  have hza : z.abs = x' := by rw [hzx, abs_sgn, Rat.abs_of_nonneg x0]
  rw [hza] at h
  have hU1 : U k ≤ 1 := by
    cases k
    · exact p2_mono (show (-24 : Int) ≤ 0 by decide)
    · exact p2_mono (show (-53 : Int) ≤ 0 by decide)
  have hxU : U k * x' ≤ x' := by
    have := Rat.mul_le_mul_of_nonneg_right hU1 x0
    grind
  have hxU0 : 0 ≤ U k * x' := Rat.mul_nonneg (U_nonneg k) x0
  rw [show U k / 2 * x' = U k * x' / 2 by rw [Rat.div_def, Rat.div_def]; grind] at hx2
  rw [abs_le] at hx2
  have hlt : (q : Rat) * p2 b < p2 (top k) := by grind
  obtain ⟨w1, w2, _⟩ := write_ok k (s ^^ t) q b hlt
  refine ⟨_, ?_, w1, ?_⟩
  · show k.format.div x y = _
    unfold Ieee.Format.div
    rw [ex, ey, hq]
    rfl
  · unfold Rd at w2
    unfold Rd2
    rw [hza]
    have hq0 : 0 ≤ (q : Rat) * p2 b := Rat.mul_nonneg Rat.natCast_nonneg (p2_nonneg _)
    rw [abs_sgn, Rat.abs_of_nonneg hq0, abs_le] at w2
    rw [hzx, abs_le]
    have hUq : U k * ((q : Rat) * p2 b) ≤ U k * (x' + U k * x' / 2) := Rat.mul_le_mul_of_nonneg_left (by grind) (U_nonneg k)
    have hUU : U k * (U k * x') ≤ U k * x' := Rat.mul_le_mul_of_nonneg_left hxU (U_nonneg k)
    have e6 : U k * (x' + U k * x' / 2) = U k * x' + U k * (U k * x') / 2 := by rw [Rat.div_def, Rat.div_def]; grind
    rw [e6] at hUq
    have hs : sgn (s ^^ t) ((q : Rat) * p2 b) - sgn (s ^^ t) x' = sgn (s ^^ t) ((q : Rat) * p2 b - x') := by
      unfold sgn; split <;> grind
    have hs2 : (sgn (s ^^ t) ((q : Rat) * p2 b - x')).abs ≤ U k * x' / 2 := by
      rw [abs_sgn, abs_le]; grind
    rw [← hs, abs_le] at hs2
    grind

end Go.Proofs.Ytdpogmibahaklaa
