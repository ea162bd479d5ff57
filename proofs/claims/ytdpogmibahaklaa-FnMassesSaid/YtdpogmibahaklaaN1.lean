/- Complex numbers with rational parts: a ring, a bound on the size, sums and the product of series. -/
import Derived.Test.YtdpogmibahaklaaSqrt
set_option linter.unusedVariables false
set_option linter.unusedSimpArgs false
namespace Go.Proofs.Ytdpogmibahaklaa

structure Z where
  re : Rat
  im : Rat
namespace Z
theorem ext {x y : Z} (h1 : x.re = y.re) (h2 : x.im = y.im) : x = y := by cases x; cases y; cases h1; cases h2; rfl
instance : Add Z := ⟨fun x y => ⟨x.re + y.re, x.im + y.im⟩⟩
instance : Neg Z := ⟨fun x => ⟨-x.re, -x.im⟩⟩
instance : Sub Z := ⟨fun x y => ⟨x.re - y.re, x.im - y.im⟩⟩
instance : Mul Z := ⟨fun x y => ⟨x.re * y.re - x.im * y.im, x.re * y.im + x.im * y.re⟩⟩
instance : NatCast Z := ⟨fun n => ⟨n, 0⟩⟩
instance : IntCast Z := ⟨fun n => ⟨n, 0⟩⟩
instance (n : Nat) : OfNat Z n := ⟨⟨n, 0⟩⟩
instance : SMul Nat Z := ⟨fun n x => (n : Z) * x⟩
instance : SMul Int Z := ⟨fun n x => (n : Z) * x⟩
def pow (x : Z) : Nat → Z
  | 0 => 1
  | n + 1 => pow x n * x
instance : HPow Z Nat Z := ⟨pow⟩
@[simp] theorem add_re (x y : Z) : (x + y).re = x.re + y.re := rfl
@[simp] theorem add_im (x y : Z) : (x + y).im = x.im + y.im := rfl
@[simp] theorem sub_re (x y : Z) : (x - y).re = x.re - y.re := rfl
@[simp] theorem sub_im (x y : Z) : (x - y).im = x.im - y.im := rfl
@[simp] theorem neg_re (x : Z) : (-x).re = -x.re := rfl
@[simp] theorem neg_im (x : Z) : (-x).im = -x.im := rfl
@[simp] theorem mul_re (x y : Z) : (x * y).re = x.re * y.re - x.im * y.im := rfl
@[simp] theorem mul_im (x y : Z) : (x * y).im = x.re * y.im + x.im * y.re := rfl
@[simp] theorem nat_re (n : Nat) : ((n : Z)).re = n := rfl
@[simp] theorem nat_im (n : Nat) : ((n : Z)).im = 0 := rfl
@[simp] theorem int_re (n : Int) : ((n : Z)).re = n := rfl
@[simp] theorem int_im (n : Int) : ((n : Z)).im = 0 := rfl
@[simp] theorem lit_re (n : Nat) : (OfNat.ofNat n : Z).re = (n : Rat) := rfl
@[simp] theorem lit_im (n : Nat) : (OfNat.ofNat n : Z).im = 0 := rfl
@[simp] theorem zero_re : (0 : Z).re = 0 := rfl
@[simp] theorem zero_im : (0 : Z).im = 0 := rfl
@[simp] theorem one_re : (1 : Z).re = 1 := rfl
@[simp] theorem one_im : (1 : Z).im = 0 := rfl

theorem eq_iff {x y : Z} : x = y ↔ x.re = y.re ∧ x.im = y.im := ⟨fun h => by rw [h]; exact ⟨rfl, rfl⟩, fun h => ext h.1 h.2⟩
end Z

/-- The size of z is at most M. -/
structure Le (z : Z) (M : Rat) : Prop where
  pos : 0 ≤ M
  out : z.re * z.re + z.im * z.im ≤ M * M
theorem sq_nonneg (x : Rat) : 0 ≤ x * x := by
  rcases abs_cases x with ⟨h, _⟩ | ⟨h, _⟩
  · exact Rat.mul_nonneg h h
  · have := Rat.mul_nonneg (show 0 ≤ -x by grind) (show 0 ≤ -x by grind); grind
theorem Le.mono {z : Z} {M N : Rat} (h : Le z M) (hMN : M ≤ N) : Le z N :=
  ⟨by have := h.pos; grind, by
    have h1 := h.out
    have h2 := Rat.mul_nonneg h.pos (show 0 ≤ N - M by grind)
    have h3 := Rat.mul_nonneg (show 0 ≤ N by have := h.pos; grind) (show 0 ≤ N - M by grind)
    grind⟩
theorem Le.mul {x y : Z} {M N : Rat} (hx : Le x M) (hy : Le y N) : Le (x * y) (M * N) :=
  ⟨Rat.mul_nonneg hx.pos hy.pos, by
    have h1 := Rat.mul_nonneg (show 0 ≤ M * M - (x.re * x.re + x.im * x.im) by have := hx.out; grind) (show 0 ≤ N * N by exact sq_nonneg N)
    have h2 := Rat.mul_nonneg (show 0 ≤ N * N - (y.re * y.re + y.im * y.im) by have := hy.out; grind) (show 0 ≤ x.re * x.re + x.im * x.im by have := sq_nonneg x.re; have := sq_nonneg x.im; grind)
    simp only [Z.mul_re, Z.mul_im]
    grind⟩
theorem Le.dot {x y : Z} {M N : Rat} (hx : Le x M) (hy : Le y N) : x.re * y.re + x.im * y.im ≤ M * N := by
  have hc : Le ⟨y.re, -y.im⟩ N := ⟨hy.pos, by have := hy.out; simp only; grind⟩
  have h := (hx.mul hc)
  have h1 := h.out
  simp only [Z.mul_re, Z.mul_im] at h1
  have h2 := sq_nonneg (x.re * -y.im + x.im * y.re)
  refine sq_le h.pos ?_
  grind
theorem Le.add {x y : Z} {M N : Rat} (hx : Le x M) (hy : Le y N) : Le (x + y) (M + N) :=
  ⟨by have := hx.pos; have := hy.pos; grind, by
    have h1 := hx.dot hy
    have h2 := hx.out
    have h3 := hy.out
    simp only [Z.add_re, Z.add_im]
    grind⟩
theorem Le.neg {x : Z} {M : Rat} (hx : Le x M) : Le (-x) M := ⟨hx.pos, by have := hx.out; simp only [Z.neg_re, Z.neg_im]; grind⟩
theorem Le.sub {x y : Z} {M N : Rat} (hx : Le x M) (hy : Le y N) : Le (x - y) (M + N) := by
  have := hx.add hy.neg
  have e : x - y = x + -y := by (apply Z.ext <;> simp only [Z.add_re, Z.add_im, Z.sub_re, Z.sub_im, Z.neg_re, Z.neg_im, Z.mul_re, Z.mul_im, Z.zero_re, Z.zero_im, Z.one_re, Z.one_im, Z.nat_re, Z.nat_im, Z.lit_re, Z.lit_im] <;> grind)
  rw [e]; exact this
theorem Le.zero : Le 0 0 := ⟨by grind, by simp only [Z.zero_re, Z.zero_im]; grind⟩
theorem Le.of_eq {x y : Z} {M : Rat} (hx : Le x M) (e : x = y) : Le y M := e ▸ hx
theorem Le.re_abs {x : Z} {M : Rat} (h : Le x M) : x.re.abs ≤ M := by
  have h1 := h.out
  have h2 := sq_nonneg x.im
  have h3 : x.re.abs * x.re.abs = x.re * x.re := by
    rcases abs_cases x.re with ⟨_, e⟩ | ⟨_, e⟩ <;> rw [e] <;> grind
  refine sq_le h.pos ?_
  grind
theorem Le.im_abs {x : Z} {M : Rat} (h : Le x M) : x.im.abs ≤ M := by
  have h1 := h.out
  have h2 := sq_nonneg x.re
  have h3 : x.im.abs * x.im.abs = x.im * x.im := by
    rcases abs_cases x.im with ⟨_, e⟩ | ⟨_, e⟩ <;> rw [e] <;> grind
  refine sq_le h.pos ?_
  grind
/-- Part for part at most u times as great, and t. -/
theorem Le.parts {d x : Z} {M u t : Rat} (hx : Le x M) (hu : 0 ≤ u) (ht : 0 ≤ t) (h1 : d.re.abs ≤ u * x.re.abs + t) (h2 : d.im.abs ≤ u * x.im.abs + t) : Le d (u * M + 2 * t) := by
  have ha := hx.re_abs
  have hb := hx.im_abs
  have ho := hx.out
  have hM := hx.pos
  have e1 : ∀ r : Rat, r * r = r.abs * r.abs := by
    intro r
    rcases abs_cases r with ⟨_, e⟩ | ⟨_, e⟩ <;> rw [e] <;> grind
  have n1 : ∀ r : Rat, 0 ≤ r.abs := fun r => Rat.abs_nonneg
  have m : ∀ {p q : Rat}, 0 ≤ p → p ≤ q → p * p ≤ q * q := by
    intro p q hp hpq
    have := Rat.mul_nonneg hp (show 0 ≤ q - p by grind)
    have := Rat.mul_nonneg (show 0 ≤ q by grind) (show 0 ≤ q - p by grind)
    grind
  have m1 := m (n1 d.re) h1
  have m2 := m (n1 d.im) h2
  refine ⟨by have := Rat.mul_nonneg hu hM; grind, ?_⟩
  rw [e1 d.re, e1 d.im]
  rw [e1 x.re, e1 x.im] at ho
  generalize x.re.abs = p at *
  generalize x.im.abs = q at *
  have k1 := Rat.mul_nonneg (Rat.mul_nonneg hu hu) (show 0 ≤ M * M - (p * p + q * q) by grind)
  have k2 := Rat.mul_nonneg (Rat.mul_nonneg hu ht) (show 0 ≤ M - p by grind)
  have k3 := Rat.mul_nonneg (Rat.mul_nonneg hu ht) (show 0 ≤ M - q by grind)
  have k4 := Rat.mul_nonneg ht ht
  grind

/-! ### Sums, and the product of series -/
def sumZ (f : Nat → Z) : Nat → Nat → Z
  | 0, _ => 0
  | n + 1, i => f i + sumZ f n (i + 1)
/-- The product of series: coefficient k. -/
def cz : (Nat → Z) → (Nat → Z) → Nat → Z
  | f, g, 0 => f 0 * g 0
  | f, g, k + 1 => f 0 * g (k + 1) + cz (fun i => f (i + 1)) g k
theorem cz_add (f f' g : Nat → Z) (k : Nat) : cz (fun i => f i + f' i) g k = cz f g k + cz f' g k := by
  induction k generalizing f f' with
  | zero => simp only [cz]; (apply Z.ext <;> simp only [Z.add_re, Z.add_im, Z.sub_re, Z.sub_im, Z.neg_re, Z.neg_im, Z.mul_re, Z.mul_im, Z.zero_re, Z.zero_im, Z.one_re, Z.one_im, Z.nat_re, Z.nat_im, Z.lit_re, Z.lit_im] <;> grind)
  | succ k ih => simp only [cz]; rw [ih]; (apply Z.ext <;> simp only [Z.add_re, Z.add_im, Z.sub_re, Z.sub_im, Z.neg_re, Z.neg_im, Z.mul_re, Z.mul_im, Z.zero_re, Z.zero_im, Z.one_re, Z.one_im, Z.nat_re, Z.nat_im, Z.lit_re, Z.lit_im] <;> grind)
theorem cz_smul (c : Z) (f g : Nat → Z) (k : Nat) : cz (fun i => c * f i) g k = c * cz f g k := by
  induction k generalizing f with
  | zero => simp only [cz]; (apply Z.ext <;> simp only [Z.add_re, Z.add_im, Z.sub_re, Z.sub_im, Z.neg_re, Z.neg_im, Z.mul_re, Z.mul_im, Z.zero_re, Z.zero_im, Z.one_re, Z.one_im, Z.nat_re, Z.nat_im, Z.lit_re, Z.lit_im] <;> grind)
  | succ k ih => simp only [cz]; rw [ih]; (apply Z.ext <;> simp only [Z.add_re, Z.add_im, Z.sub_re, Z.sub_im, Z.neg_re, Z.neg_im, Z.mul_re, Z.mul_im, Z.zero_re, Z.zero_im, Z.one_re, Z.one_im, Z.nat_re, Z.nat_im, Z.lit_re, Z.lit_im] <;> grind)
theorem cz_last (f g : Nat → Z) (k : Nat) : cz f g (k + 1) = cz f (fun i => g (i + 1)) k + f (k + 1) * g 0 := by
  induction k generalizing f with
  | zero => simp only [cz]
  | succ k ih =>
    have := ih (fun i => f (i + 1))
    rw [cz, this, cz]
    (apply Z.ext <;> simp only [Z.add_re, Z.add_im, Z.sub_re, Z.sub_im, Z.neg_re, Z.neg_im, Z.mul_re, Z.mul_im, Z.zero_re, Z.zero_im, Z.one_re, Z.one_im, Z.nat_re, Z.nat_im, Z.lit_re, Z.lit_im] <;> grind)
theorem cz_comm (f g : Nat → Z) (k : Nat) : cz f g k = cz g f k := by
  induction k generalizing f g with
  | zero => simp only [cz]; (apply Z.ext <;> simp only [Z.add_re, Z.add_im, Z.sub_re, Z.sub_im, Z.neg_re, Z.neg_im, Z.mul_re, Z.mul_im, Z.zero_re, Z.zero_im, Z.one_re, Z.one_im, Z.nat_re, Z.nat_im, Z.lit_re, Z.lit_im] <;> grind)
  | succ k ih => rw [cz_last, cz, ih]; (apply Z.ext <;> simp only [Z.add_re, Z.add_im, Z.sub_re, Z.sub_im, Z.neg_re, Z.neg_im, Z.mul_re, Z.mul_im, Z.zero_re, Z.zero_im, Z.one_re, Z.one_im, Z.nat_re, Z.nat_im, Z.lit_re, Z.lit_im] <;> grind)
theorem cz_add_right (f g g' : Nat → Z) (k : Nat) : cz f (fun i => g i + g' i) k = cz f g k + cz f g' k := by
  rw [cz_comm, cz_add, cz_comm g, cz_comm g']
theorem cz_smul_right (c : Z) (f g : Nat → Z) (k : Nat) : cz f (fun i => c * g i) k = c * cz f g k := by
  rw [cz_comm, cz_smul, cz_comm g]
theorem cz_assoc (f g h : Nat → Z) (k : Nat) : cz (cz f g) h k = cz f (cz g h) k := by
  induction k generalizing f with
  | zero => simp only [cz]; (apply Z.ext <;> simp only [Z.add_re, Z.add_im, Z.sub_re, Z.sub_im, Z.neg_re, Z.neg_im, Z.mul_re, Z.mul_im, Z.zero_re, Z.zero_im, Z.one_re, Z.one_im, Z.nat_re, Z.nat_im, Z.lit_re, Z.lit_im] <;> grind)
  | succ k ih =>
    have e : (fun i => cz f g (i + 1)) = fun i => f 0 * g (i + 1) + cz (fun i => f (i + 1)) g i := by
      funext i
      rw [cz]
    rw [cz, e, cz_add, cz_smul, ih, cz, cz, cz]
    (apply Z.ext <;> simp only [Z.add_re, Z.add_im, Z.sub_re, Z.sub_im, Z.neg_re, Z.neg_im, Z.mul_re, Z.mul_im, Z.zero_re, Z.zero_im, Z.one_re, Z.one_im, Z.nat_re, Z.nat_im, Z.lit_re, Z.lit_im] <;> grind)
theorem cz_congr {f f' g g' : Nat → Z} {k : Nat} (h1 : ∀ i, i ≤ k → f i = f' i) (h2 : ∀ i, i ≤ k → g i = g' i) : cz f g k = cz f' g' k := by
  induction k generalizing f f' with
  | zero => simp only [cz]; rw [h1 0 (by omega), h2 0 (by omega)]
  | succ k ih =>
    simp only [cz]
    rw [h1 0 (by omega), h2 (k + 1) (by omega), ih (fun i hi => h1 (i + 1) (by omega)) (fun i hi => h2 i (by omega))]
/-- The product, as a sum. -/
theorem sum_cz (f g : Nat → Z) (k i : Nat) : sumZ (fun j => f j * g (k + i - j)) (k + 1) i = cz (fun j => f (j + i)) g k := by
  induction k generalizing i with
  | zero => simp only [sumZ, cz, Nat.zero_add, Nat.sub_self]; (apply Z.ext <;> simp only [Z.add_re, Z.add_im, Z.sub_re, Z.sub_im, Z.neg_re, Z.neg_im, Z.mul_re, Z.mul_im, Z.zero_re, Z.zero_im, Z.one_re, Z.one_im, Z.nat_re, Z.nat_im, Z.lit_re, Z.lit_im] <;> grind)
  | succ k ih =>
    have := ih (i + 1)
    rw [sumZ, cz]
    rw [show k + 1 + i - i = k + 1 by omega, Nat.zero_add]
    congr 1
    rw [show k + 1 + i = k + (i + 1) by omega]
    rw [this]
    congr 1
    funext j
    congr 1
    omega
/-- Bounds go through the product. -/
def cr : (Nat → Rat) → (Nat → Rat) → Nat → Rat
  | f, g, 0 => f 0 * g 0
  | f, g, k + 1 => f 0 * g (k + 1) + cr (fun i => f (i + 1)) g k
theorem Le.cz {f g : Nat → Z} {F G : Nat → Rat} {k : Nat} (hf : ∀ i, i ≤ k → Le (f i) (F i)) (hg : ∀ i, i ≤ k → Le (g i) (G i)) : Le (cz f g k) (cr F G k) := by
  induction k generalizing f F with
  | zero => exact (hf 0 (by omega)).mul (hg 0 (by omega))
  | succ k ih => exact ((hf 0 (by omega)).mul (hg (k + 1) (by omega))).add (ih (fun i hi => hf (i + 1) (by omega)) (fun i hi => hg i (by omega)))
end Go.Proofs.Ytdpogmibahaklaa
