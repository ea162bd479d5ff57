/- The series of the draws: what the statement asks of them. -/
import Derived.Test.YtdpogmibahaklaaN13
import Derived.Test.YtdpogmibahaklaaV1
set_option linter.unusedVariables false
set_option linter.unusedSimpArgs false
set_option linter.unusedSectionVars false
namespace Go.Proofs.Ytdpogmibahaklaa

theorem half_rec {a h r : Nat → Z} {n : Nat} (n7 : n ≤ 7) (ha0 : a 0 = 1) (h0 : h 0 = r 0) (hPa : ∀ i, i < n → Le (a i) (fn tPa i))
    (h1 : ∀ m, m + 1 < n → Le (cz a (sl h) m - hz * cz (sl a) h m) (r1B m)) (h2 : ∀ m, m + 1 < n → Le (cz a (sl r) m - hz * cz (sl a) r m) (r2B m)) :
    ∀ k, k < n → Le (h k - r k) (fn tDh k) := by
  have hD : ∀ j, 0 ≤ fn tDh j := fn_nonneg (by decide +kernel)
  have hlf : Le hz (1 / 2) := halfZ_le
  intro k
  induction k using Nat.strongRecOn with
  | ind k ih =>
    intro hk
    cases k with
    | zero => exact (Le.zero.mono (hD 0)).of_eq (by rw [h0]; (apply Z.ext <;> simp only [Z.add_re, Z.add_im, Z.sub_re, Z.sub_im, Z.neg_re, Z.neg_im, Z.mul_re, Z.mul_im, Z.zero_re, Z.zero_im, Z.one_re, Z.one_im, Z.nat_re, Z.nat_im, Z.lit_re, Z.lit_im] <;> grind))
    | succ m =>
      have g : ∀ i, i ≤ m → Le (h i - r i) (fn tDh i) := fun i hi => ih i (by omega) (by omega)
      have k1 := (h1 m hk).add (h2 m hk).neg
      have k2 : Le (cz (sl a) (fun i => h i - r i) m) (cr pA (fn tDh) m) := Le.cz (fun i hi => (natZ_le (i + 1)).mul (hPa (i + 1) (by omega))) g
      have hc := e_h m (by simp; omega) (by omega)
      have es : ∀ i, sl h i - sl r i = sl (fun i => h i - r i) i := fun i => by simp only [sl]; (apply Z.ext <;> simp only [Z.add_re, Z.add_im, Z.sub_re, Z.sub_im, Z.neg_re, Z.neg_im, Z.mul_re, Z.mul_im, Z.zero_re, Z.zero_im, Z.one_re, Z.one_im, Z.nat_re, Z.nat_im, Z.lit_re, Z.lit_im] <;> grind)
      have e1 : cz a (sl h) m - cz a (sl r) m = cz a (sl fun i => h i - r i) m := by
        rw [← cz_sub_right]; exact cz_congr (fun _ _ => rfl) (fun i _ => es i)
      rw [cz_sub_right] at k2
      have k3 := k1.add (hlf.mul k2)
      have k4 : Le (cz a (sl fun i => h i - r i) m) (r1B m + r2B m + 1 / 2 * cr pA (fn tDh) m) := k3.of_eq (by rw [← e1]; (apply Z.ext <;> simp only [Z.add_re, Z.add_im, Z.sub_re, Z.sub_im, Z.neg_re, Z.neg_im, Z.mul_re, Z.mul_im, Z.zero_re, Z.zero_im, Z.one_re, Z.one_im, Z.nat_re, Z.nat_im, Z.lit_re, Z.lit_im] <;> grind))
      refine Le.of_mul (k := m + 1) ?_ (by omega) (hD _)
      show Le (sl (fun i => h i - r i) m) _
      cases m with
      | zero =>
        simp only [cz, ha0] at k4
        rw [if_pos rfl] at hc
        exact (k4.of_eq (by (apply Z.ext <;> simp only [Z.add_re, Z.add_im, Z.sub_re, Z.sub_im, Z.neg_re, Z.neg_im, Z.mul_re, Z.mul_im, Z.zero_re, Z.zero_im, Z.one_re, Z.one_im, Z.nat_re, Z.nat_im, Z.lit_re, Z.lit_im] <;> grind))).mono (by grind)
      | succ m =>
        have k5 : Le (cz (fun i => a (i + 1)) (sl fun i => h i - r i) m) (cr (fun i => fn tPa (i + 1)) (fun i => ((i + 1 : Nat) : Rat) * fn tDh (i + 1)) m) :=
          Le.cz (fun i hi => hPa (i + 1) (by omega)) (fun i hi => (natZ_le (i + 1)).mul (g (i + 1) (by omega)))
        rw [if_neg (by omega), show m + 1 - 1 = m by omega] at hc
        rw [cz, ha0] at k4
        exact ((k4.add k5.neg).of_eq (by (apply Z.ext <;> simp only [Z.add_re, Z.add_im, Z.sub_re, Z.sub_im, Z.neg_re, Z.neg_im, Z.mul_re, Z.mul_im, Z.zero_re, Z.zero_im, Z.one_re, Z.one_im, Z.nat_re, Z.nat_im, Z.lit_re, Z.lit_im] <;> grind))).mono (by grind)

theorem qbits_ok : ∀ q ∈ qbits, dfin (FloatKind.f32.format.read q) = true ∧ -1 ≤ dval (FloatKind.f32.format.read q) ∧ dval (FloatKind.f32.format.read q) ≤ 1 := by decide +kernel
theorem qtr_le {x : C} (h : QtrC x) : Fin x ∧ Le (V x) (141422 / 100000) := by
  have h1 := qbits_ok _ h.1
  have h2 := qbits_ok _ h.2
  refine ⟨⟨h1.1, h2.1⟩, by grind, ?_⟩
  have e1 : -1 ≤ val .f32 x.1 ∧ val .f32 x.1 ≤ 1 := h1.2
  have e2 : -1 ≤ val .f32 x.2 ∧ val .f32 x.2 ≤ 1 := h2.2
  show val .f32 x.1 * val .f32 x.1 + val .f32 x.2 * val .f32 x.2 ≤ _
  generalize val .f32 x.1 = p at *
  generalize val .f32 x.2 = q at *
  have := Rat.mul_nonneg (show 0 ≤ 1 - p by grind) (show 0 ≤ p + 1 by grind)
  have := Rat.mul_nonneg (show 0 ≤ 1 - q by grind) (show 0 ≤ q + 1 by grind)
  grind
theorem getD_mem {l : List C} {j : Nat} (h : j < l.length) : l.getD j zero ∈ l := by
  rw [List.getD_eq_getElem?_getD, List.getElem?_eq_getElem h]; exact List.getElem_mem h

theorem tPa_at : ∀ j ∈ List.range 7, 1 ≤ j → (141422 : Rat) / 100000 ≤ fn tPa j ∧ (141422 : Rat) / 100000 ≤ fn tPb j := by decide +kernel

section
variable {n : Nat} {a b : List C} (n2 : 2 ≤ n) (n7 : n ≤ 7)
include n2 n7
theorem good_P (hl : a.length = n) (hq : ∀ x ∈ a, QtrC x) : ∀ j, j < n → Good a (fun _ => 141422 / 100000) j := fun j hj => qtr_le (hq _ (getD_mem (by omega)))
theorem good_a (hl : a.length = n) (hq : ∀ x ∈ a, QtrC x) (h0 : a.getD 0 zero = one) : ∀ j, j < n → Good a (fn tPa) j := by
  intro j hj
  by_cases e : j = 0
  · subst e
    unfold Good Vl
    rw [h0]
    exact ⟨Fin_one, (Le.one.of_eq V_one.symm).mono (by decide +kernel)⟩
  · have g := good_P n2 n7 hl hq j hj
    exact ⟨g.1, g.2.mono (tPa_at j (by simp; omega) (by omega)).1⟩
theorem good_b (hl : b.length = n) (hq : ∀ x ∈ b, QtrC x) (h0 : b.getD 0 zero = zero) : ∀ j, j < n → Good b (fn tPb) j := by
  intro j hj
  by_cases e : j = 0
  · subst e
    unfold Good Vl
    rw [h0]
    exact ⟨Fin_zero, (Le.zero.of_eq V_zero.symm).mono (by decide +kernel)⟩
  · have g := good_P n2 n7 hl hq j hj
    exact ⟨g.1, g.2.mono (tPa_at j (by simp; omega) (by omega)).2⟩
end
end Go.Proofs.Ytdpogmibahaklaa
