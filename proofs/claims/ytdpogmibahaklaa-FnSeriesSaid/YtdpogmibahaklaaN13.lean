/- The product of series: slopes, and the two identities. -/
import Derived.Test.YtdpogmibahaklaaN12
set_option linter.unusedVariables false
set_option linter.unusedSimpArgs false
namespace Go.Proofs.Ytdpogmibahaklaa

theorem cz_sub (f f' g : Nat → Z) (k : Nat) : cz (fun i => f i - f' i) g k = cz f g k - cz f' g k := by
  have h := cz_add (fun i => f i - f' i) f' g k
  rw [cz_congr (f' := f) (g' := g) (fun i _ => by (apply Z.ext <;> simp only [Z.add_re, Z.add_im, Z.sub_re, Z.sub_im, Z.neg_re, Z.neg_im, Z.mul_re, Z.mul_im, Z.zero_re, Z.zero_im, Z.one_re, Z.one_im, Z.nat_re, Z.nat_im, Z.lit_re, Z.lit_im] <;> grind)) (fun _ _ => rfl)] at h
  (simp only [Z.eq_iff, Z.add_re, Z.add_im, Z.sub_re, Z.sub_im, Z.neg_re, Z.neg_im, Z.mul_re, Z.mul_im, Z.zero_re, Z.zero_im, Z.one_re, Z.one_im, Z.nat_re, Z.nat_im, Z.lit_re, Z.lit_im] at * <;> grind)
theorem cz_sub_right (f g g' : Nat → Z) (k : Nat) : cz f (fun i => g i - g' i) k = cz f g k - cz f g' k := by
  rw [cz_comm, cz_sub, cz_comm g, cz_comm g']
theorem cz_d0 (f : Nat → Z) (k : Nat) : cz f d0 k = f k := by
  induction k generalizing f with
  | zero => simp only [cz, d0, if_true]; (apply Z.ext <;> simp only [Z.add_re, Z.add_im, Z.sub_re, Z.sub_im, Z.neg_re, Z.neg_im, Z.mul_re, Z.mul_im, Z.zero_re, Z.zero_im, Z.one_re, Z.one_im, Z.nat_re, Z.nat_im, Z.lit_re, Z.lit_im] <;> grind)
  | succ k ih => rw [cz, ih]; simp only [d0]; rw [if_neg (by omega)]; (apply Z.ext <;> simp only [Z.add_re, Z.add_im, Z.sub_re, Z.sub_im, Z.neg_re, Z.neg_im, Z.mul_re, Z.mul_im, Z.zero_re, Z.zero_im, Z.one_re, Z.one_im, Z.nat_re, Z.nat_im, Z.lit_re, Z.lit_im] <;> grind)

/-- The slope. -/
def sl (f : Nat → Z) (i : Nat) : Z := ((i + 1 : Nat) : Z) * f (i + 1)
theorem nat_succ (n : Nat) : ((n + 1 : Nat) : Z) = (n : Z) + 1 := by
  apply Z.ext
  · show ((n + 1 : Nat) : Rat) = (n : Rat) + 1
    exact Rat.natCast_add n 1
  · show (0 : Rat) = 0 + 0
    grind
theorem nat_one : ((0 + 1 : Nat) : Z) = 1 := rfl
theorem sl_cz (f g : Nat → Z) (m : Nat) : sl (cz f g) m = cz (sl f) g m + cz f (sl g) m := by
  induction m generalizing f with
  | zero => simp only [sl, cz, nat_one]; (apply Z.ext <;> simp only [Z.add_re, Z.add_im, Z.sub_re, Z.sub_im, Z.neg_re, Z.neg_im, Z.mul_re, Z.mul_im, Z.zero_re, Z.zero_im, Z.one_re, Z.one_im, Z.nat_re, Z.nat_im, Z.lit_re, Z.lit_im] <;> grind)
  | succ m ih =>
    have h := ih (fun i => f (i + 1))
    simp only [sl] at h
    have e1 : cz (fun i => sl f (i + 1)) g m = cz (sl fun i => f (i + 1)) g m + cz (fun i => f (i + 1 + 1)) g m := by
      rw [← cz_add]
      refine cz_congr (fun i _ => ?_) (fun _ _ => rfl)
      simp only [sl]
      rw [nat_succ (i + 1)]
      (apply Z.ext <;> simp only [Z.add_re, Z.add_im, Z.sub_re, Z.sub_im, Z.neg_re, Z.neg_im, Z.mul_re, Z.mul_im, Z.zero_re, Z.zero_im, Z.one_re, Z.one_im, Z.nat_re, Z.nat_im, Z.lit_re, Z.lit_im] <;> grind)
    have e2 : cz (fun i => f (i + 1)) g (m + 1) = f 1 * g (m + 1) + cz (fun i => f (i + 1 + 1)) g m := rfl
    have e3 : cz f g (m + 1 + 1) = f 0 * g (m + 1 + 1) + cz (fun i => f (i + 1)) g (m + 1) := rfl
    have e4 : cz (sl f) g (m + 1) = sl f 0 * g (m + 1) + cz (fun i => sl f (i + 1)) g m := rfl
    have e5 : cz f (sl g) (m + 1) = f 0 * sl g (m + 1) + cz (fun i => f (i + 1)) (sl g) m := rfl
    have e6 : sl f 0 = f 1 := by simp only [sl, nat_one]; (apply Z.ext <;> simp only [Z.add_re, Z.add_im, Z.sub_re, Z.sub_im, Z.neg_re, Z.neg_im, Z.mul_re, Z.mul_im, Z.zero_re, Z.zero_im, Z.one_re, Z.one_im, Z.nat_re, Z.nat_im, Z.lit_re, Z.lit_im] <;> grind)
    have e7 : sl g (m + 1) = ((m + 1 + 1 : Nat) : Z) * g (m + 1 + 1) := rfl
    have h' : ((m + 1 : Nat) : Z) * cz (fun i => f (i + 1)) g (m + 1) = cz (sl fun i => f (i + 1)) g m + cz (fun i => f (i + 1)) (sl g) m := h
    show ((m + 1 + 1 : Nat) : Z) * cz f g (m + 1 + 1) = _
    rw [e4, e5, e6, e7, e1, e3]
    have e8 := nat_succ (m + 1)
    rw [e8]
    generalize ((m + 1 : Nat) : Z) = q at *
    generalize cz (fun i => f (i + 1)) g (m + 1) = x at *
    (simp only [Z.eq_iff, Z.add_re, Z.add_im, Z.sub_re, Z.sub_im, Z.neg_re, Z.neg_im, Z.mul_re, Z.mul_im, Z.zero_re, Z.zero_im, Z.one_re, Z.one_im, Z.nat_re, Z.nat_im, Z.lit_re, Z.lit_im] at * <;> grind)

theorem Le.of_mul {z : Z} {k : Nat} {M : Rat} (h : Le ((k : Z) * z) ((k : Rat) * M)) (k1 : 1 ≤ k) (hM : 0 ≤ M) : Le z M := by
  have hk : (1 : Rat) ≤ (k : Rat) := Rat.natCast_le_natCast.2 k1
  refine ⟨hM, ?_⟩
  have h1 := h.out
  simp only [Z.mul_re, Z.mul_im, Z.nat_re, Z.nat_im] at h1
  apply Decidable.byContradiction
  intro hc
  have hc := Rat.not_le.1 hc
  have h2 := Rat.mul_nonneg (show 0 ≤ (k : Rat) * (k : Rat) - 1 by have := Rat.mul_nonneg (show 0 ≤ (k : Rat) - 1 by grind) (show 0 ≤ (k : Rat) - 1 by grind); grind) (show 0 ≤ (z.re * z.re + z.im * z.im) - M * M by grind)
  grind

theorem log_alg {ex xi bp s q : Nat → Z} {s1 s2 s3 X Bp : Nat → Rat} {s4 : Rat} {m : Nat}
    (h1 : ∀ i, i ≤ m → Le (s i - sl ex i) (s1 i)) (h2 : ∀ i, i ≤ m → Le (sl ex i - cz bp ex i) (s2 i)) (h3 : ∀ i, i ≤ m → Le (cz ex xi i - d0 i) (s3 i)) (h4 : Le (q m - cz s xi m) s4)
    (hX : ∀ i, i ≤ m → Le (xi i) (X i)) (hB : ∀ i, i ≤ m → Le (bp i) (Bp i)) : Le (q m - bp m) (s4 + cr (fun i => s1 i + s2 i) X m + cr Bp s3 m) := by
  have k1 : Le (cz (fun i => s i - cz bp ex i) xi m) (cr (fun i => s1 i + s2 i) X m) := Le.cz (fun i hi => ((h1 i hi).add (h2 i hi)).of_eq (by (apply Z.ext <;> simp only [Z.add_re, Z.add_im, Z.sub_re, Z.sub_im, Z.neg_re, Z.neg_im, Z.mul_re, Z.mul_im, Z.zero_re, Z.zero_im, Z.one_re, Z.one_im, Z.nat_re, Z.nat_im, Z.lit_re, Z.lit_im] <;> grind))) hX
  have k2 : Le (cz bp (fun i => cz ex xi i - d0 i) m) (cr Bp s3 m) := Le.cz hB h3
  rw [cz_sub, cz_assoc] at k1
  rw [cz_sub_right, cz_d0] at k2
  exact ((h4.add k1).add k2).of_eq (by (apply Z.ext <;> simp only [Z.add_re, Z.add_im, Z.sub_re, Z.sub_im, Z.neg_re, Z.neg_im, Z.mul_re, Z.mul_im, Z.zero_re, Z.zero_im, Z.one_re, Z.one_im, Z.nat_re, Z.nat_im, Z.lit_re, Z.lit_im] <;> grind))

/-- A half. -/
def hz : Z := ⟨1 / 2, 0⟩
theorem hz2 : hz + hz = 1 := by
  apply Z.ext
  · show (1 / 2 : Rat) + 1 / 2 = 1
    grind
  · show (0 : Rat) + 0 = 0
    grind

theorem r1_alg {a iv sa aq al t h : Nat → Z} {Ei pA Pa Mi Eas Eaq Eal Et Mh Eh : Nat → Rat} {m : Nat}
    (ha : ∀ i, i ≤ m → Le (a i) (Pa i)) (hap : ∀ i, i ≤ m → Le (sl a i) (pA i)) (hiv : ∀ i, i ≤ m → Le (iv i) (Mi i)) (hei : ∀ i, i ≤ m → Le (cz a iv i - d0 i) (Ei i))
    (has : ∀ i, i ≤ m → Le (sa i - sl a i) (Eas i)) (haq : ∀ i, i ≤ m → Le (aq i - cz sa iv i) (Eaq i)) (hal : ∀ i, i ≤ m → Le (sl al i - aq i) (Eal (i + 1)))
    (ht : ∀ i, i ≤ m → Le (t (i + 1) - hz * al (i + 1)) (Et (i + 1))) (hh : ∀ i, i ≤ m → Le (h i) (Mh i)) (he : ∀ i, i ≤ m → Le (sl h i - cz (sl t) h i) (Eh (i + 1))) :
    Le (cz a (sl h) m - hz * cz (sl a) h m) (cr (fun i => 1 / 2 * cr Ei pA i + cr Pa (fun i => ((i + 1 : Nat) : Rat) * Et (i + 1) + 1 / 2 * (Eal (i + 1) + Eaq i + cr Eas Mi i)) i) Mh m + cr Pa (fun i => Eh (i + 1)) m) := by
  have hlf : Le hz (1 / 2) := halfZ_le
  have htau : ∀ i, i ≤ m → Le (sl t i - hz * cz (sl a) iv i) (((i + 1 : Nat) : Rat) * Et (i + 1) + 1 / 2 * (Eal (i + 1) + Eaq i + cr Eas Mi i)) := by
    intro i hi
    have k1 := (natZ_le (i + 1)).mul (ht i hi)
    have k2 : Le (cz (fun i => sa i - sl a i) iv i) (cr Eas Mi i) := Le.cz (fun j hj => has j (by omega)) (fun j hj => hiv j (by omega))
    rw [cz_sub] at k2
    have k3 := hlf.mul (((hal i hi).add (haq i hi)).add k2)
    refine (k1.add k3).of_eq ?_
    simp only [sl]
    (apply Z.ext <;> simp only [Z.add_re, Z.add_im, Z.sub_re, Z.sub_im, Z.neg_re, Z.neg_im, Z.mul_re, Z.mul_im, Z.zero_re, Z.zero_im, Z.one_re, Z.one_im, Z.nat_re, Z.nat_im, Z.lit_re, Z.lit_im] <;> grind)
  have hct : ∀ i, i ≤ m → Le (cz a (sl t) i - hz * sl a i) (1 / 2 * cr Ei pA i + cr Pa (fun i => ((i + 1 : Nat) : Rat) * Et (i + 1) + 1 / 2 * (Eal (i + 1) + Eaq i + cr Eas Mi i)) i) := by
    intro i hi
    have k1 : Le (cz (fun i => cz a iv i - d0 i) (sl a) i) (cr Ei pA i) := Le.cz (fun j hj => hei j (by omega)) (fun j hj => hap j (by omega))
    have k2 : Le (cz a (fun i => sl t i - hz * cz (sl a) iv i) i) _ := Le.cz (fun j hj => ha j (by omega)) (fun j hj => htau j (by omega))
    rw [cz_sub_right, cz_smul_right] at k2
    rw [cz_sub, cz_comm d0, cz_d0, cz_assoc] at k1
    have e1 : cz a (cz (sl a) iv) i = cz a (cz iv (sl a)) i := cz_congr (fun _ _ => rfl) (fun j _ => cz_comm _ _ _)
    rw [e1] at k2
    exact ((hlf.mul k1).add k2).of_eq (by (apply Z.ext <;> simp only [Z.add_re, Z.add_im, Z.sub_re, Z.sub_im, Z.neg_re, Z.neg_im, Z.mul_re, Z.mul_im, Z.zero_re, Z.zero_im, Z.one_re, Z.one_im, Z.nat_re, Z.nat_im, Z.lit_re, Z.lit_im] <;> grind))
  have k1 : Le (cz (fun i => cz a (sl t) i - hz * sl a i) h m) _ := Le.cz hct hh
  have k2 : Le (cz a (fun i => sl h i - cz (sl t) h i) m) (cr Pa (fun i => Eh (i + 1)) m) := Le.cz ha he
  rw [cz_sub, cz_assoc, cz_smul] at k1
  rw [cz_sub_right] at k2
  exact (k1.add k2).of_eq (by (apply Z.ext <;> simp only [Z.add_re, Z.add_im, Z.sub_re, Z.sub_im, Z.neg_re, Z.neg_im, Z.mul_re, Z.mul_im, Z.zero_re, Z.zero_im, Z.one_re, Z.one_im, Z.nat_re, Z.nat_im, Z.lit_re, Z.lit_im] <;> grind))

theorem r2_alg {a r : Nat → Z} {Er Mr : Nat → Rat} {m : Nat} (hr : ∀ i, i ≤ m → Le (r i) (Mr i)) (hrp : ∀ i, i ≤ m → Le (r (i + 1)) (Mr (i + 1))) (hE : ∀ i, i ≤ m + 1 → Le (cz r r i - a i) (Er i)) :
    Le (cz a (sl r) m - hz * cz (sl a) r m) (1 / 2 * cr Mr (fun i => ((i + 1 : Nat) : Rat) * Er (i + 1)) m + cr Er (fun i => ((i + 1 : Nat) : Rat) * Mr (i + 1)) m) := by
  have hlf : Le hz (1 / 2) := halfZ_le
  have k1 : Le (cz r (fun i => sl (fun j => cz r r j - a j) i) m) (cr Mr (fun i => ((i + 1 : Nat) : Rat) * Er (i + 1)) m) := Le.cz hr (fun i hi => (natZ_le (i + 1)).mul (hE (i + 1) (by omega)))
  have k2 : Le (cz (fun i => cz r r i - a i) (sl r) m) (cr Er (fun i => ((i + 1 : Nat) : Rat) * Mr (i + 1)) m) := Le.cz (fun i hi => hE i (by omega)) (fun i hi => (natZ_le (i + 1)).mul (hrp i hi))
  have e1 : ∀ i, sl (fun j => cz r r j - a j) i = (cz r (sl r) i + cz r (sl r) i) - sl a i := by
    intro i
    have h1 : sl (fun j => cz r r j - a j) i = sl (cz r r) i - sl a i := by simp only [sl]; (apply Z.ext <;> simp only [Z.add_re, Z.add_im, Z.sub_re, Z.sub_im, Z.neg_re, Z.neg_im, Z.mul_re, Z.mul_im, Z.zero_re, Z.zero_im, Z.one_re, Z.one_im, Z.nat_re, Z.nat_im, Z.lit_re, Z.lit_im] <;> grind)
    rw [h1, sl_cz, cz_comm (sl r) r]
  rw [cz_congr (f' := r) (g' := fun i => (cz r (sl r) i + cz r (sl r) i) - sl a i) (fun _ _ => rfl) (fun i _ => e1 i)] at k1
  rw [cz_sub_right, cz_add_right, cz_comm r (sl a)] at k1
  rw [cz_sub, cz_assoc] at k2
  have hh := hz2
  refine ((hlf.mul k1).add k2.neg).of_eq ?_
  have e2 : hz * (cz r (cz r (sl r)) m + cz r (cz r (sl r)) m - cz (sl a) r m) = (hz + hz) * cz r (cz r (sl r)) m - hz * cz (sl a) r m := by (apply Z.ext <;> simp only [Z.add_re, Z.add_im, Z.sub_re, Z.sub_im, Z.neg_re, Z.neg_im, Z.mul_re, Z.mul_im, Z.zero_re, Z.zero_im, Z.one_re, Z.one_im, Z.nat_re, Z.nat_im, Z.lit_re, Z.lit_im] <;> grind)
  rw [e2, hh]
  (simp only [Z.eq_iff, Z.add_re, Z.add_im, Z.sub_re, Z.sub_im, Z.neg_re, Z.neg_im, Z.mul_re, Z.mul_im, Z.zero_re, Z.zero_im, Z.one_re, Z.one_im, Z.nat_re, Z.nat_im, Z.lit_re, Z.lit_im] at * <;> grind)
end Go.Proofs.Ytdpogmibahaklaa
