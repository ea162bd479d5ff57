/- The series of a root, and how far it lies from the exact one. -/
import Derived.Test.YtdpogmibahaklaaN7
set_option linter.unusedVariables false
set_option linter.unusedSimpArgs false
namespace Go.Proofs.Ytdpogmibahaklaa

theorem sumZ_congr {f g : Nat → Z} {n i : Nat} (h : ∀ j, i ≤ j → j < i + n → f j = g j) : sumZ f n i = sumZ g n i := by
  induction n generalizing i with
  | zero => rfl
  | succ n ih => simp only [sumZ]; rw [h i (by omega) (by omega), ih (fun j h1 h2 => h j (by omega) (by omega))]

/-- The product, but for its first and its last summand. -/
theorem inner_cz (f g : Nat → Z) (k : Nat) : cz f g (k + 1) = f 0 * g (k + 1) + sumZ (fun j => f j * g (k + 1 - j)) k 1 + f (k + 1) * g 0 := by
  cases k with
  | zero => simp only [cz, sumZ]; (apply Z.ext <;> simp only [Z.add_re, Z.add_im, Z.sub_re, Z.sub_im, Z.neg_re, Z.neg_im, Z.mul_re, Z.mul_im, Z.zero_re, Z.zero_im, Z.one_re, Z.one_im, Z.nat_re, Z.nat_im, Z.lit_re, Z.lit_im] <;> grind)
  | succ m =>
    rw [cz, cz_last]
    have h := sum_cz f (fun i => g (i + 1)) m 1
    rw [sumZ_congr (g := fun j => f j * g (m + 1 + 1 - j)) (fun j h1 h2 => by rw [show m + 1 - j + 1 = m + 1 + 1 - j by omega])] at h
    rw [← h]
    (simp only [Z.eq_iff, Z.add_re, Z.add_im, Z.sub_re, Z.sub_im, Z.neg_re, Z.neg_im, Z.mul_re, Z.mul_im, Z.zero_re, Z.zero_im, Z.one_re, Z.one_im, Z.nat_re, Z.nat_im, Z.lit_re, Z.lit_im] at * <;> grind)

def rootChk (P M E : Nat → Rat) (k : Nat) : Bool :=
  let s := accB (mixW M M k) (mixE M M k) (k - 1) 1 0 0
  let K := P k + s.1
  let D := K + (vv * K + tt)
  decide (s.1 ≤ 100000000) && decide (K ≤ 100000000) && decide (D ≤ 100000000) && decide (1 / 2 * D + (vv * (1 / 2 * D) + tt) ≤ M k) && decide (s.2 + (vv * K + tt) + 2 * (vv * (1 / 2 * D) + tt) ≤ E k) &&
    (List.range (k + 1)).all (fun j => decide (M j * M (k - j) ≤ 100000000))

theorem half_ok : fin .f32 1056964608 ∧ val .f32 1056964608 = 1 / 2 := ⟨by unfold fin; decide +kernel, by unfold val; decide +kernel⟩
theorem halfZ_le : Le (⟨1 / 2, 0⟩ : Z) (1 / 2) := ⟨by grind, by show (1 / 2 : Rat) * (1 / 2) + 0 * 0 ≤ _; grind⟩

theorem root_Z {a : List C} {P M E : Nat → Rat} {n : Nat} (hl : a.length = n) (hn : 1 ≤ n) (h0 : a.getD 0 zero = one) (ha : ∀ j, j < n → Good a P j) (hM : 1 ≤ M 0) (hE : 0 ≤ E 0)
    (hc : ∀ k, 1 ≤ k → k < n → rootChk P M E k = true) :
    ∃ r, rootF a = some r ∧ r.length = n ∧ r.getD 0 zero = one ∧ (∀ j, j < n → Good r M j) ∧ ∀ j, j < n → Le (cz (Vl r) (Vl r) j - Vl a j) (E j) := by
  have hbig := big_ge
  unfold rootF
  rw [hl]
  have key := stepsF_build (f := fun k out => (mixF out out k (k - 1) 1).bind fun s => (minusF (a.getD k zero) s).bind fun d => (scaleF d 1056964608).bind fun c => some (out.set k c)) (N := n)
    (fun i out => 1 ≤ i ∧ out.length = n ∧ out.getD 0 zero = one ∧ (∀ j, j < i → Good out M j) ∧ ∀ j, j < i → Le (cz (Vl out) (Vl out) j - Vl a j) (E j)) ?_ (n - 1) 1 ((List.replicate n zero).set 0 one) (by omega) ?_
  · obtain ⟨r, er, _, h1, h2, h3, h4⟩ := key
    exact ⟨r, er, h1, h2, h3, h4⟩
  · intro k out hk ⟨k1, ol, o0, og, oe⟩
    have hck := hc k k1 hk
    simp only [rootChk, Bool.and_eq_true, decide_eq_true_eq, List.all_eq_true, List.mem_range] at hck
    obtain ⟨⟨⟨⟨⟨c0, c1⟩, c2⟩, c3⟩, c4⟩, c5⟩ := hck
    obtain ⟨s, es, fs, ls, ds⟩ := mix_Z (a := out) (b := out) (P := M) (Q := M) (k := k) (n := k - 1) (i := 1) (fun j h1 h2 => og j (by omega)) (fun j h1 h2 => og (k - j) (by omega)) (by grind) (fun j h1 h2 => by have := c5 j (by omega); grind)
    generalize (accB (mixW M M k) (mixE M M k) (k - 1) 1 0 0).1 = S at *
    generalize (accB (mixW M M k) (mixE M M k) (k - 1) 1 0 0).2 = D at *
    have g := ha k hk
    obtain ⟨d, ed, fd, dd⟩ := minus_Z g.1 fs (g.2.sub ls) (by grind)
    have ld : Le (V d) ((P k + S) + (vv * (P k + S) + tt)) := ((g.2.sub ls).add dd).of_eq (by unfold Vl; (apply Z.ext <;> simp only [Z.add_re, Z.add_im, Z.sub_re, Z.sub_im, Z.neg_re, Z.neg_im, Z.mul_re, Z.mul_im, Z.zero_re, Z.zero_im, Z.one_re, Z.one_im, Z.nat_re, Z.nat_im, Z.lit_re, Z.lit_im] <;> grind))
    generalize (P k + S) + (vv * (P k + S) + tt) = DD at *
    have lh := halfZ_le.mul ld
    obtain ⟨c, ec, fc, dc⟩ := scale_Z fd half_ok.1 half_ok.2 lh (by grind)
    have lc : Le (V c) (1 / 2 * DD + (vv * (1 / 2 * DD) + tt)) := (lh.add dc).of_eq (by (apply Z.ext <;> simp only [Z.add_re, Z.add_im, Z.sub_re, Z.sub_im, Z.neg_re, Z.neg_im, Z.mul_re, Z.mul_im, Z.zero_re, Z.zero_im, Z.one_re, Z.one_im, Z.nat_re, Z.nat_im, Z.lit_re, Z.lit_im] <;> grind))
    have hkl : k < out.length := by omega
    refine ⟨out.set k c, by simp only [es, Option.bind_some, ed, ec], by omega, by simp [ol], ?_, ?_, ?_⟩
    · rw [getD_set 0 hkl, if_neg (by omega)]; exact o0
    · intro j hj
      by_cases e : j = k
      · subst e; exact Good.set_eq hkl fc (lc.mono c3)
      · exact (og j (by omega)).set_ne hkl e
    · intro j hj
      by_cases e : j = k
      · subst e
        obtain ⟨m, rfl⟩ : ∃ m, j = m + 1 := ⟨j - 1, by omega⟩
        have e0 : Vl (out.set (m + 1) c) 0 = 1 := by
          rw [Vl_set_ne hkl (by omega)]
          unfold Vl
          rw [o0]; exact V_one
        rw [inner_cz, Vl_set_eq hkl, e0]
        rw [sumZ_congr (g := fun j => Vl out j * Vl out (m + 1 - j)) (fun j h1 h2 => by rw [Vl_set_ne hkl (by omega), Vl_set_ne hkl (by omega)])]
        rw [show m + 1 - 1 = m by omega] at ds
        have e2 : (2 : Z) * (⟨1 / 2, 0⟩ : Z) = 1 := by
          apply Z.ext
          · show ((2 : Nat) : Rat) * (1 / 2) - 0 * 0 = 1
            grind
          · show ((2 : Nat) : Rat) * 0 + 0 * (1 / 2) = 0
            grind
        have dc2 := dc.add dc
        refine ((ds.neg.add dd).add dc2).of_eq ?_ |>.mono (by grind)
        have e3 : (2 : Z) * ((⟨1 / 2, 0⟩ : Z) * V d) = V d := by
          have : (2 : Z) * ((⟨1 / 2, 0⟩ : Z) * V d) = ((2 : Z) * (⟨1 / 2, 0⟩ : Z)) * V d := by (apply Z.ext <;> simp only [Z.add_re, Z.add_im, Z.sub_re, Z.sub_im, Z.neg_re, Z.neg_im, Z.mul_re, Z.mul_im, Z.zero_re, Z.zero_im, Z.one_re, Z.one_im, Z.nat_re, Z.nat_im, Z.lit_re, Z.lit_im] <;> grind)
          rw [this, e2]; (simp only [Z.eq_iff, Z.add_re, Z.add_im, Z.sub_re, Z.sub_im, Z.neg_re, Z.neg_im, Z.mul_re, Z.mul_im, Z.zero_re, Z.zero_im, Z.one_re, Z.one_im, Z.nat_re, Z.nat_im, Z.lit_re, Z.lit_im] at * <;> grind)
        generalize (⟨1 / 2, 0⟩ : Z) * V d = q at *
        unfold Vl at *
        (simp only [Z.eq_iff, Z.add_re, Z.add_im, Z.sub_re, Z.sub_im, Z.neg_re, Z.neg_im, Z.mul_re, Z.mul_im, Z.zero_re, Z.zero_im, Z.one_re, Z.one_im, Z.nat_re, Z.nat_im, Z.lit_re, Z.lit_im] at * <;> grind)
      · rw [cz_congr (f' := Vl out) (g' := Vl out) (fun i hi => Vl_set_ne hkl (by omega)) (fun i hi => Vl_set_ne hkl (by omega))]
        exact oe j (by omega)
  · refine ⟨Nat.le_refl _, by simp, ?_, ?_, ?_⟩
    · rw [getD_set 0 (by simp; omega), if_pos rfl]
    · intro j hj
      obtain rfl : j = 0 := by omega
      exact Good.set_eq (by simp; omega) Fin_one ((Le.one.of_eq V_one.symm).mono hM)
    · intro j hj
      obtain rfl : j = 0 := by omega
      rw [cz, Vl_set_eq (by simp; omega), V_one]
      have : Vl a 0 = 1 := by unfold Vl; rw [h0]; exact V_one
      rw [this]
      exact (Le.zero.mono hE).of_eq (by (apply Z.ext <;> simp only [Z.add_re, Z.add_im, Z.sub_re, Z.sub_im, Z.neg_re, Z.neg_im, Z.mul_re, Z.mul_im, Z.zero_re, Z.zero_im, Z.one_re, Z.one_im, Z.nat_re, Z.nat_im, Z.lit_re, Z.lit_im] <;> grind))
end Go.Proofs.Ytdpogmibahaklaa
