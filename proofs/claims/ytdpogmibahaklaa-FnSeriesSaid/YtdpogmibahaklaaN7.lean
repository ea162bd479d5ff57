/- The series of an exponential and of a root, and how far they lie from the exact ones. -/
import Derived.Test.YtdpogmibahaklaaN6
set_option linter.unusedVariables false
set_option linter.unusedSimpArgs false
namespace Go.Proofs.Ytdpogmibahaklaa

def expT (P : Nat → Rat) (j : Nat) : Rat := (j : Rat) * P j + (vv * ((j : Rat) * P j) + tt)
def expW (P M : Nat → Rat) (k j : Nat) : Rat := expT P j * M (k - j) + (vv * (expT P j * M (k - j)) + tt)
def expE (P M : Nat → Rat) (k j : Nat) : Rat := (vv * (expT P j * M (k - j)) + tt) + (vv * ((j : Rat) * P j) + tt) * M (k - j)
def expChk (P M E : Nat → Rat) (k : Nat) : Bool :=
  let s := accB (expW P M k) (expE P M k) k 1 0 0
  let K := s.1 / (k : Rat)
  decide (s.1 ≤ 100000000) && decide (K ≤ 100000000) && decide (K + (2 * vv * K + tt) ≤ M k) && decide (s.2 + (k : Rat) * (2 * vv * K + tt) ≤ E k) &&
    (List.range (k + 1)).all (fun j => decide ((j : Rat) * P j ≤ 100000000) && decide (expT P j * M (k - j) ≤ 100000000))

theorem expMix_Z {a b : List C} {P M : Nat → Rat} {k : Nat} (k7 : k ≤ 7) (ha : ∀ j, 1 ≤ j → j ≤ k → Good a P j) (hb : ∀ j, j < k → Good b M j)
    (hbig : (accB (expW P M k) (expE P M k) k 1 0 0).1 ≤ big) (hsm : ∀ j, j ≤ k → (j : Rat) * P j ≤ big ∧ expT P j * M (k - j) ≤ big) :
    ∃ r, expMixF a b k k 1 = some r ∧ Fin r ∧ Le (V r) (accB (expW P M k) (expE P M k) k 1 0 0).1 ∧ Le (V r - sumZ (fun j => ((j : Z) * Vl a j) * Vl b (k - j)) k 1) (accB (expW P M k) (expE P M k) k 1 0 0).2 := by
  have := acc_Z (f := fun j => (scaleF (a.getD j zero) (floatOfInt .f32 (j : Int))).bind fun t => mulF t (b.getD (k - j) zero)) (X := fun j => ((j : Z) * Vl a j) * Vl b (k - j)) (w := expW P M k) (e := expE P M k) (n := k) (i := 1) (acc := zero) (A := 0) (S := 0) (E := 0) ?_ Fin_zero (Le.zero.of_eq V_zero.symm) (Le.zero.of_eq (by rw [V_zero]; (apply Z.ext <;> simp only [Z.add_re, Z.add_im, Z.sub_re, Z.sub_im, Z.neg_re, Z.neg_im, Z.mul_re, Z.mul_im, Z.zero_re, Z.zero_im, Z.one_re, Z.one_im, Z.nat_re, Z.nat_im, Z.lit_re, Z.lit_im] <;> grind))) hbig
  · obtain ⟨r, e1, e2, e3, e4⟩ := this
    refine ⟨r, ?_, e2, e3, e4.of_eq (by (apply Z.ext <;> simp only [Z.add_re, Z.add_im, Z.sub_re, Z.sub_im, Z.neg_re, Z.neg_im, Z.mul_re, Z.mul_im, Z.zero_re, Z.zero_im, Z.one_re, Z.one_im, Z.nat_re, Z.nat_im, Z.lit_re, Z.lit_im] <;> grind))⟩
    rw [← e1]
    unfold expMixF
    congr 1
    funext j acc
    rw [Option.bind_assoc]
  · intro j h1 h2
    have ga := ha j h1 (by omega)
    have gb := hb (k - j) (by omega)
    obtain ⟨s1, s2⟩ := hsm j (by omega)
    have lk : Le ((⟨(j : Rat), 0⟩ : Z) * V (a.getD j zero)) ((j : Rat) * P j) := (natZ_le j).mul ga.2
    obtain ⟨t, et, ft, dt⟩ := scale_Z ga.1 (ofInt_fin (k := j) (by omega)) (ofInt_val (k := j) (by omega)) lk (by grind)
    have lt : Le (V t) (expT P j) := (lk.add dt).of_eq (by (apply Z.ext <;> simp only [Z.add_re, Z.add_im, Z.sub_re, Z.sub_im, Z.neg_re, Z.neg_im, Z.mul_re, Z.mul_im, Z.zero_re, Z.zero_im, Z.one_re, Z.one_im, Z.nat_re, Z.nat_im, Z.lit_re, Z.lit_im] <;> grind))
    obtain ⟨p, ep, fp, dp⟩ := mul_Z ft gb.1 lt gb.2 (by grind)
    refine ⟨p, by simp only [et, Option.bind_some, ep], fp, ((lt.mul gb.2).add dp).of_eq (by unfold Vl; (apply Z.ext <;> simp only [Z.add_re, Z.add_im, Z.sub_re, Z.sub_im, Z.neg_re, Z.neg_im, Z.mul_re, Z.mul_im, Z.zero_re, Z.zero_im, Z.one_re, Z.one_im, Z.nat_re, Z.nat_im, Z.lit_re, Z.lit_im] <;> grind)), ?_⟩
    refine (dp.add (dt.mul gb.2)).of_eq ?_
    show _ = V p - (j : Z) * V (a.getD j zero) * V (b.getD (k - j) zero)
    have e : (⟨(j : Rat), 0⟩ : Z) = (j : Z) := rfl
    rw [e]
    unfold Vl
    (simp only [Z.eq_iff, Z.add_re, Z.add_im, Z.sub_re, Z.sub_im, Z.neg_re, Z.neg_im, Z.mul_re, Z.mul_im, Z.zero_re, Z.zero_im, Z.one_re, Z.one_im, Z.nat_re, Z.nat_im, Z.lit_re, Z.lit_im] at * <;> grind)

theorem exp_Z {a : List C} {P M E : Nat → Rat} {n : Nat} (hl : a.length = n) (hn : 1 ≤ n) (n7 : n ≤ 7) (ha : ∀ j, j < n → Good a P j) (hM : 1 ≤ M 0)
    (hc : ∀ k, 1 ≤ k → k < n → expChk P M E k = true) :
    ∃ r, expF a = some r ∧ r.length = n ∧ r.getD 0 zero = one ∧ (∀ j, j < n → Good r M j) ∧ ∀ j, j + 1 < n → Le (((j + 1 : Nat) : Z) * Vl r (j + 1) - cz (fun i => ((i + 1 : Nat) : Z) * Vl a (i + 1)) (Vl r) j) (E (j + 1)) := by
  have hbig := big_ge
  unfold expF
  rw [hl]
  have key := stepsF_build (f := fun k out => (expMixF a out k k 1).bind fun s => (partF s (k : Int)).bind fun c => some (out.set k c)) (N := n)
    (fun i out => 1 ≤ i ∧ out.length = n ∧ out.getD 0 zero = one ∧ (∀ j, j < i → Good out M j) ∧ ∀ j, j + 1 < i → Le (((j + 1 : Nat) : Z) * Vl out (j + 1) - cz (fun i => ((i + 1 : Nat) : Z) * Vl a (i + 1)) (Vl out) j) (E (j + 1))) ?_ (n - 1) 1 ((List.replicate n zero).set 0 one) (by omega) ?_
  · obtain ⟨r, er, _, h1, h2, h3, h4⟩ := key
    exact ⟨r, er, h1, h2, h3, h4⟩
  · intro k out hk ⟨k1, ol, o0, og, oe⟩
    have hck := hc k k1 hk
    simp only [expChk, Bool.and_eq_true, decide_eq_true_eq, List.all_eq_true, List.mem_range] at hck
    obtain ⟨⟨⟨⟨c0, c1⟩, c2⟩, c3⟩, c4⟩ := hck
    obtain ⟨s, es, fs, ls, ds⟩ := expMix_Z (a := a) (b := out) (P := P) (M := M) (k := k) (by omega) (fun j h1 h2 => ha j (by omega)) (fun j h1 => og j h1) (by grind) (fun j h1 => by have := c4 j (by omega); grind)
    generalize (accB (expW P M k) (expE P M k) k 1 0 0).1 = S at *
    generalize (accB (expW P M k) (expE P M k) k 1 0 0).2 = D at *
    obtain ⟨c, ec, fc, lc, dc⟩ := part_K fs ls k1 (by omega) (by grind)
    have hkl : k < out.length := by omega
    refine ⟨out.set k c, by simp only [es, Option.bind_some, ec], by omega, by simp [ol], ?_, ?_, ?_⟩
    · rw [getD_set 0 hkl, if_neg (by omega)]; exact o0
    · intro j hj
      by_cases e : j = k
      · subst e; exact Good.set_eq hkl fc (lc.mono c2)
      · exact (og j (by omega)).set_ne hkl e
    · intro j hj
      by_cases e : j + 1 = k
      · subst e
        have hs := sum_cz (fun j => (j : Z) * Vl a j) (Vl out) j 1
        rw [hs] at ds
        rw [Vl_set_eq hkl, cz_congr (g' := Vl out) (fun _ _ => rfl) (fun i hi => Vl_set_ne hkl (by omega))]
        refine ((ds.add dc).of_eq ?_).mono (by grind)
        (apply Z.ext <;> simp only [Z.add_re, Z.add_im, Z.sub_re, Z.sub_im, Z.neg_re, Z.neg_im, Z.mul_re, Z.mul_im, Z.zero_re, Z.zero_im, Z.one_re, Z.one_im, Z.nat_re, Z.nat_im, Z.lit_re, Z.lit_im] <;> grind)
      · rw [Vl_set_ne hkl e, cz_congr (g' := Vl out) (fun _ _ => rfl) (fun i hi => Vl_set_ne hkl (by omega))]
        exact oe j (by omega)
  · refine ⟨Nat.le_refl _, by simp, ?_, ?_, fun j h => absurd h (by omega)⟩
    · rw [getD_set 0 (by simp; omega), if_pos rfl]
    · intro j hj
      obtain rfl : j = 0 := by omega
      exact Good.set_eq (by simp; omega) Fin_one ((Le.one.of_eq V_one.symm).mono hM)
end Go.Proofs.Ytdpogmibahaklaa
