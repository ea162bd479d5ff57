/- Products, slopes and rises of series, and how far they lie from the exact ones. -/
import Derived.Test.YtdpogmibahaklaaN5
set_option linter.unusedVariables false
set_option linter.unusedSimpArgs false
namespace Go.Proofs.Ytdpogmibahaklaa

theorem getD_push {l : List C} {x : C} (j : Nat) : (l ++ [x]).getD j zero = if j = l.length then x else l.getD j zero := by
  simp only [List.getD_eq_getElem?_getD]
  by_cases e : j = l.length
  · subst e; simp
  · rw [if_neg e]
    by_cases h : j < l.length
    · rw [List.getElem?_append_left h]
    · rw [List.getElem?_eq_none (by simp; omega), List.getElem?_eq_none (by omega)]
theorem Vl_push_ne {l : List C} {x : C} {j : Nat} (h : j ≠ l.length) : Vl (l ++ [x]) j = Vl l j := by unfold Vl; rw [getD_push, if_neg h]
theorem Vl_push_eq {l : List C} {x : C} : Vl (l ++ [x]) l.length = V x := by unfold Vl; rw [getD_push, if_pos rfl]
theorem Good.push_ne {l : List C} {P : Nat → Rat} {j : Nat} {x : C} (h : Good l P j) (hj : j ≠ l.length) : Good (l ++ [x]) P j := by
  unfold Good; rw [Vl_push_ne hj, getD_push, if_neg hj]; exact h
theorem Good.push_eq {l : List C} {P : Nat → Rat} {x : C} (hx : Fin x) (hP : Le (V x) (P l.length)) : Good (l ++ [x]) P l.length := by
  unfold Good; rw [Vl_push_eq, getD_push, if_pos rfl]; exact ⟨hx, hP⟩

def mulChk (P Q M E : Nat → Rat) (k : Nat) : Bool :=
  let s := accB (mixW P Q k) (mixE P Q k) (k + 1) 0 0 0
  decide (s.1 ≤ 100000000) && decide (s.1 ≤ M k) && decide (s.2 ≤ E k) && (List.range (k + 1)).all (fun j => decide (P j * Q (k - j) ≤ 100000000))
theorem big_ge : 100000000 ≤ big := by unfold big; decide +kernel

theorem mulS_Z {a b : List C} {P Q M E : Nat → Rat} {n : Nat} (ha : ∀ j, j < n → Good a P j) (hb : ∀ j, j < n → Good b Q j) (hc : ∀ k, k < n → mulChk P Q M E k = true) :
    ∃ r, mulSF a b n = some r ∧ r.length = n ∧ (∀ j, j < n → Good r M j) ∧ ∀ j, j < n → Le (Vl r j - cz (Vl a) (Vl b) j) (E j) := by
  have hbig := big_ge
  have key := stepsF_build (f := fun k out => (mixF a b k (k + 1) 0).bind fun c => some (out ++ [c])) (N := n)
    (fun i out => out.length = i ∧ (∀ j, j < i → Good out M j) ∧ ∀ j, j < i → Le (Vl out j - cz (Vl a) (Vl b) j) (E j)) ?_ n 0 [] (by omega) ⟨rfl, fun j h => absurd h (by omega), fun j h => absurd h (by omega)⟩
  · exact key
  · intro k out hk ⟨ol, og, oe⟩
    have hck := hc k hk
    simp only [mulChk, Bool.and_eq_true, decide_eq_true_eq, List.all_eq_true, List.mem_range] at hck
    obtain ⟨⟨⟨c1, c2⟩, c3⟩, c4⟩ := hck
    obtain ⟨s, es, fs, ls, ds⟩ := mix_Z (a := a) (b := b) (P := P) (Q := Q) (k := k) (n := k + 1) (i := 0) (fun j h1 h2 => ha j (by omega)) (fun j h1 h2 => hb (k - j) (by omega)) (by grind) (fun j h1 h2 => by have := c4 j (by omega); grind)
    have hs := sum_cz (Vl a) (Vl b) k 0
    simp only [Nat.add_zero] at hs
    rw [hs] at ds
    refine ⟨out ++ [s], ?_, by simp [ol], ?_, ?_⟩
    · simp only [es, Option.bind_some]
    · intro j hj
      by_cases e : j = out.length
      · subst e; exact Good.push_eq fs (by rw [ol]; exact ls.mono c2)
      · exact (og j (by omega)).push_ne e
    · intro j hj
      by_cases e : j = out.length
      · subst e; rw [Vl_push_eq, ol]; exact ds.mono c3
      · rw [Vl_push_ne e]; exact oe j (by omega)

/-- The slope: coefficient k is k+1 times the next; the last is zero. -/
theorem slope_Z {a : List C} {P M E : Nat → Rat} {n : Nat} (hl : a.length = n) (hn : 1 ≤ n) (n7 : n ≤ 7) (ha : ∀ j, j < n → Good a P j) (hM : ∀ j, 0 ≤ M j)
    (hc : ∀ k, k + 1 < n → (decide (((k + 1 : Nat) : Rat) * P (k + 1) ≤ 100000000) && decide (((k + 1 : Nat) : Rat) * P (k + 1) + (vv * (((k + 1 : Nat) : Rat) * P (k + 1)) + tt) ≤ M k) && decide (vv * (((k + 1 : Nat) : Rat) * P (k + 1)) + tt ≤ E k)) = true) :
    ∃ r, slopeF a = some r ∧ r.length = n ∧ (∀ j, j < n → Good r M j) ∧ ∀ j, j + 1 < n → Le (Vl r j - ((j + 1 : Nat) : Z) * Vl a (j + 1)) (E j) := by
  have hbig := big_ge
  unfold slopeF
  rw [hl]
  have key := stepsF_build (f := fun k out => (scaleF (a.getD (k + 1) zero) (floatOfInt .f32 ((k : Int) + 1))).bind fun c => some (out.set k c)) (N := n - 1)
    (fun i out => out.length = n ∧ (∀ j, j < n → Good out M j) ∧ ∀ j, j < i → Le (Vl out j - ((j + 1 : Nat) : Z) * Vl a (j + 1)) (E j)) ?_ (n - 1) 0 (List.replicate n zero) (by omega) ?_
  · obtain ⟨r, er, h1, h2, h3⟩ := key
    exact ⟨r, er, h1, h2, fun j hj => h3 j (by omega)⟩
  · intro k out hk ⟨ol, og, oe⟩
    have hck := hc k (by omega)
    simp only [Bool.and_eq_true, decide_eq_true_eq] at hck
    obtain ⟨⟨c1, c2⟩, c3⟩ := hck
    have g := ha (k + 1) (by omega)
    have hfin := ofInt_fin (k := k + 1) (by omega)
    have hval := ofInt_val (k := k + 1) (by omega)
    have ei : ((k : Int) + 1) = ((k + 1 : Nat) : Int) := by omega
    have lk : Le ((⟨((k + 1 : Nat) : Rat), 0⟩ : Z) * V (a.getD (k + 1) zero)) (((k + 1 : Nat) : Rat) * P (k + 1)) := by
      refine Le.mul ⟨Rat.natCast_nonneg, ?_⟩ g.2
      show ((k + 1 : Nat) : Rat) * ((k + 1 : Nat) : Rat) + 0 * 0 ≤ _
      grind
    obtain ⟨c, ec, fc, dc⟩ := scale_Z g.1 hfin hval lk (by grind)
    have hkl : k < out.length := by omega
    refine ⟨out.set k c, ?_, by simp [ol], ?_, ?_⟩
    · rw [ei, ec]; rfl
    · intro j hj
      by_cases e : j = k
      · subst e; exact Good.set_eq hkl fc (((lk.add dc).of_eq (by (apply Z.ext <;> simp only [Z.add_re, Z.add_im, Z.sub_re, Z.sub_im, Z.neg_re, Z.neg_im, Z.mul_re, Z.mul_im, Z.zero_re, Z.zero_im, Z.one_re, Z.one_im, Z.nat_re, Z.nat_im, Z.lit_re, Z.lit_im] <;> grind))).mono c2)
      · exact (og j hj).set_ne hkl e
    · intro j hj
      by_cases e : j = k
      · subst e; rw [Vl_set_eq hkl]; exact (dc.mono c3)
      · rw [Vl_set_ne hkl e]; exact oe j (by omega)
  · refine ⟨by simp, ?_, fun j h => absurd h (by omega)⟩
    intro j hj
    have e : (List.replicate n zero).getD j zero = zero := by
      rw [List.getD_eq_getElem?_getD, List.getElem?_replicate]
      split <;> rfl
    unfold Good Vl
    rw [e]
    exact ⟨Fin_zero, (Le.zero.of_eq V_zero.symm).mono (hM j)⟩

theorem natZ_le (k : Nat) : Le (k : Z) (k : Rat) := ⟨Rat.natCast_nonneg, by simp only [Z.nat_re, Z.nat_im]; grind⟩
theorem getD_rep {n j : Nat} : (List.replicate n zero).getD j zero = zero := by
  rw [List.getD_eq_getElem?_getD, List.getElem?_replicate]
  split <;> rfl
theorem Good.rep {n j : Nat} {M : Nat → Rat} (h : 0 ≤ M j) : Good (List.replicate n zero) M j := by
  unfold Good Vl
  rw [getD_rep]
  exact ⟨Fin_zero, (Le.zero.of_eq V_zero.symm).mono h⟩

/-- A k-th part of a number. -/
theorem part_K {x : C} {k : Nat} {K : Rat} (hx : Fin x) (h : Le (V x) K) (k1 : 1 ≤ k) (k2 : k ≤ 16) (hK : K / (k : Rat) ≤ big) :
    ∃ r, partF x (k : Int) = some r ∧ Fin r ∧ Le (V r) (K / (k : Rat) + (2 * vv * (K / (k : Rat)) + tt)) ∧ Le ((k : Z) * V r - V x) ((k : Rat) * (2 * vv * (K / (k : Rat)) + tt)) := by
  have hk : (1 : Rat) ≤ (k : Rat) := Rat.natCast_le_natCast.2 k1
  have hkk : (k : Rat) * (1 / (k : Rat)) = 1 := by
    rw [Rat.div_def, Rat.one_mul]
    exact Rat.mul_inv_cancel _ (by grind)
  have hinv : 0 ≤ (1 : Rat) / (k : Rat) := by
    generalize (1 : Rat) / (k : Rat) = q at *
    apply Decidable.byContradiction
    intro hn
    have := Rat.mul_nonneg (show 0 ≤ (k : Rat) - 1 by grind) (show 0 ≤ -q by have := Rat.not_le.1 hn; grind)
    grind
  have hKk : 1 / (k : Rat) * K = K / (k : Rat) := by
    rw [Rat.div_def, Rat.div_def]; grind
  have ly : Le ((⟨1 / (k : Rat), 0⟩ : Z) * V x) (K / (k : Rat)) := by
    rw [← hKk]
    refine Le.mul ⟨hinv, ?_⟩ h
    show (1 / (k : Rat)) * (1 / (k : Rat)) + 0 * 0 ≤ _
    grind
  have e1 : (k : Z) * (⟨1 / (k : Rat), 0⟩ : Z) = 1 := by
    apply Z.ext
    · show (k : Rat) * (1 / (k : Rat)) - 0 * 0 = 1
      grind
    · show (k : Rat) * 0 + 0 * (1 / (k : Rat)) = 0
      grind
  have hy : (k : Z) * ((⟨1 / (k : Rat), 0⟩ : Z) * V x) = V x := by
    generalize (⟨1 / (k : Rat), 0⟩ : Z) = q at *
    have : (k : Z) * (q * V x) = ((k : Z) * q) * V x := by (apply Z.ext <;> simp only [Z.add_re, Z.add_im, Z.sub_re, Z.sub_im, Z.neg_re, Z.neg_im, Z.mul_re, Z.mul_im, Z.zero_re, Z.zero_im, Z.one_re, Z.one_im, Z.nat_re, Z.nat_im, Z.lit_re, Z.lit_im] <;> grind)
    rw [this, e1]; (simp only [Z.eq_iff, Z.add_re, Z.add_im, Z.sub_re, Z.sub_im, Z.neg_re, Z.neg_im, Z.mul_re, Z.mul_im, Z.zero_re, Z.zero_im, Z.one_re, Z.one_im, Z.nat_re, Z.nat_im, Z.lit_re, Z.lit_im] at * <;> grind)
  obtain ⟨r, er, fr, dr⟩ := part_Z hx k1 k2 hy ly hK
  generalize (⟨1 / (k : Rat), 0⟩ : Z) * V x = y at *
  refine ⟨r, er, fr, (ly.add dr).of_eq (by (apply Z.ext <;> simp only [Z.add_re, Z.add_im, Z.sub_re, Z.sub_im, Z.neg_re, Z.neg_im, Z.mul_re, Z.mul_im, Z.zero_re, Z.zero_im, Z.one_re, Z.one_im, Z.nat_re, Z.nat_im, Z.lit_re, Z.lit_im] <;> grind)), ?_⟩
  refine ((natZ_le k).mul dr).of_eq ?_
  rw [← hy]; (apply Z.ext <;> simp only [Z.add_re, Z.add_im, Z.sub_re, Z.sub_im, Z.neg_re, Z.neg_im, Z.mul_re, Z.mul_im, Z.zero_re, Z.zero_im, Z.one_re, Z.one_im, Z.nat_re, Z.nat_im, Z.lit_re, Z.lit_im] <;> grind)

def riseChk (P M E : Nat → Rat) (k : Nat) : Bool :=
  let K := P (k - 1) / (k : Rat)
  decide (K ≤ 100000000) && decide (K + (2 * vv * K + tt) ≤ M k) && decide ((k : Rat) * (2 * vv * K + tt) ≤ E k)

theorem rise_Z {a : List C} {P M E : Nat → Rat} {n : Nat} (hl : a.length = n) (hn : 1 ≤ n) (n7 : n ≤ 7) (ha : ∀ j, j + 1 < n → Good a P j) (hM : ∀ j, 0 ≤ M j)
    (hc : ∀ k, 1 ≤ k → k < n → riseChk P M E k = true) :
    ∃ r, riseF a = some r ∧ r.length = n ∧ r.getD 0 zero = zero ∧ (∀ j, j < n → Good r M j) ∧ ∀ j, 1 ≤ j → j < n → Le ((j : Z) * Vl r j - Vl a (j - 1)) (E j) := by
  have hbig := big_ge
  unfold riseF
  rw [hl]
  have key := stepsF_build (f := fun k out => (partF (a.getD (k - 1) zero) (k : Int)).bind fun c => some (out.set k c)) (N := n)
    (fun i out => 1 ≤ i ∧ out.length = n ∧ out.getD 0 zero = zero ∧ (∀ j, j < n → Good out M j) ∧ ∀ j, 1 ≤ j → j < i → Le ((j : Z) * Vl out j - Vl a (j - 1)) (E j)) ?_ (n - 1) 1 (List.replicate n zero) (by omega) ?_
  · obtain ⟨r, er, _, h1, h2, h3, h4⟩ := key
    exact ⟨r, er, h1, h2, h3, h4⟩
  · intro k out hk ⟨k1, ol, o0, og, oe⟩
    have hck := hc k k1 hk
    simp only [riseChk, Bool.and_eq_true, decide_eq_true_eq] at hck
    obtain ⟨⟨c1, c2⟩, c3⟩ := hck
    have g := ha (k - 1) (by omega)
    obtain ⟨c, ec, fc, lc, dc⟩ := part_K g.1 g.2 k1 (by omega) (by grind)
    have hkl : k < out.length := by omega
    refine ⟨out.set k c, by rw [ec]; rfl, by omega, by simp [ol], ?_, ?_, ?_⟩
    · rw [getD_set 0 hkl, if_neg (by omega)]; exact o0
    · intro j hj
      by_cases e : j = k
      · subst e; exact Good.set_eq hkl fc (lc.mono c2)
      · exact (og j hj).set_ne hkl e
    · intro j h1 hj
      by_cases e : j = k
      · subst e; rw [Vl_set_eq hkl]; exact dc.mono c3
      · rw [Vl_set_ne hkl e]; exact oe j h1 (by omega)
  · exact ⟨Nat.le_refl _, by simp, getD_rep, fun j hj => Good.rep (hM j), fun j h1 h2 => absurd h2 (by omega)⟩

def timesChk (c : Rat) (P M E : Nat → Rat) (k : Nat) : Bool :=
  decide (c * P k ≤ 100000000) && decide (c * P k + (vv * (c * P k) + tt) ≤ M k) && decide (vv * (c * P k) + tt ≤ E k)
theorem timesAll_Z {x : C} {c : Rat} {a : List C} {P M E : Nat → Rat} {n : Nat} (hl : a.length = n) (hx : Fin x) (hc0 : Le (V x) c) (ha : ∀ j, j < n → Good a P j) (hc : ∀ k, k < n → timesChk c P M E k = true) :
    ∃ r, timesAllF x a = some r ∧ r.length = n ∧ (∀ j, j < n → Good r M j) ∧ (∀ j, j < n → Le (Vl r j - V x * Vl a j) (E j)) ∧ ∀ j, j < n → mulF x (a.getD j zero) = some (r.getD j zero) := by
  have hbig := big_ge
  unfold timesAllF
  rw [hl]
  have key := stepsF_build (f := fun k out => (mulF x (a.getD k zero)).bind fun c => some (out ++ [c])) (N := n)
    (fun i out => out.length = i ∧ (∀ j, j < i → Good out M j) ∧ (∀ j, j < i → Le (Vl out j - V x * Vl a j) (E j)) ∧ ∀ j, j < i → mulF x (a.getD j zero) = some (out.getD j zero)) ?_ n 0 [] (by omega) ⟨rfl, fun j h => absurd h (by omega), fun j h => absurd h (by omega), fun j h => absurd h (by omega)⟩
  · exact key
  · intro k out hk ⟨ol, og, oe, om⟩
    have hck := hc k hk
    simp only [timesChk, Bool.and_eq_true, decide_eq_true_eq] at hck
    obtain ⟨⟨c1, c2⟩, c3⟩ := hck
    have g := ha k hk
    obtain ⟨s, es, fs, ds⟩ := mul_Z hx g.1 hc0 g.2 (by grind)
    refine ⟨out ++ [s], by rw [es]; rfl, by simp [ol], ?_, ?_, ?_⟩
    · intro j hj
      by_cases e : j = out.length
      · subst e; exact Good.push_eq fs (by rw [ol]; exact ((((hc0.mul g.2).add ds).of_eq (by unfold Vl; (apply Z.ext <;> simp only [Z.add_re, Z.add_im, Z.sub_re, Z.sub_im, Z.neg_re, Z.neg_im, Z.mul_re, Z.mul_im, Z.zero_re, Z.zero_im, Z.one_re, Z.one_im, Z.nat_re, Z.nat_im, Z.lit_re, Z.lit_im] <;> grind))).mono c2))
      · exact (og j (by omega)).push_ne e
    · intro j hj
      by_cases e : j = out.length
      · subst e; rw [Vl_push_eq, ol]; exact ds.mono c3
      · rw [Vl_push_ne e]; exact oe j (by omega)
    · intro j hj
      rw [getD_push]
      by_cases e : j = out.length
      · rw [if_pos e]; rw [e, ol]; exact es
      · rw [if_neg e]; exact om j (by omega)
end Go.Proofs.Ytdpogmibahaklaa
