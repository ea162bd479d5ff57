/- Series set into series, and how far they lie from the exact ones. -/
import Derived.Test.YtdpogmibahaklaaN8
set_option linter.unusedVariables false
set_option linter.unusedSimpArgs false
namespace Go.Proofs.Ytdpogmibahaklaa

def at0 (x : Z) (k : Nat) : Z := if k = 0 then x else 0
/-- Stage j of setting b into a, of n numbers. -/
def compZ (a b : Nat → Z) (n : Nat) : Nat → Nat → Z
  | 0, k => at0 (a (n - 1)) k
  | j + 1, k => cz (compZ a b n j) b k + at0 (a (n - 2 - j)) k

/-- Stage j's bounds M j, E j, of numbers at most P (the outer) and B (the inner). -/
def compChk (P : Rat) (B : Nat → Rat) (M E : Nat → Nat → Rat) (j k : Nat) : Bool :=
  let s := accB (mixW (M j) B k) (mixE (M j) B k) (k + 1) 0 0 0
  let D := if k = 0 then vv * (s.1 + P) + tt else 0
  decide (s.1 + P ≤ 100000000) && decide (s.1 + (if k = 0 then P else 0) + D ≤ M (j + 1) k) && decide (s.2 + cr (E j) B k + D ≤ E (j + 1) k) &&
    (List.range (k + 1)).all (fun i => decide (M j i * B (k - i) ≤ 100000000))

/-- What is so at stage j. -/
def CompOk (a b : List C) (n : Nat) (M E : Nat → Nat → Rat) (j : Nat) (out : List C) : Prop :=
  out.length = n ∧ (∀ k, k < n → Good out (M j) k) ∧ ∀ k, k < n → Le (Vl out k - compZ (Vl a) (Vl b) n j k) (E j k)

theorem comp_step {a b : List C} {P : Rat} {B : Nat → Rat} {M E : Nat → Nat → Rat} {n j : Nat} {out : List C} (hn : 2 ≤ n) (hj : j + 1 < n) (ha : ∀ i, i < n → Good a (fun _ => P) i) (hb : ∀ i, i < n → Good b B i)
    (hc : ∀ k, k < n → compChk P B M E j k = true) (h : CompOk a b n M E j out) :
    ∃ m c, mulSF out b n = some m ∧ plusF (m.getD 0 zero) (a.getD (n - 2 - j) zero) = some c ∧ CompOk a b n M E (j + 1) (m.set 0 c) := by
  have hbig := big_ge
  obtain ⟨ol, og, oe⟩ := h
  obtain ⟨m, em, ml, mg, me⟩ := mulS_Z (a := out) (b := b) (P := M j) (Q := B) (M := fun k => (accB (mixW (M j) B k) (mixE (M j) B k) (k + 1) 0 0 0).1) (E := fun k => (accB (mixW (M j) B k) (mixE (M j) B k) (k + 1) 0 0 0).2) og hb (by
    intro k hk
    have hck := hc k hk
    have hP := (ha 0 (by omega)).2.pos
    simp only [compChk, Bool.and_eq_true, decide_eq_true_eq] at hck
    simp only [mulChk, Bool.and_eq_true, decide_eq_true_eq]
    refine ⟨⟨⟨by grind, by grind⟩, by grind⟩, hck.2⟩)
  have hg := mg 0 (by omega)
  have hga := ha (n - 2 - j) (by omega)
  have hck0 := hc 0 (by omega)
  simp only [compChk, Bool.and_eq_true, decide_eq_true_eq, if_true] at hck0
  obtain ⟨⟨⟨c1, c2⟩, c3⟩, _⟩ := hck0
  have lsum := hg.2.add hga.2
  obtain ⟨c, ec, fc, dc⟩ := plus_Z hg.1 hga.1 lsum (by grind)
  have hml : 0 < m.length := by omega
  refine ⟨m, c, em, ec, by simp [ml], ?_, ?_⟩
  · intro k hk
    by_cases e : k = 0
    · subst e
      exact Good.set_eq hml fc (((lsum.add dc).of_eq (by unfold Vl; (apply Z.ext <;> simp only [Z.add_re, Z.add_im, Z.sub_re, Z.sub_im, Z.neg_re, Z.neg_im, Z.mul_re, Z.mul_im, Z.zero_re, Z.zero_im, Z.one_re, Z.one_im, Z.nat_re, Z.nat_im, Z.lit_re, Z.lit_im] <;> grind))).mono (by grind))
    · have hck := hc k hk
      simp only [compChk, Bool.and_eq_true, decide_eq_true_eq, if_neg e] at hck
      have g := mg k hk
      refine Good.set_ne (P := M (j + 1)) ⟨g.1, g.2.mono (by grind)⟩ hml e
  · intro k hk
    have hcr : Le (cz (fun i => Vl out i - compZ (Vl a) (Vl b) n j i) (Vl b) k) (cr (E j) B k) := Le.cz (fun i hi => oe i (by omega)) (fun i hi => (hb i (by omega)).2)
    have hlin : cz (fun i => Vl out i - compZ (Vl a) (Vl b) n j i) (Vl b) k = cz (Vl out) (Vl b) k - cz (compZ (Vl a) (Vl b) n j) (Vl b) k := by
      have h1 := cz_add (fun i => Vl out i - compZ (Vl a) (Vl b) n j i) (compZ (Vl a) (Vl b) n j) (Vl b) k
      rw [cz_congr (f' := Vl out) (g' := Vl b) (fun i _ => by (apply Z.ext <;> simp only [Z.add_re, Z.add_im, Z.sub_re, Z.sub_im, Z.neg_re, Z.neg_im, Z.mul_re, Z.mul_im, Z.zero_re, Z.zero_im, Z.one_re, Z.one_im, Z.nat_re, Z.nat_im, Z.lit_re, Z.lit_im] <;> grind)) (fun _ _ => rfl)] at h1
      (simp only [Z.eq_iff, Z.add_re, Z.add_im, Z.sub_re, Z.sub_im, Z.neg_re, Z.neg_im, Z.mul_re, Z.mul_im, Z.zero_re, Z.zero_im, Z.one_re, Z.one_im, Z.nat_re, Z.nat_im, Z.lit_re, Z.lit_im] at * <;> grind)
    rw [hlin] at hcr
    have hme := me k hk
    by_cases e : k = 0
    · subst e
      rw [Vl_set_eq hml]
      refine ((hme.add hcr).add dc).of_eq ?_ |>.mono (by grind)
      simp only [compZ, at0, if_true]
      unfold Vl
      (apply Z.ext <;> simp only [Z.add_re, Z.add_im, Z.sub_re, Z.sub_im, Z.neg_re, Z.neg_im, Z.mul_re, Z.mul_im, Z.zero_re, Z.zero_im, Z.one_re, Z.one_im, Z.nat_re, Z.nat_im, Z.lit_re, Z.lit_im] <;> grind)
    · have hck := hc k hk
      simp only [compChk, Bool.and_eq_true, decide_eq_true_eq, if_neg e] at hck
      rw [Vl_set_ne hml e]
      refine (hme.add hcr).of_eq ?_ |>.mono (by grind)
      simp only [compZ, at0, if_neg e]
      (apply Z.ext <;> simp only [Z.add_re, Z.add_im, Z.sub_re, Z.sub_im, Z.neg_re, Z.neg_im, Z.mul_re, Z.mul_im, Z.zero_re, Z.zero_im, Z.one_re, Z.one_im, Z.nat_re, Z.nat_im, Z.lit_re, Z.lit_im] <;> grind)

theorem comp_Z {a b : List C} {P : Rat} {B : Nat → Rat} {M E : Nat → Nat → Rat} {n : Nat} (hl : a.length = n) (hn : 2 ≤ n) (ha : ∀ i, i < n → Good a (fun _ => P) i) (hb : ∀ i, i < n → Good b B i)
    (hM : P ≤ M 0 0) (hM2 : ∀ k, 0 ≤ M 0 k) (hE : ∀ k, 0 ≤ E 0 k) (hc : ∀ j, j + 1 < n → ∀ k, k < n → compChk P B M E j k = true) :
    ∃ r out m c, composeF a b = some r ∧ CompOk a b n M E (n - 2) out ∧ mulSF out b n = some m ∧ plusF (m.getD 0 zero) (a.getD 0 zero) = some c ∧ r = m.set 0 c ∧ CompOk a b n M E (n - 1) r := by
  unfold composeF
  rw [hl]
  have key := stepsF_build (f := fun j out => (mulSF out b n).bind fun m => (plusF (m.getD 0 zero) (a.getD (n - 2 - j) zero)).bind fun c => some (m.set 0 c)) (N := n - 1)
    (fun i out => CompOk a b n M E i out ∧ (i = n - 1 → ∃ out' m c, CompOk a b n M E (n - 2) out' ∧ mulSF out' b n = some m ∧ plusF (m.getD 0 zero) (a.getD 0 zero) = some c ∧ out = m.set 0 c)) ?_ (n - 1) 0 ((List.replicate n zero).set 0 (a.getD (n - 1) zero)) (by omega) ?_
  · obtain ⟨r, er, h1, h2⟩ := key
    obtain ⟨out, m, c, h3, h4, h5, h6⟩ := h2 rfl
    exact ⟨r, out, m, c, er, h3, h4, h5, h6, h1⟩
  · intro j out hj ⟨h1, _⟩
    obtain ⟨m, c, em, ec, h2⟩ := comp_step hn (by omega) ha hb (hc j (by omega)) h1
    refine ⟨m.set 0 c, by simp only [em, Option.bind_some, ec], h2, ?_⟩
    intro hlast
    obtain rfl : j = n - 2 := by omega
    rw [Nat.sub_self] at ec
    exact ⟨out, m, c, h1, em, ec, rfl⟩
  · have hkl : 0 < (List.replicate n zero).length := by simp; omega
    have g := ha (n - 1) (by omega)
    refine ⟨⟨by simp, ?_, ?_⟩, fun h => absurd h (by omega)⟩
    · intro k hk
      by_cases e : k = 0
      · subst e; exact Good.set_eq hkl g.1 (g.2.mono hM)
      · exact Good.set_ne (Good.rep (hM2 k)) hkl e
    · intro k hk
      refine (Le.zero.mono (hE k)).of_eq ?_
      by_cases e : k = 0
      · subst e
        rw [Vl_set_eq hkl]
        simp only [compZ, at0, if_true]
        unfold Vl
        (apply Z.ext <;> simp only [Z.add_re, Z.add_im, Z.sub_re, Z.sub_im, Z.neg_re, Z.neg_im, Z.mul_re, Z.mul_im, Z.zero_re, Z.zero_im, Z.one_re, Z.one_im, Z.nat_re, Z.nat_im, Z.lit_re, Z.lit_im] <;> grind)
      · rw [Vl_set_ne hkl e]
        simp only [compZ, at0, if_neg e]
        unfold Vl
        rw [getD_rep, V_zero]
        (apply Z.ext <;> simp only [Z.add_re, Z.add_im, Z.sub_re, Z.sub_im, Z.neg_re, Z.neg_im, Z.mul_re, Z.mul_im, Z.zero_re, Z.zero_im, Z.one_re, Z.one_im, Z.nat_re, Z.nat_im, Z.lit_re, Z.lit_im] <;> grind)

/-- b's own number k is met once alone. -/
theorem compZ_low {a b b' : Nat → Z} {n k : Nat} (h : ∀ i, i < k → b i = b' i) (j i : Nat) (hi : i < k) : compZ a b n j i = compZ a b' n j i := by
  induction j generalizing i with
  | zero => rfl
  | succ j ih =>
    simp only [compZ]
    rw [cz_congr (f' := compZ a b' n j) (g' := b') (fun l hl => ih l (by omega)) (fun l hl => h l (by omega))]
theorem compZ_zero {a b : Nat → Z} {n : Nat} (h0 : b 0 = 0) (j : Nat) : compZ a b n j 0 = a (n - 1 - j) := by
  cases j with
  | zero => rfl
  | succ j =>
    simp only [compZ, cz, at0, if_true, h0]
    rw [show n - 2 - j = n - 1 - (j + 1) by omega]
    (apply Z.ext <;> simp only [Z.add_re, Z.add_im, Z.sub_re, Z.sub_im, Z.neg_re, Z.neg_im, Z.mul_re, Z.mul_im, Z.zero_re, Z.zero_im, Z.one_re, Z.one_im, Z.nat_re, Z.nat_im, Z.lit_re, Z.lit_im] <;> grind)
theorem compZ_at {a b b' : Nat → Z} {n k : Nat} (k1 : 1 ≤ k) (h : ∀ i, i < k → b i = b' i) (h0 : b 0 = 0) (j : Nat) :
    compZ a b n (j + 1) k - compZ a b' n (j + 1) k = a (n - 1 - j) * (b k - b' k) := by
  have h0' : b' 0 = 0 := by rw [← h 0 (by omega)]; exact h0
  obtain ⟨m, rfl⟩ : ∃ m, k = m + 1 := ⟨k - 1, by omega⟩
  simp only [compZ, at0]
  rw [if_neg (by omega)]
  have h1 := inner_cz (compZ a b n j) b m
  have h2 := inner_cz (compZ a b' n j) b' m
  have h3 : sumZ (fun i => compZ a b n j i * b (m + 1 - i)) m 1 = sumZ (fun i => compZ a b' n j i * b' (m + 1 - i)) m 1 :=
    sumZ_congr (fun i i1 i2 => by rw [compZ_low h j i (by omega), h (m + 1 - i) (by omega)])
  have h4 := compZ_zero (a := a) (n := n) h0 j
  have h5 := compZ_zero (a := a) (n := n) h0' j
  rw [h1, h2, h3, h4, h5, h0, h0']
  (simp only [Z.eq_iff, Z.add_re, Z.add_im, Z.sub_re, Z.sub_im, Z.neg_re, Z.neg_im, Z.mul_re, Z.mul_im, Z.zero_re, Z.zero_im, Z.one_re, Z.one_im, Z.nat_re, Z.nat_im, Z.lit_re, Z.lit_im] at * <;> grind)
end Go.Proofs.Ytdpogmibahaklaa
