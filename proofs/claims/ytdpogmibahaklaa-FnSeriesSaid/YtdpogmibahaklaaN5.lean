/- Sums of products, and how far they lie from the exact ones. -/
import Derived.Test.YtdpogmibahaklaaN4
set_option linter.unusedVariables false
set_option linter.unusedSimpArgs false
namespace Go.Proofs.Ytdpogmibahaklaa

/-- What is added: at most w, and e beside what it should be. -/
def accB (w e : Nat → Rat) : Nat → Nat → Rat → Rat → Rat × Rat
  | 0, _, S, E => (S, E)
  | n + 1, i, S, E => accB w e n (i + 1) ((S + w i) + (vv * (S + w i) + tt)) (E + e i + (vv * (S + w i) + tt))
theorem accB_ge {w e : Nat → Rat} {n i : Nat} {S E : Rat} (hS : 0 ≤ S) (hw : ∀ j, i ≤ j → j < i + n → 0 ≤ w j) : S ≤ (accB w e n i S E).1 := by
  induction n generalizing i S E with
  | zero => simp only [accB]; grind
  | succ n ih =>
    have h0 := hw i (by omega) (by omega)
    have h1 : 0 ≤ (S + w i) + (vv * (S + w i) + tt) := by unfold vv tt; grind
    have := ih (i := i + 1) (E := E + e i + (vv * (S + w i) + tt)) h1 (fun j h2 h3 => hw j (by omega) (by omega))
    simp only [accB]
    have h2 : S ≤ (S + w i) + (vv * (S + w i) + tt) := by unfold vv tt; grind
    grind

theorem acc_Z {f : Nat → Option C} {X : Nat → Z} {w e : Nat → Rat} {n i : Nat} {acc : C} {A : Z} {S E : Rat}
    (hf : ∀ j, i ≤ j → j < i + n → ∃ p, f j = some p ∧ Fin p ∧ Le (V p) (w j) ∧ Le (V p - X j) (e j)) (ha : Fin acc) (hS : Le (V acc) S) (hE : Le (V acc - A) E)
    (hb : (accB w e n i S E).1 ≤ big) :
    ∃ r, stepsF (fun j acc => (f j).bind fun p => plusF acc p) n i acc = some r ∧ Fin r ∧ Le (V r) (accB w e n i S E).1 ∧ Le (V r - (A + sumZ X n i)) (accB w e n i S E).2 := by
  induction n generalizing i acc A S E with
  | zero =>
    refine ⟨acc, rfl, ha, hS, ?_⟩
    exact hE.of_eq (by simp only [sumZ]; (apply Z.ext <;> simp only [Z.add_re, Z.add_im, Z.sub_re, Z.sub_im, Z.neg_re, Z.neg_im, Z.mul_re, Z.mul_im, Z.zero_re, Z.zero_im, Z.one_re, Z.one_im, Z.nat_re, Z.nat_im, Z.lit_re, Z.lit_im] <;> grind))
  | succ n ih =>
    obtain ⟨p, ep, fp, lp, dp⟩ := hf i (by omega) (by omega)
    have hw : ∀ j, i + 1 ≤ j → j < i + 1 + n → 0 ≤ w j := by
      intro j h1 h2
      obtain ⟨_, _, _, l, _⟩ := hf j (by omega) (by omega)
      exact l.pos
    have h0 := lp.pos
    have h00 := hS.pos
    have h1 : 0 ≤ (S + w i) + (vv * (S + w i) + tt) := by unfold vv tt; grind
    simp only [accB] at hb
    have hge := accB_ge (e := e) (E := E + e i + (vv * (S + w i) + tt)) h1 hw
    obtain ⟨r, er, fr, dr⟩ := plus_Z ha fp (hS.add lp) (by unfold vv tt at *; grind)
    have hS' : Le (V r) ((S + w i) + (vv * (S + w i) + tt)) := ((hS.add lp).add dr).of_eq (by (apply Z.ext <;> simp only [Z.add_re, Z.add_im, Z.sub_re, Z.sub_im, Z.neg_re, Z.neg_im, Z.mul_re, Z.mul_im, Z.zero_re, Z.zero_im, Z.one_re, Z.one_im, Z.nat_re, Z.nat_im, Z.lit_re, Z.lit_im] <;> grind))
    have hE' : Le (V r - (A + X i)) (E + e i + (vv * (S + w i) + tt)) := ((hE.add dp).add dr).of_eq (by (apply Z.ext <;> simp only [Z.add_re, Z.add_im, Z.sub_re, Z.sub_im, Z.neg_re, Z.neg_im, Z.mul_re, Z.mul_im, Z.zero_re, Z.zero_im, Z.one_re, Z.one_im, Z.nat_re, Z.nat_im, Z.lit_re, Z.lit_im] <;> grind))
    obtain ⟨r', er', fr', l1, l2⟩ := ih (fun j h1 h2 => hf j (by omega) (by omega)) fr hS' hE' hb
    refine ⟨r', ?_, fr', l1, ?_⟩
    · rw [stepsF]
      simp only [ep, Option.bind_some, er]
      exact er'
    · simp only [accB]
      exact l2.of_eq (by simp only [sumZ]; (apply Z.ext <;> simp only [Z.add_re, Z.add_im, Z.sub_re, Z.sub_im, Z.neg_re, Z.neg_im, Z.mul_re, Z.mul_im, Z.zero_re, Z.zero_im, Z.one_re, Z.one_im, Z.nat_re, Z.nat_im, Z.lit_re, Z.lit_im] <;> grind))

/-- The numbers of a list, and how great they are. -/
def Vl (l : List C) (i : Nat) : Z := V (l.getD i zero)
def Good (l : List C) (P : Nat → Rat) (i : Nat) : Prop := Fin (l.getD i zero) ∧ Le (Vl l i) (P i)

def mixW (P Q : Nat → Rat) (k j : Nat) : Rat := P j * Q (k - j) + (vv * (P j * Q (k - j)) + tt)
def mixE (P Q : Nat → Rat) (k j : Nat) : Rat := vv * (P j * Q (k - j)) + tt

theorem mix_Z {a b : List C} {P Q : Nat → Rat} {k n i : Nat} (ha : ∀ j, i ≤ j → j < i + n → Good a P j) (hb : ∀ j, i ≤ j → j < i + n → Good b Q (k - j))
    (hbig : (accB (mixW P Q k) (mixE P Q k) n i 0 0).1 ≤ big) (hsm : ∀ j, i ≤ j → j < i + n → P j * Q (k - j) ≤ big) :
    ∃ r, mixF a b k n i = some r ∧ Fin r ∧ Le (V r) (accB (mixW P Q k) (mixE P Q k) n i 0 0).1 ∧ Le (V r - sumZ (fun j => Vl a j * Vl b (k - j)) n i) (accB (mixW P Q k) (mixE P Q k) n i 0 0).2 := by
  have := acc_Z (f := fun j => mulF (a.getD j zero) (b.getD (k - j) zero)) (X := fun j => Vl a j * Vl b (k - j)) (w := mixW P Q k) (e := mixE P Q k) (n := n) (i := i) (acc := zero) (A := 0) (S := 0) (E := 0) ?_ Fin_zero (Le.zero.of_eq V_zero.symm) (Le.zero.of_eq (by rw [V_zero]; (apply Z.ext <;> simp only [Z.add_re, Z.add_im, Z.sub_re, Z.sub_im, Z.neg_re, Z.neg_im, Z.mul_re, Z.mul_im, Z.zero_re, Z.zero_im, Z.one_re, Z.one_im, Z.nat_re, Z.nat_im, Z.lit_re, Z.lit_im] <;> grind))) hbig
  · obtain ⟨r, e1, e2, e3, e4⟩ := this
    exact ⟨r, e1, e2, e3, e4.of_eq (by (apply Z.ext <;> simp only [Z.add_re, Z.add_im, Z.sub_re, Z.sub_im, Z.neg_re, Z.neg_im, Z.mul_re, Z.mul_im, Z.zero_re, Z.zero_im, Z.one_re, Z.one_im, Z.nat_re, Z.nat_im, Z.lit_re, Z.lit_im] <;> grind))⟩
  · intro j h1 h2
    have ga := ha j h1 h2
    have gb := hb j h1 h2
    obtain ⟨p, ep, fp, dp⟩ := mul_Z ga.1 gb.1 ga.2 gb.2 (hsm j h1 h2)
    refine ⟨p, ep, fp, ?_, dp⟩
    exact ((ga.2.mul gb.2).add dp).of_eq (by unfold Vl; (apply Z.ext <;> simp only [Z.add_re, Z.add_im, Z.sub_re, Z.sub_im, Z.neg_re, Z.neg_im, Z.mul_re, Z.mul_im, Z.zero_re, Z.zero_im, Z.one_re, Z.one_im, Z.nat_re, Z.nat_im, Z.lit_re, Z.lit_im] <;> grind))

/-- Steps that keep an invariant come to the end. -/
theorem stepsF_build {σ : Type} {f : Nat → σ → Option σ} (I : Nat → σ → Prop) {N : Nat} (hf : ∀ i s, i < N → I i s → ∃ s', f i s = some s' ∧ I (i + 1) s') :
    ∀ (n i : Nat) (s : σ), i + n = N → I i s → ∃ r, stepsF f n i s = some r ∧ I N r
  | 0, i, s, h, hI => ⟨s, rfl, by rw [← h]; exact hI⟩
  | n + 1, i, s, h, hI => by
    obtain ⟨s', e, hI'⟩ := hf i s (by omega) hI
    obtain ⟨r, er, hr⟩ := stepsF_build I hf n (i + 1) s' (by omega) hI'
    exact ⟨r, by rw [stepsF, e]; exact er, hr⟩

theorem getD_set {l : List C} {k : Nat} {x : C} (j : Nat) (h : k < l.length) : (l.set k x).getD j zero = if j = k then x else l.getD j zero := by
  simp only [List.getD_eq_getElem?_getD, List.getElem?_set]
  by_cases e : k = j
  · subst e; simp [h]
  · rw [if_neg e, if_neg (fun h => e h.symm)]
theorem Vl_set_ne {l : List C} {k j : Nat} {x : C} (h : k < l.length) (hj : j ≠ k) : Vl (l.set k x) j = Vl l j := by unfold Vl; rw [getD_set j h, if_neg hj]
theorem Vl_set_eq {l : List C} {k : Nat} {x : C} (h : k < l.length) : Vl (l.set k x) k = V x := by unfold Vl; rw [getD_set k h, if_pos rfl]
theorem Good.set_ne {l : List C} {P : Nat → Rat} {k j : Nat} {x : C} (hg : Good l P j) (h : k < l.length) (hj : j ≠ k) : Good (l.set k x) P j := by
  unfold Good
  rw [Vl_set_ne h hj, getD_set j h, if_neg hj]
  exact hg
theorem Good.set_eq {l : List C} {P : Nat → Rat} {k : Nat} {x : C} (h : k < l.length) (hx : Fin x) (hP : Le (V x) (P k)) : Good (l.set k x) P k := by
  unfold Good
  rw [Vl_set_eq h, getD_set k h, if_pos rfl]
  exact ⟨hx, hP⟩

/-- 1, 0, 0, .. -/
def d0 (k : Nat) : Z := if k = 0 then 1 else 0

/-- What the bounds of an inverse must keep. -/
def invChk (P M E : Nat → Rat) (k : Nat) : Bool :=
  let s := accB (mixW P M k) (mixE P M k) k 1 0 0
  decide (s.1 ≤ 100000000) && decide (s.1 + (vv * s.1 + tt) ≤ M k) && decide (s.2 + (vv * s.1 + tt) ≤ E k) && (List.range (k + 1)).all (fun j => decide (P j * M (k - j) ≤ 100000000))

theorem inv_Z {a : List C} {P M E : Nat → Rat} {n : Nat} (hl : a.length = n) (hn : 1 ≤ n) (h0 : a.getD 0 zero = one) (ha : ∀ j, j < n → Good a P j) (hM : 1 ≤ M 0) (hE : 0 ≤ E 0)
    (hc : ∀ k, 1 ≤ k → k < n → invChk P M E k = true) :
    ∃ iv, invF a = some iv ∧ iv.length = n ∧ (∀ j, j < n → Good iv M j) ∧ iv.getD 0 zero = one ∧ ∀ j, j < n → Le (cz (Vl a) (Vl iv) j - d0 j) (E j) := by
  have hq : quotF one one = some one := by decide +kernel
  have hbig : 100000000 ≤ big := by unfold big; decide +kernel
  have va0 : Vl a 0 = 1 := by unfold Vl; rw [h0]; exact V_one
  unfold invF
  rw [h0, hq, hl]
  simp only [Option.bind_some]
  have hlr : ((List.replicate n zero).set 0 one).length = n := by simp
  have key := stepsF_build (f := invStepF a) (N := n)
    (fun i out => 1 ≤ i ∧ out.length = n ∧ out.getD 0 zero = one ∧ (∀ j, j < i → Good out M j) ∧ ∀ j, j < i → Le (cz (Vl a) (Vl out) j - d0 j) (E j)) ?_ (n - 1) 1 ((List.replicate n zero).set 0 one) (by omega) ?_
  · obtain ⟨r, er, _, h1, h2, h3, h4⟩ := key
    exact ⟨r, er, h1, h3, h2, h4⟩
  · intro k out hk ⟨k1, ol, o0, og, oe⟩
    have hck := hc k k1 hk
    simp only [invChk, Bool.and_eq_true, decide_eq_true_eq, List.all_eq_true, List.mem_range] at hck
    obtain ⟨⟨⟨c1, c2⟩, c3⟩, c4⟩ := hck
    obtain ⟨s, es, fs, ls, ds⟩ := mix_Z (a := a) (b := out) (P := P) (Q := M) (k := k) (n := k) (i := 1) (fun j h1 h2 => ha j (by omega)) (fun j h1 h2 => og (k - j) (by omega)) (by grind) (fun j h1 h2 => by have := c4 j (by omega); grind)
    generalize (accB (mixW P M k) (mixE P M k) k 1 0 0).1 = S at *
    generalize (accB (mixW P M k) (mixE P M k) k 1 0 0).2 = D at *
    have hS := ls.pos
    obtain ⟨d, ed, fd, vd⟩ := neg_Z fs ls (by grind)
    obtain ⟨q, eq, fq, dq⟩ := quot_Z fd (ls.neg.of_eq vd.symm) (by grind)
    have lq : Le (V q) (S + (vv * S + tt)) := ((ls.neg.of_eq vd.symm).add dq).of_eq (by (apply Z.ext <;> simp only [Z.add_re, Z.add_im, Z.sub_re, Z.sub_im, Z.neg_re, Z.neg_im, Z.mul_re, Z.mul_im, Z.zero_re, Z.zero_im, Z.one_re, Z.one_im, Z.nat_re, Z.nat_im, Z.lit_re, Z.lit_im] <;> grind))
    have hkl : k < out.length := by omega
    refine ⟨out.set k q, ?_, by omega, by simp [ol], ?_, ?_, ?_⟩
    · unfold invStepF
      simp only [es, Option.bind_some, ed, h0, eq]
    · rw [getD_set 0 hkl, if_neg (by omega)]; exact o0
    · intro j hj
      by_cases e : j = k
      · subst e; exact Good.set_eq hkl fq (lq.mono c2)
      · exact (og j (by omega)).set_ne hkl e
    · intro j hj
      by_cases e : j = k
      · subst e
        obtain ⟨m, rfl⟩ : ∃ m, j = m + 1 := ⟨j - 1, by omega⟩
        have hs := sum_cz (Vl a) (Vl out) m 1
        rw [hs] at ds
        have e1 : cz (Vl a) (Vl (out.set (m + 1) q)) (m + 1) = V q + cz (fun j => Vl a (j + 1)) (Vl out) m := by
          rw [cz, Vl_set_eq hkl, va0, cz_congr (g' := Vl out) (fun _ _ => rfl) (fun i hi => Vl_set_ne hkl (by omega))]
          (apply Z.ext <;> simp only [Z.add_re, Z.add_im, Z.sub_re, Z.sub_im, Z.neg_re, Z.neg_im, Z.mul_re, Z.mul_im, Z.zero_re, Z.zero_im, Z.one_re, Z.one_im, Z.nat_re, Z.nat_im, Z.lit_re, Z.lit_im] <;> grind)
        rw [e1]
        have e2 : d0 (m + 1) = 0 := if_neg (by omega)
        rw [e2]
        refine ((ds.neg.add dq).of_eq ?_).mono (by grind)
        rw [vd]
        (apply Z.ext <;> simp only [Z.add_re, Z.add_im, Z.sub_re, Z.sub_im, Z.neg_re, Z.neg_im, Z.mul_re, Z.mul_im, Z.zero_re, Z.zero_im, Z.one_re, Z.one_im, Z.nat_re, Z.nat_im, Z.lit_re, Z.lit_im] <;> grind)
      · rw [cz_congr (g' := Vl out) (fun _ _ => rfl) (fun i hi => Vl_set_ne hkl (by omega))]
        exact oe j (by omega)
  · refine ⟨Nat.le_refl _, hlr, ?_, ?_, ?_⟩
    · rw [getD_set 0 (by simp; omega), if_pos rfl]
    · intro j hj
      obtain rfl : j = 0 := by omega
      exact Good.set_eq (by simp; omega) Fin_one ((Le.one.of_eq V_one.symm).mono hM)
    · intro j hj
      obtain rfl : j = 0 := by omega
      rw [cz, va0, Vl_set_eq (by simp; omega), V_one]
      exact (Le.zero.mono hE).of_eq (by show (0 : Z) = 1 * 1 - d0 0; rw [show d0 0 = 1 from rfl]; (apply Z.ext <;> simp only [Z.add_re, Z.add_im, Z.sub_re, Z.sub_im, Z.neg_re, Z.neg_im, Z.mul_re, Z.mul_im, Z.zero_re, Z.zero_im, Z.one_re, Z.one_im, Z.nat_re, Z.nat_im, Z.lit_re, Z.lit_im] <;> grind))
end Go.Proofs.Ytdpogmibahaklaa
