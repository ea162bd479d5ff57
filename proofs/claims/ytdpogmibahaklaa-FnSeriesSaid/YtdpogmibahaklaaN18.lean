/- The first part of what the statement asks. -/
import Derived.Test.YtdpogmibahaklaaN17
set_option linter.unusedVariables false
set_option linter.unusedSimpArgs false
namespace Go.Proofs.Ytdpogmibahaklaa
theorem near_small {x y : C} (hx : Fin x) (hy : Fin y) (h : Le (V x - V y) (1 / 10000)) : Near x y c001 := by
  obtain ⟨c1, c2, c3⟩ := c001_ok
  exact near_Z hx hy h c1 c2 (by decide +kernel) (by decide +kernel)
theorem partS {n : Nat} {iv ex rt : List C} (n2 : 2 ≤ n) (n7 : n ≤ 7) (g1 : ∀ j, j < n → Good iv (fn tMi) j) (g3 : ∀ j, j < n → Good ex (fn tMx) j) (g8 : ∀ j, j < n → Good rt (fn tMr) j) (z1 : iv.getD 0 zero = one) :
    ∃ sc, scaleAllF iv ex rt n = some sc ∧ fin .f64 sc ∧ 1 ≤ val .f64 sc ∧ val .f64 sc ≤ 2000 := by
  have p1 : ∀ j, j < n → fn tMi j ≤ 1000 := fun j hj => (le1000 j (rg n7 hj)).1
  have p2 : ∀ j, j < n → fn tMx j ≤ 1000 := fun j hj => (le1000 j (rg n7 hj)).2.1
  have p3 : ∀ j, j < n → fn tMr j ≤ 1000 := fun j hj => (le1000 j (rg n7 hj)).2.2.1
  have n1 : 1 ≤ n := by omega
  exact scale_ok (P := fn tMi) (Q := fn tMx) (R := fn tMr) g1 g3 g8 z1 p1 p2 p3 n1
theorem partM {sc : Nat} (fsc : fin .f64 sc) (lo : 1 ≤ val .f64 sc) (hi : val .f64 sc ≤ 2000) : ∃ m, mostF sc = some m ∧ fin .f64 m ∧ 399 / 100000 ≤ val .f64 m := by
  have h : (2000 : Rat) ≤ 1000000 := by decide +kernel
  exact most_Z (M := 2000) fsc lo hi h
theorem s2_near {n : Nat} {a ri sl' : List C} (n7 : n ≤ 7) (ga : ∀ j, j < n → Good a (fn tPa) j) (g11 : ∀ j, j < n → Good sl' (fn tMs2) j)
    (r10 : ∀ j, 1 ≤ j → j < n → Le ((j : Z) * Vl ri j - Vl a (j - 1)) (fn tEri j)) (r11 : ∀ j, j + 1 < n → Le (Vl sl' j - ((j + 1 : Nat) : Z) * Vl ri (j + 1)) (fn tEs2 j)) :
    ∀ k, k + 1 < n → Near (sl'.getD k zero) (a.getD k zero) c001 := by
  intro k hk
  have h10 := r10 (k + 1) (by omega) hk
  rw [show k + 1 - 1 = k by omega] at h10
  have h := (r11 k hk).add h10
  have f1 := (g11 k (by omega)).1
  have f2 := (ga k (by omega)).1
  have f3 := e_s2 k (rg n7 (by omega)) (by omega)
  exact near_small f1 f2 ((h.of_eq (by unfold Vl; (apply Z.ext <;> simp only [Z.add_re, Z.add_im, Z.sub_re, Z.sub_im, Z.neg_re, Z.neg_im, Z.mul_re, Z.mul_im, Z.zero_re, Z.zero_im, Z.one_re, Z.one_im, Z.nat_re, Z.nat_im, Z.lit_re, Z.lit_im] <;> grind))).mono f3)

theorem ser1 {n : Nat} {a b : List C} (n2 : 2 ≤ n) (n7 : n ≤ 7) (la : a.length = n) (lb : b.length = n) (qa : ∀ x ∈ a, QtrC x) (qb : ∀ x ∈ b, QtrC x) (a0 : a.getD 0 zero = one) (b0 : b.getD 0 zero = zero) :
    ∃ iv un ex lsl liv lq lg rt sq ri sl asl aq al t hf sc mo, SerOk1 n a b iv un ex lsl liv lq lg rt sq ri sl asl aq al t hf sc mo := by
  have n1 : 1 ≤ n := by omega
  have ga := good_a n2 n7 la qa a0
  have gb := good_b n2 n7 lb qb b0
  obtain ⟨iv, un, e1, e2, ⟨l1, l2⟩, g1, z1, r1, g2, r2⟩ := partA n2 n7 la a0 ga
  obtain ⟨ex, e3, l3, z3, g3, r3⟩ := partB n2 n7 lb gb
  obtain ⟨lsl, liv, e4, e5, ⟨l4, l5⟩, g4, r4, g5, r5⟩ := partC n2 n7 l3 z3 g3
  obtain ⟨lq, lg, e6, e7, ⟨l6, l7⟩, z7, g6, r6, g7, r7⟩ := partD n2 n7 g4 g5
  obtain ⟨rt, sq, e8, e9, ⟨l8, l9⟩, z8, g8, r8, g9, r9⟩ := partE n2 n7 la a0 ga
  obtain ⟨ri, sl', e10, e11, ⟨l10, l11⟩, g10, r10, g11, r11⟩ := partF' n2 n7 la ga
  obtain ⟨asl, aq, al, e12, e13, e14, ⟨l12, l13, l14⟩, z14, g12, r12, g13, r13, g14, r14⟩ := partG n2 n7 la ga g1
  obtain ⟨t, hf, e15, e16, ⟨l15, l16⟩, z15, z16, g15, r15, g16, r16⟩ := partH n2 n7 l14 z14 g14
  have hcmp2 := s2_near n7 ga g11 r10 r11
  have hS := partS n2 n7 g1 g3 g8 z1
  obtain ⟨sc, esc, fsc, lo, hi⟩ := hS
  have hM := partM fsc lo hi
  clear lo hi
  obtain ⟨mo, emo, fmo, hmo⟩ := hM
  have Hmo := Lib.hid hmo
  clear hmo
  have hlog := log_err n7 gb b0 r3 r4 g5 r5 r6 z7 r7
  have hhalf := half_err n2 n7 a0 ga g1 r1 r12 r13 r14 r15 z16 g16 r16 z8 g8 r8
  refine ⟨iv, un, ex, lsl, liv, lq, lg, rt, sq, ri, sl', asl, aq, al, t, hf, sc, mo, ?_⟩
  exact {
    sa := ser_of la n1 n7 ga, la := la, az := by rw [a0]; exact isZ_one, ao := by rw [a0]; exact isO_one
    sb := ser_of lb n1 n7 gb, lb := lb, bz := by rw [b0]; exact isZ_zero
    hiv := e1, siv := ser_of l1 n1 n7 g1, hun := e2, sun := ser_of l2 n1 n7 g2
    hex := e3, sex := ser_of l3 n1 n7 g3
    hlg := ⟨ser_of l3 n1 n7 g3, by rw [z3]; exact isO_one, by rw [z3]; exact isZ_one, e4, ser_of l4 n1 n7 g4, e5, ser_of l5 n1 n7 g5, by rw [l3]; exact e6, ser_of l6 n1 n7 g6, e7, ser_of l7 n1 n7 g7⟩
    hrt := e8, srt := ser_of l8 n1 n7 g8, hsq := e9, ssq := ser_of l9 n1 n7 g9
    hri := e10, sri := ser_of l10 n1 n7 g10, hsl := e11, ssl := ser_of l11 n1 n7 g11
    hal := ⟨ser_of la n1 n7 ga, by rw [a0]; exact isO_one, by rw [a0]; exact isZ_one, e12, ser_of l12 n1 n7 g12, e1, ser_of l1 n1 n7 g1, by rw [la]; exact e13, ser_of l13 n1 n7 g13, e14, ser_of l14 n1 n7 g14⟩
    ht := e15, st := ser_of l15 n1 n7 g15, tz := by rw [z15]; exact isZ_zero
    hhf := e16, shf := ser_of l16 n1 n7 g16
    hsc := esc, hmo := emo
    cmp := by
      intro k hk
      have hk7 := rg n7 hk
      refine ⟨?_, ?_, ?_, ?_⟩
      · have h := (r2 k hk).add (r1 k hk)
        exact near_at (g2 k hk).1 (ite_V k).1 (h.of_eq (by rw [(ite_V k).2]; unfold Vl; (apply Z.ext <;> simp only [Z.add_re, Z.add_im, Z.sub_re, Z.sub_im, Z.neg_re, Z.neg_im, Z.mul_re, Z.mul_im, Z.zero_re, Z.zero_im, Z.one_re, Z.one_im, Z.nat_re, Z.nat_im, Z.lit_re, Z.lit_im] <;> grind))) (e_unit k hk7) fmo Hmo.out
      · exact near_at (g7 k hk).1 (gb k hk).1 (hlog k hk) (e_lg2 k hk7) fmo Hmo.out
      · exact near_at (g9 k hk).1 (ga k hk).1 (((r9 k hk).add (r8 k hk)).of_eq (by unfold Vl; (apply Z.ext <;> simp only [Z.add_re, Z.add_im, Z.sub_re, Z.sub_im, Z.neg_re, Z.neg_im, Z.mul_re, Z.mul_im, Z.zero_re, Z.zero_im, Z.one_re, Z.one_im, Z.nat_re, Z.nat_im, Z.lit_re, Z.lit_im] <;> grind))) (e_sq k hk7) fmo Hmo.out
      · exact near_at (g16 k hk).1 (g8 k hk).1 (hhalf k hk) (e_h2 k hk7) fmo Hmo.out
    cmp2 := hcmp2 }
end Go.Proofs.Ytdpogmibahaklaa
