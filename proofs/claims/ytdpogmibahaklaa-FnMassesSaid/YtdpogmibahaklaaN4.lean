/- The length of a complex number, and the quotient by one. -/
import Derived.Test.YtdpogmibahaklaaN3
set_option linter.unusedVariables false
set_option linter.unusedSimpArgs false
namespace Go.Proofs.Ytdpogmibahaklaa

theorem U_lt (k : FloatKind) : U k < 1 := by
  cases k
  · rw [U32]; grind
  · rw [U64]; grind

theorem rd_nonneg {k : FloatKind} {v x : Rat} (hv : Rep k v) (h : Rd k v x) (hx : 0 ≤ x) : 0 ≤ v := by
  apply Decidable.byContradiction
  intro hc
  have hc := Rat.not_le.1 hc
  obtain ⟨s, m, e, h1, h2, h3⟩ := hv
  have hl : 2 * T k = p2 k.format.leastPlace := by
    cases k
    · show 2 * p2 (-150) = p2 (-149)
      rw [← p2_succ]; rfl
    · show 2 * p2 (-1075) = p2 (-1074)
      rw [← p2_succ]; rfl
  have hm : m ≠ 0 := by
    intro h0
    subst h0
    rw [h3] at hc
    cases s <;> simp [sgn] at hc <;> grind
  have hp := p2_mono h2
  have hq := p2_nonneg e
  have h4 : (1 : Rat) ≤ (m : Rat) := Rat.natCast_le_natCast.2 (by omega : 1 ≤ m)
  have h5 := Rat.mul_nonneg (show 0 ≤ (m : Rat) - 1 by grind) hq
  have h6 : v.abs = (m : Rat) * p2 e := by rw [h3]; exact abs_of_number s m e
  have h7 : v.abs = -v := Rat.abs_of_nonpos (by grind)
  unfold Rd at h
  have h8 := abs_le.1 h
  rw [Rat.abs_of_nonneg hx] at h8
  have h9 := U_lt k
  have h10 := Rat.mul_nonneg (show 0 ≤ 1 - U k by grind) hx
  have h11 := T_nonneg k
  have h12 := p2_pos k.format.leastPlace
  grind

theorem long_Z {x : C} {t : Rat} (hx : Fin x) (h : Le (V x) t) (ht : t ≤ big) : ∃ l, longW x = some l ∧ fin .f64 l ∧ val .f64 l ≤ t + vv * t + 1 / 10000000000 := by
  have hp := h.pos
  have hbig : 1 ≤ big := by unfold big; decide +kernel
  have hb := big_lt64
  have hb3 := big_lt
  have hb2 := p2_1000
  have htt : t * t ≤ big * big := by
    have h1 := Rat.mul_nonneg hp (show 0 ≤ big - t by grind)
    have h2 := Rat.mul_nonneg (show 0 ≤ big by grind) (show 0 ≤ big - t by grind)
    grind
  have hbb : 1 ≤ big * big := by unfold big; decide +kernel
  have T6 := T64
  have T60 := T_nonneg .f64
  have T3 := T32
  have T30 := T_nonneg .f32
  have q1 := sq_nonneg (val .f32 x.1)
  have q2 := sq_nonneg (val .f32 x.2)
  have ho : val .f32 x.1 * val .f32 x.1 + val .f32 x.2 * val .f32 x.2 ≤ t * t := h.out
  obtain ⟨a, wa, fa, va⟩ := wide_ok hx.1
  obtain ⟨b, wb, fb, vb⟩ := wide_ok hx.2
  rw [← va, ← vb] at ho
  rw [← va] at q1
  rw [← vb] at q2
  obtain ⟨aa, eaa, faa, daa, _⟩ := mul_ok fa fa (show (val .f64 a * val .f64 a).abs < p2 1023 by rw [Rat.abs_of_nonneg q1]; grind)
  obtain ⟨bb, ebb, fbb, dbb, _⟩ := mul_ok fb fb (show (val .f64 b * val .f64 b).abs < p2 1023 by rw [Rat.abs_of_nonneg q2]; grind)
  have paa := rd_nonneg (val_rep faa) daa q1
  have pbb := rd_nonneg (val_rep fbb) dbb q2
  generalize val .f64 a * val .f64 a = A at *
  generalize val .f64 b * val .f64 b = B at *
  unfold Rd at daa dbb
  rw [Rat.abs_of_nonneg q1, U64] at daa
  rw [Rat.abs_of_nonneg q2, U64] at dbb
  have daa' := abs_le.1 daa
  have dbb' := abs_le.1 dbb
  have ps : 0 ≤ val .f64 aa + val .f64 bb := by grind
  obtain ⟨s, es, fs, ds, _⟩ := add_ok faa fbb (show (val .f64 aa + val .f64 bb).abs < p2 1023 by rw [Rat.abs_of_nonneg ps]; grind)
  have pv := rd_nonneg (val_rep fs) ds ps
  unfold Rd at ds
  rw [Rat.abs_of_nonneg ps, U64] at ds
  have ds' := abs_le.1 ds
  have hs : val .f64 s ≤ t * t + 1 / 1000000000000000 * (t * t) + 5 * T .f64 := by grind
  have hs2 : val .f64 s ≤ (t + 1 / 1000000000000000 * t + 1 / 1000000000000) * (t + 1 / 1000000000000000 * t + 1 / 1000000000000) := by
    have := Rat.mul_nonneg hp hp
    grind
  obtain ⟨r, er, fr, hr⟩ := sqrt_ok fs pv (t + 1 / 1000000000000000 * t + 1 / 1000000000000) (by grind) hs2 (by
    have : big ≤ big * big := by unfold big; decide +kernel
    grind)
  have e50 : p2 (-50) ≤ 1 / 1000000000000000 := by unfold p2; decide +kernel
  have e1075 : p2 (-1075) = T .f64 := rfl
  rw [e1075] at hr
  have hr2 : (val .f64 r).abs ≤ t + 3 / 1000000000000000 * t + 2 / 1000000000000 := by
    have := Rat.mul_nonneg (show 0 ≤ 1 / 1000000000000000 - p2 (-50) by grind) (show 0 ≤ t + 1 / 1000000000000000 * t + 1 / 1000000000000 by grind)
    grind
  obtain ⟨m, em, fm, dm, _⟩ := narrow_ok fr (by grind)
  obtain ⟨l, el, fl, vl⟩ := wide_ok fm
  refine ⟨l, ?_, fl, ?_⟩
  · simp [longW, longF, powerF, wide, wa, wb, eaa, ebb, es, er, narrow, em, el]
  · rw [vl]
    unfold Rd at dm
    rw [U32] at dm
    have dm' := abs_le.1 dm
    have hr3 := abs_le.1 hr2
    generalize (val .f64 r).abs = R at *
    unfold vv
    grind

theorem near_Z {x y : C} {t L : Rat} {m : Nat} (hx : Fin x) (hy : Fin y) (h : Le (V x - V y) t) (hm : fin .f64 m) (hL : L ≤ val .f64 m) (h1 : t ≤ 1) (h2 : t + 3 * vv * t + 2 / 10000000000 ≤ L) : Near x y m := by
  have hp := h.pos
  have hbig : 2 ≤ big := by unfold big; decide +kernel
  obtain ⟨d, ed, fd, hd⟩ := minus_Z hx hy h (by grind)
  have hV : Le (V d) (t + (vv * t + tt)) := (h.add hd).of_eq (by (apply Z.ext <;> simp only [Z.add_re, Z.add_im, Z.sub_re, Z.sub_im, Z.neg_re, Z.neg_im, Z.mul_re, Z.mul_im, Z.zero_re, Z.zero_im, Z.one_re, Z.one_im, Z.nat_re, Z.nat_im, Z.lit_re, Z.lit_im] <;> grind))
  obtain ⟨l, el, fl, hl⟩ := long_Z fd hV (by unfold vv tt; grind)
  refine ⟨l, by simp [farF, ed, el], ?_⟩
  unfold NotGt
  have ho : Ieee.double.order l m = _ := order_ok fl hm
  rw [ho]
  have hle : val .f64 l ≤ val .f64 m := by
    unfold vv tt at *
    grind
  by_cases e1 : val .f64 l < val .f64 m
  · rw [if_pos e1]; rfl
  · rw [if_neg e1, if_pos (by grind)]; rfl

theorem max_Z {x y : Nat} {M : Rat} (hx : fin .f64 x) (hy : fin .f64 y) (h1 : val .f64 x ≤ M) (h2 : val .f64 y ≤ M) : ∃ r, f64max x y = some r ∧ fin .f64 r ∧ val .f64 r ≤ M ∧ val .f64 x ≤ val .f64 r ∧ val .f64 y ≤ val .f64 r := by
  unfold f64max
  have ho : Ieee.double.order x y = _ := order_ok hx hy
  rw [ho]
  by_cases e1 : val .f64 x < val .f64 y
  · rw [if_pos e1]; exact ⟨y, rfl, hy, h2, by grind, by grind⟩
  · rw [if_neg e1]
    by_cases e2 : val .f64 x = val .f64 y
    · rw [if_pos e2]
      refine ⟨if (Ieee.double.read x).neg then y else x, rfl, ?_⟩
      split
      · exact ⟨hy, h2, by grind, by grind⟩
      · exact ⟨hx, h1, by grind, by grind⟩
    · rw [if_neg e2]; exact ⟨x, rfl, hx, h1, by grind, by grind⟩

theorem one64_ok : fin .f64 one64 ∧ val .f64 one64 = 1 := ⟨by unfold fin; decide +kernel, by unfold val; decide +kernel⟩
theorem c001_ok : fin .f64 c001 ∧ 9999999 / 10000000000 ≤ val .f64 c001 ∧ val .f64 c001 ≤ 10000001 / 10000000000 := ⟨by unfold fin; decide +kernel, by unfold val; decide +kernel, by unfold val; decide +kernel⟩

theorem most_Z {s : Nat} {M : Rat} (hs : fin .f64 s) (h1 : 1 ≤ val .f64 s) (h2 : val .f64 s ≤ M) (hM : M ≤ 1000000) : ∃ m, mostF s = some m ∧ fin .f64 m ∧ 399 / 100000 ≤ val .f64 m := by
  obtain ⟨o1, o2⟩ := one64_ok
  obtain ⟨c1, c2, c3⟩ := c001_ok
  have hb : (1000000000000000 : Rat) < p2 1023 := by
    have := p2_1000
    have := big_lt64
    have : (1000000000000000 : Rat) ≤ 4 * (big * big) := by unfold big; decide +kernel
    grind
  have T6 := T64
  have T60 := T_nonneg .f64
  obtain ⟨t, et, ft, dt, _⟩ := add_ok o1 hs (show (val .f64 one64 + val .f64 s).abs < p2 1023 by rw [o2, Rat.abs_of_nonneg (by grind)]; grind)
  unfold Rd at dt
  have pS : 0 ≤ 1 + val .f64 s := by grind
  rw [o2, Rat.abs_of_nonneg pS, U64] at dt
  have dt' := abs_le.1 dt
  have t1 : 199999999 / 100000000 ≤ val .f64 t := by grind
  have t2 : val .f64 t ≤ 2000002 := by grind
  have hm1 : 0 ≤ val .f64 c001 * val .f64 t := Rat.mul_nonneg (by grind) (by grind)
  have hm2 : val .f64 c001 * val .f64 t ≤ 3000 := by
    have := Rat.mul_nonneg (show 0 ≤ 10000001 / 10000000000 - val .f64 c001 by grind) (show 0 ≤ val .f64 t by grind)
    grind
  have hm3 : 1999999 / 1000000000 ≤ val .f64 c001 * val .f64 t := by
    have := Rat.mul_nonneg (show 0 ≤ val .f64 c001 - 9999999 / 10000000000 by grind) (show 0 ≤ val .f64 t by grind)
    grind
  obtain ⟨u, eu, fu, du, _⟩ := mul_ok c1 ft (show (val .f64 c001 * val .f64 t).abs < p2 1023 by rw [Rat.abs_of_nonneg hm1]; grind)
  unfold Rd at du
  rw [Rat.abs_of_nonneg hm1, U64] at du
  have du' := abs_le.1 du
  have u1 : 1999998 / 1000000000 ≤ val .f64 u := by grind
  have u2 : val .f64 u ≤ 3001 := by grind
  have hn1 : 0 ≤ val .f64 u * val .f64 t := Rat.mul_nonneg (by grind) (by grind)
  have hn2 : val .f64 u * val .f64 t ≤ 3001 * 2000002 := by
    have := Rat.mul_nonneg (show 0 ≤ 3001 - val .f64 u by grind) (show 0 ≤ val .f64 t by grind)
    grind
  have hn3 : 39995 / 10000000 ≤ val .f64 u * val .f64 t := by
    have := Rat.mul_nonneg (show 0 ≤ val .f64 u - 1999998 / 1000000000 by grind) (show 0 ≤ val .f64 t by grind)
    grind
  obtain ⟨m, em, fm, dm, _⟩ := mul_ok fu ft (show (val .f64 u * val .f64 t).abs < p2 1023 by rw [Rat.abs_of_nonneg hn1]; grind)
  unfold Rd at dm
  rw [Rat.abs_of_nonneg hn1, U64] at dm
  have dm' := abs_le.1 dm
  exact ⟨m, by simp [mostF, et, eu, em], fm, by grind⟩

theorem power_one : powerF one = some 4607182418800017408 := by decide +kernel
theorem conj_one : Fin (conjF one) ∧ V (conjF one) = 1 := by
  refine ⟨⟨by show fin .f32 1065353216; unfold fin; decide +kernel, by unfold fin; decide +kernel⟩, ?_⟩
  apply Z.ext
  · show val .f32 1065353216 = 1
    unfold val; decide +kernel
  · show val .f32 (Op.negFloat .f32 0) = 0
    unfold val; decide +kernel
theorem Le.one : Le 1 1 := ⟨by grind, by simp only [Z.one_re, Z.one_im]; grind⟩

theorem quot_Z {x : C} {M : Rat} (hx : Fin x) (h : Le (V x) M) (hM : M ≤ big) : ∃ r, quotF x one = some r ∧ Fin r ∧ Le (V r - V x) (vv * M + tt) := by
  obtain ⟨c1, c2⟩ := conj_one
  have h1 : Le (V (conjF one)) 1 := Le.one.of_eq c2.symm
  obtain ⟨p, ep, f1, f2, k1, k2, b1, b2⟩ := times_Z hx c1 h h1 (by grind)
  have e1 : V x * V (conjF one) = V x := by rw [c2]; (apply Z.ext <;> simp only [Z.add_re, Z.add_im, Z.sub_re, Z.sub_im, Z.neg_re, Z.neg_im, Z.mul_re, Z.mul_im, Z.zero_re, Z.zero_im, Z.one_re, Z.one_im, Z.nat_re, Z.nat_im, Z.lit_re, Z.lit_im] <;> grind)
  rw [e1] at k1 k2
  have hb := big_lt
  have hb' : 4 * big < p2 1023 := by
    have := p2_mono (show (127 : Int) ≤ 1023 by decide)
    grind
  obtain ⟨a, ea, fa, va⟩ := quo_one f1 (by grind)
  obtain ⟨b, eb, fb, vb⟩ := quo_one f2 (by grind)
  obtain ⟨r1, e1, g1, d1, _⟩ := narrow_ok fa (by rw [va]; grind)
  obtain ⟨r2, e2, g2, d2, _⟩ := narrow_ok fb (by rw [vb]; grind)
  refine ⟨(r1, r2), by simp [quotF, ep, power_one, narrow, ea, eb, e1, e2], ⟨g1, g2⟩, ?_⟩
  have hp := h.pos
  have n1 := T_nonneg .f64
  have n2 := T_nonneg .f32
  unfold Rd at d1 d2
  rw [va] at d1
  rw [vb] at d2
  have k1' := k1 _ d1
  have k2' := k2 _ d2
  refine (h.parts (u := U .f32) (t := 1 / 1000000000000000 * (M * 1) + 2 * T .f64 + 2 * T .f64 + T .f64 + T .f64 + T .f32) (U_nonneg _) ?_ ?_ ?_).mono ?_
  · grind
  · show (val .f32 r1 - (V x).re).abs ≤ _
    exact k1'
  · show (val .f32 r2 - (V x).im).abs ≤ _
    exact k2'
  · have := T32
    have := T64
    rw [U32]
    unfold vv tt
    grind
end Go.Proofs.Ytdpogmibahaklaa
