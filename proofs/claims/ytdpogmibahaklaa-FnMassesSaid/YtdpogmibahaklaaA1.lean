/- Complex numbers whose parts are sums of drawn weights times the same fixed numbers, nearly. -/
import Derived.Test.YtdpogmibahaklaaA0
set_option linter.unusedVariables false
set_option linter.unusedSimpArgs false
namespace Go.Proofs.Ytdpogmibahaklaa

structure Az (W V : List Rat) (x : C) (a : Form) : Prop where
  re : Af .f32 W x.1 a
  im : Af .f32 V x.2 a
theorem mulA_lt {W : List Rat} {q : Rat} {a b : Form} {p : Nat} (hw : ∀ w ∈ W, w.abs ≤ 2) (h : mulA .f64 q a = some b) (hp : Af .f64 W p b) : (val .f64 p).abs < p2 (top .f64) := by
  have h2 := hp.abs hw
  unfold mulA rnd at h
  split at h
  · rename_i hb
    cases h
    have h4 : uu .f64 * Form.size (scaL q a.1, q.abs * a.2) ≤ uu .f64 * big := Rat.mul_le_mul_of_nonneg_left hb (uu_nonneg _)
    have h6 : uu .f64 * big + tt ≤ big := by unfold uu big tt; decide +kernel
    have h5 : (2 : Rat) * big ≤ 4 * big := by unfold big; decide +kernel
    have h7 := big_lt
    have h8 : p2 127 ≤ p2 (top .f64) := p2_mono (by decide)
    unfold Form.size at h2 hb h4
    simp only at h2 hb h4
    grind
  · cases h
theorem m0_lt {i j : Nat} (h : val .f64 i * val .f64 j = 0) : (val .f64 i * val .f64 j).abs < p2 (top .f64) := by rw [h]; exact abs_zero_lt _
/-- The product of a complex number and a real one: 64-bit products. -/
theorem times_rz {x y : C} {W V : List Rat} {a b : Form} (hw : ∀ w ∈ W, w.abs ≤ 2) (hv : ∀ w ∈ V, w.abs ≤ 2) (hx : Az W V x a) (hy : Re0 y) (h : mulA .f64 (val .f32 y.1) a = some b) :
    ∃ p, timesF x y = some p ∧ Af .f64 W p.1 b ∧ Af .f64 V p.2 b := by
  obtain ⟨u, eu, fu, vu⟩ := wide_ok hx.re.fin
  obtain ⟨v, ev, fv, vv'⟩ := wide_ok hx.im.fin
  obtain ⟨s, es, fs, vs⟩ := wide_ok hy.f1
  obtain ⟨t, et, ft, vt⟩ := wide_ok hy.f2
  rw [hy.z] at vt
  have hu : Af .f64 W u a := ⟨fu, by rw [vu]; exact hx.re.near⟩
  have hv' : Af .f64 V v a := ⟨fv, by rw [vv']; exact hx.im.near⟩
  rw [← vs] at h
  obtain ⟨ac, e1, q1⟩ := hu.mul' hw fs h
  obtain ⟨bc, e5, q5⟩ := hv'.mul' hv fs h
  have z1 : val .f64 v * val .f64 t = 0 := by rw [vt]; grind
  have z2 : val .f64 u * val .f64 t = 0 := by rw [vt]; grind
  obtain ⟨bd, e2, f2, _, x2⟩ := mul_ok fv ft (m0_lt z1)
  obtain ⟨ad, e4, f4, _, x4⟩ := mul_ok fu ft (m0_lt z2)
  rw [z1] at x2
  rw [z2] at x4
  have v2 := x2 (rep_zero _)
  have v4 := x4 (rep_zero _)
  have d1 : val .f64 ac - val .f64 bd = val .f64 ac := by rw [v2]; grind
  have d2 : val .f64 ad + val .f64 bc = val .f64 bc := by rw [v4]; grind
  obtain ⟨re, e3, f3, _, x3⟩ := sub_ok q1.fin f2 (by rw [d1]; exact mulA_lt hw h q1)
  rw [d1] at x3
  have v3 := x3 (val_rep q1.fin)
  obtain ⟨im, e6, f6, _, x6⟩ := add_ok f4 q5.fin (by rw [d2]; exact mulA_lt hv h q5)
  rw [d2] at x6
  have v6 := x6 (val_rep q5.fin)
  refine ⟨(re, im), ?_, ⟨f3, by rw [v3]; exact q1.near⟩, ⟨f6, by rw [v6]; exact q5.near⟩⟩
  unfold timesF wide
  simp only [eu, ev, es, et, e1, e2, e3, e4, e5, e6, Option.bind_some]
theorem Az.mul {x y : C} {W V : List Rat} {a c : Form} (hw : ∀ w ∈ W, w.abs ≤ 2) (hv : ∀ w ∈ V, w.abs ≤ 2) (hx : Az W V x a) (hy : Re0 y) (h : mulC (val .f32 y.1) a = some c) : ∃ r, mulF x y = some r ∧ Az W V r c := by
  simp only [mulC, Option.bind_eq_some_iff] at h
  obtain ⟨b, h1, h2⟩ := h
  obtain ⟨p, ep, q1, q2⟩ := times_rz hw hv hx hy h1
  obtain ⟨k1, k2⟩ := rnd_ok (k := .f32) (X := val .f64 p.1) q1.near hw h2
  obtain ⟨r1, e1, g1, d1, _⟩ := narrow_ok q1.fin k1
  obtain ⟨k3, k4⟩ := rnd_ok (k := .f32) (X := val .f64 p.2) q2.near hv h2
  obtain ⟨r2, e2, g2, d2, _⟩ := narrow_ok q2.fin k3
  exact ⟨(r1, r2), by simp only [mulF, ep, narrow, e1, e2, Option.bind_some], ⟨g1, k2 r1 d1⟩, ⟨g2, k4 r2 d2⟩⟩
theorem Az.add {x y : C} {W V : List Rat} {a b c : Form} (hw : ∀ w ∈ W, w.abs ≤ 2) (hv : ∀ w ∈ V, w.abs ≤ 2) (hx : Az W V x a) (hy : Az W V y b) (h : addA .f32 a b = some c) : ∃ r, plusF x y = some r ∧ Az W V r c := by
  obtain ⟨r1, e1, q1⟩ := hx.re.add hw hy.re h
  obtain ⟨r2, e2, q2⟩ := hx.im.add hv hy.im h
  exact ⟨(r1, r2), by simp only [plusF, e1, e2, Option.bind_some], q1, q2⟩
theorem Az.sub {x y : C} {W V : List Rat} {a b c : Form} (hw : ∀ w ∈ W, w.abs ≤ 2) (hv : ∀ w ∈ V, w.abs ≤ 2) (hx : Az W V x a) (hy : Az W V y b) (h : subA .f32 a b = some c) : ∃ r, minusF x y = some r ∧ Az W V r c := by
  obtain ⟨r1, e1, q1⟩ := hx.re.sub hw hy.re h
  obtain ⟨r2, e2, q2⟩ := hx.im.sub hv hy.im h
  exact ⟨(r1, r2), by simp only [minusF, e1, e2, Option.bind_some], q1, q2⟩
theorem Az.scale {x : C} {by_ : Nat} {W V : List Rat} {a c : Form} (hw : ∀ w ∈ W, w.abs ≤ 2) (hv : ∀ w ∈ V, w.abs ≤ 2) (hx : Az W V x a) (hb : fin .f32 by_) (h : mulA .f32 (val .f32 by_) a = some c) : ∃ r, scaleF x by_ = some r ∧ Az W V r c := by
  obtain ⟨r1, e1, q1⟩ := hx.re.mul' hw hb h
  obtain ⟨r2, e2, q2⟩ := hx.im.mul' hv hb h
  exact ⟨(r1, r2), by simp only [scaleF, e1, e2, Option.bind_some], q1, q2⟩
theorem Az.zero (W V : List Rat) : Az W V zero ([], 0) := ⟨Af.zero _ _, Af.zero _ _⟩
theorem Az.c {W V : List Rat} {x : C} {a : Form} (h : Az W V x a) : FinC x := ⟨finB_of h.re.fin, finB_of h.im.fin⟩

/-- Lists that are followed by forms. -/
structure AzL (W V : List Rat) (xs : List C) (fs : List Form) : Prop where
  len : xs.length = fs.length
  at_ : ∀ i, Az W V (xs.getD i zero) (fs.getD i ([], 0))
theorem AzL.set {W V : List Rat} {xs : List C} {fs : List Form} {x : C} {a : Form} (h : AzL W V xs fs) (hx : Az W V x a) (i : Nat) : AzL W V (xs.set i x) (fs.set i a) := by
  refine ⟨by rw [List.length_set, List.length_set]; exact h.len, fun j => ?_⟩
  rw [getD_set', getD_set', ← h.len]
  split
  · exact hx
  · exact h.at_ j
theorem AzL.push {W V : List Rat} {xs : List C} {fs : List Form} {x : C} {a : Form} (h : AzL W V xs fs) (hx : Az W V x a) : AzL W V (xs ++ [x]) (fs ++ [a]) := by
  refine ⟨by rw [List.length_append, List.length_append, h.len]; rfl, fun j => ?_⟩
  have hh := h.at_ j
  rw [List.getD_eq_getElem?_getD, List.getD_eq_getElem?_getD] at hh ⊢
  rw [List.getElem?_append, List.getElem?_append, ← h.len]
  split
  · exact hh
  · rcases Nat.eq_zero_or_pos (j - xs.length) with h0 | h0
    · rw [h0]; exact hx
    · rw [List.getElem?_eq_none (by rw [List.length_singleton]; omega), List.getElem?_eq_none (by rw [List.length_singleton]; omega)]
      exact Az.zero W V
/-- The value of a polynomial at a real number. -/
def nestA (fs : List Form) (q : Rat) : Option Form := stepsF (fun j v => (mulC q v).bind fun p => addA .f32 p (fs.getD (fs.length - 2 - j) ([], 0))) (fs.length - 1) 0 (fs.getD (fs.length - 1) ([], 0))
theorem nest_rel {W V : List Rat} {xs : List C} {z : C} {fs : List Form} {a : Form} (hw : ∀ w ∈ W, w.abs ≤ 2) (hv : ∀ w ∈ V, w.abs ≤ 2) (hz : Re0 z) (h : AzL W V xs fs) (hg : nestA fs (val .f32 z.1) = some a) : ∃ r, nestF xs z = some r ∧ Az W V r a := by
  unfold nestA at hg
  rw [← h.len] at hg
  refine steps_rel (f := fun j v => (mulF v z).bind fun p => plusF p (xs.getD (xs.length - 2 - j) zero)) (fun (s : C) (t : Form) => Az W V s t) (xs.length - 1) ?_ (xs.length - 1) 0 _ _ _ (by omega) (h.at_ _) hg
  intro i s t t' hi hR hg
  simp only [Option.bind_eq_some_iff] at hg
  obtain ⟨p, g1, g2⟩ := hg
  obtain ⟨p', e1, q1⟩ := hR.mul hw hv hz g1
  obtain ⟨d', e2, q2⟩ := q1.add hw hv (h.at_ _) g2
  exact ⟨d', by simp only [e1, e2, Option.bind_some], q2⟩
/-- How far apart complex numbers are. -/
theorem farz_ok {W V : List Rat} {x y : C} {a b : Form} {M : Rat} (hw : ∀ w ∈ W, w.abs ≤ 2) (hv : ∀ w ∈ V, w.abs ≤ 2) (hx : Az W V x a) (hy : Az W V y b) (h : nrm (addL a.1 (scaL (-1) b.1)) + a.2 + b.2 ≤ M) (hM : M ≤ 100000) :
    ∃ d, farwF x y = some d ∧ fin .f64 d ∧ 0 ≤ val .f64 d ∧ val .f64 d ≤ 2 * M + 1 / 100000 := by
  obtain ⟨p, ep, fp, vp⟩ := wide_ok hx.re.fin
  obtain ⟨q, eq, fq, vq⟩ := wide_ok hy.re.fin
  obtain ⟨r, er, fr, vr⟩ := wide_ok hx.im.fin
  obtain ⟨s, es, fs, vs⟩ := wide_ok hy.im.fin
  have key : ∀ {U : List Rat} {u v : Nat}, (∀ w ∈ U, w.abs ≤ 2) → Af .f32 U u a → Af .f32 U v b → (val .f32 u - val .f32 v).abs ≤ M := by
    intro U u v hU h1 h2
    have h3 := sub_near h1 h2
    have h4 := dot_le (addL a.1 (scaL (-1) b.1)) U hU
    have h5 := abs_add (val .f32 u - val .f32 v - dot (addL a.1 (scaL (-1) b.1)) U) (dot (addL a.1 (scaL (-1) b.1)) U)
    rw [show val .f32 u - val .f32 v - dot (addL a.1 (scaL (-1) b.1)) U + dot (addL a.1 (scaL (-1) b.1)) U = val .f32 u - val .f32 v by grind] at h5
    grind
  obtain ⟨g, eg, fg, g0, g1⟩ := gap_ok fp fq (M := M) (by rw [vp, vq]; exact key hw hx.re hy.re) (by grind)
  obtain ⟨k, ek, fk, k0, k1⟩ := gap_ok fr fs (M := M) (by rw [vr, vs]; exact key hv hx.im hy.im) (by grind)
  obtain ⟨d, ed, fd, d0, d1⟩ := addN fg fk g0 k0 g1 k1 (by grind)
  refine ⟨d, by unfold farwF wide; simp only [ep, eq, eg, er, es, ek, ed, Option.bind_some], fd, d0, ?_⟩
  rw [abs_le] at d1
  grind
end Go.Proofs.Ytdpogmibahaklaa
