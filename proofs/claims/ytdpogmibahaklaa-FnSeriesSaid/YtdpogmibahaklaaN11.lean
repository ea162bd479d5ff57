/- Lawful series, and values. -/
import Derived.Test.YtdpogmibahaklaaN10
set_option linter.unusedVariables false
set_option linter.unusedSimpArgs false
namespace Go.Proofs.Ytdpogmibahaklaa

theorem fin_fin {x : Nat} (h : fin .f32 x) : finB x = some true := by
  have h0 : val .f32 x - val .f32 x = 0 := by grind
  obtain ⟨d, ed, fd, _, hd⟩ := sub_ok h h (by rw [h0, Rat.abs_of_nonneg (by grind)]; exact p2_pos _)
  rw [h0] at hd
  have v0 := hd ⟨false, 0, FloatKind.f32.format.leastPlace, by decide, Int.le_refl _, by unfold sgn; simp⟩
  unfold finB
  rw [ed]
  have ho : Ieee.single.order d 0 = _ := order_ok fd (fin_zero .f32)
  simp only [Option.map_some, ho, v0, val_zero]
  decide +kernel
theorem Fin.c {x : C} (h : Fin x) : FinC x := ⟨fin_fin h.1, fin_fin h.2⟩
theorem ser_of {l : List C} {n : Nat} {P : Nat → Rat} (hl : l.length = n) (h1 : 1 ≤ n) (h7 : n ≤ 7) (h : ∀ j, j < n → Good l P j) : SerC l :=
  ⟨by omega, by omega, fun x hx => by
    obtain ⟨j, hj, rfl⟩ := List.getElem_of_mem hx
    have g := (h j (by omega)).1
    rw [List.getD_eq_getElem?_getD, List.getElem?_eq_getElem hj] at g
    exact g.c⟩

theorem nest_Z {l : List C} {z : C} {n : Nat} (hl : l.length = n) (hn : 2 ≤ n) (hg : ∀ j, j < n → Good l (fun _ => 141422 / 100000) j) (hz : Fin z) (hz1 : Le (V z) (1 / 2)) :
    ∃ r u, nestF l z = some r ∧ Fin r ∧ Le (V r) 3 ∧ Le u 3 ∧ Le (V r - (u * V z + Vl l 0)) (1 / 1000000) := by
  have hbig := big_ge
  unfold nestF
  rw [hl]
  have key := stepsF_build (f := fun j v => (mulF v z).bind fun p => plusF p (l.getD (n - 2 - j) zero)) (N := n - 1)
    (fun i v => Fin v ∧ Le (V v) 3 ∧ (i = n - 1 → ∃ u, Le u 3 ∧ Le (V v - (u * V z + Vl l 0)) (1 / 1000000))) ?_ (n - 1) 0 (l.getD (n - 1) zero) (by omega) ?_
  · obtain ⟨r, er, f, b, h⟩ := key
    obtain ⟨u, h1, h2⟩ := h rfl
    exact ⟨r, u, er, f, b, h1, h2⟩
  · intro j v hj ⟨fv, lv, _⟩
    have g := hg (n - 2 - j) (by omega)
    obtain ⟨p, ep, fp, dp⟩ := mul_Z fv hz lv hz1 (by grind)
    have lp : Le (V p) (3 / 2 + 1 / 10000000) := (((lv.mul hz1).add dp).of_eq (by (apply Z.ext <;> simp only [Z.add_re, Z.add_im, Z.sub_re, Z.sub_im, Z.neg_re, Z.neg_im, Z.mul_re, Z.mul_im, Z.zero_re, Z.zero_im, Z.one_re, Z.one_im, Z.nat_re, Z.nat_im, Z.lit_re, Z.lit_im] <;> grind))).mono (by unfold vv tt; grind)
    have ls := lp.add g.2
    obtain ⟨r, er, fr, dr⟩ := plus_Z fp g.1 ls (by grind)
    refine ⟨r, by simp only [ep, Option.bind_some, er], fr, ((ls.add dr).of_eq (by unfold Vl; (apply Z.ext <;> simp only [Z.add_re, Z.add_im, Z.sub_re, Z.sub_im, Z.neg_re, Z.neg_im, Z.mul_re, Z.mul_im, Z.zero_re, Z.zero_im, Z.one_re, Z.one_im, Z.nat_re, Z.nat_im, Z.lit_re, Z.lit_im] <;> grind))).mono (by unfold vv tt; grind), ?_⟩
    intro hlast
    obtain rfl : j = n - 2 := by omega
    refine ⟨V v, lv, ((dp.add dr).of_eq ?_).mono (by unfold vv tt; grind)⟩
    rw [Nat.sub_self]
    unfold Vl
    (apply Z.ext <;> simp only [Z.add_re, Z.add_im, Z.sub_re, Z.sub_im, Z.neg_re, Z.neg_im, Z.mul_re, Z.mul_im, Z.zero_re, Z.zero_im, Z.one_re, Z.one_im, Z.nat_re, Z.nat_im, Z.lit_re, Z.lit_im] <;> grind)
  · have g := hg (n - 1) (by omega)
    exact ⟨g.1, g.2.mono (by grind), fun h => absurd h (by omega)⟩
end Go.Proofs.Ytdpogmibahaklaa
