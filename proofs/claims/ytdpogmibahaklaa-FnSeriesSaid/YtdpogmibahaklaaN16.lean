/- The greatest lengths. -/
import Derived.Test.YtdpogmibahaklaaN15
set_option linter.unusedVariables false
set_option linter.unusedSimpArgs false
namespace Go.Proofs.Ytdpogmibahaklaa

theorem long_one : longW one = some one64 := by decide +kernel

theorem long_le {x : C} {t : Rat} (hx : Fin x) (h : Le (V x) t) (ht : t ≤ 1000) : ∃ l, longW x = some l ∧ fin .f64 l ∧ val .f64 l ≤ 2000 := by
  have hbig := big_ge
  obtain ⟨l, e, f, hl⟩ := long_Z hx h (by grind)
  have := h.pos
  exact ⟨l, e, f, by unfold vv at hl; grind⟩

theorem scale_ok {x y z : List C} {P Q R : Nat → Rat} {n : Nat} (hx : ∀ j, j < n → Good x P j) (hy : ∀ j, j < n → Good y Q j) (hz : ∀ j, j < n → Good z R j) (x0 : x.getD 0 zero = one)
    (hP : ∀ j, j < n → P j ≤ 1000) (hQ : ∀ j, j < n → Q j ≤ 1000) (hR : ∀ j, j < n → R j ≤ 1000) (hn : 1 ≤ n) :
    ∃ sc, scaleAllF x y z n = some sc ∧ fin .f64 sc ∧ 1 ≤ val .f64 sc ∧ val .f64 sc ≤ 2000 := by
  have key := stepsF_build (f := fun k s => (longW (x.getD k zero)).bind fun a => (longW (y.getD k zero)).bind fun b => (longW (z.getD k zero)).bind fun c => max4F s a b c) (N := n)
    (fun i s => fin .f64 s ∧ val .f64 s ≤ 2000 ∧ (1 ≤ i → 1 ≤ val .f64 s)) ?_ n 0 0 (by omega) ⟨fin_zero _, by rw [val_zero]; grind, fun h => absurd h (by omega)⟩
  · obtain ⟨sc, e, f, h1, h2⟩ := key
    exact ⟨sc, e, f, h2 hn, h1⟩
  · intro k s hk ⟨fs, hs, h1⟩
    have gx := hx k hk
    have gy := hy k hk
    have gz := hz k hk
    obtain ⟨lx, ex, fx, vx⟩ := long_le gx.1 gx.2 (hP k hk)
    obtain ⟨ly, ey, fy, vy⟩ := long_le gy.1 gy.2 (hQ k hk)
    obtain ⟨lz, ez, fz, vz⟩ := long_le gz.1 gz.2 (hR k hk)
    obtain ⟨m1, e1, f1, u1, b1, c1⟩ := max_Z fs fx hs vx
    obtain ⟨m2, e2, f2, u2, b2, c2⟩ := max_Z f1 fy u1 vy
    obtain ⟨m3, e3, f3, u3, b3, c3⟩ := max_Z f2 fz u2 vz
    refine ⟨m3, by simp only [ex, ey, ez, Option.bind_some, max4F, e1, e2, e3], f3, u3, fun _ => ?_⟩
    by_cases e : k = 0
    · subst e
      rw [x0, long_one] at ex
      cases ex
      have := one64_ok.2
      grind
    · have := h1 (by omega)
      grind

theorem wide_ok2 {x : List C} {P : Nat → Rat} {n : Nat} (hx : ∀ j, j < n → Good x P j) (x1 : x.getD 1 zero = one) (hP : ∀ j, j < n → P j ≤ 1000) (hn : 2 ≤ n) :
    ∃ sc, wideAllF x n = some sc ∧ fin .f64 sc ∧ 1 ≤ val .f64 sc ∧ val .f64 sc ≤ 2000 := by
  have key := stepsF_build (f := fun k s => (longW (x.getD k zero)).bind fun a => f64max s a) (N := n)
    (fun i s => fin .f64 s ∧ val .f64 s ≤ 2000 ∧ (2 ≤ i → 1 ≤ val .f64 s)) ?_ n 0 0 (by omega) ⟨fin_zero _, by rw [val_zero]; grind, fun h => absurd h (by omega)⟩
  · obtain ⟨sc, e, f, h1, h2⟩ := key
    exact ⟨sc, e, f, h2 hn, h1⟩
  · intro k s hk ⟨fs, hs, h1⟩
    have gx := hx k hk
    obtain ⟨lx, ex, fx, vx⟩ := long_le gx.1 gx.2 (hP k hk)
    obtain ⟨m1, e1, f1, u1, b1, c1⟩ := max_Z fs fx hs vx
    refine ⟨m1, by simp only [ex, Option.bind_some, e1], f1, u1, fun h2 => ?_⟩
    by_cases e : k = 1
    · subst e
      rw [x1, long_one] at ex
      cases ex
      have := one64_ok.2
      grind
    · have := h1 (by omega)
      grind

theorem isZ_zero : isZ zero = true := by decide +kernel
theorem isZ_one : isZ one = false := by decide +kernel
theorem isO_one : isO one = true := by decide +kernel
end Go.Proofs.Ytdpogmibahaklaa
