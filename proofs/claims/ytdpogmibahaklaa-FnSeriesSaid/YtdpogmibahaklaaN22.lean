/- The third part of what the statement asks. -/
import Derived.Test.YtdpogmibahaklaaN21
set_option linter.unusedVariables false
set_option linter.unusedSimpArgs false
namespace Go.Proofs.Ytdpogmibahaklaa

theorem stepsF_last {σ : Type} {f : Nat → σ → Option σ} (n i : Nat) (s r : σ) (h : stepsF f (n + 1) i s = some r) : ∃ j s', f j s' = some r := by
  induction n generalizing i s with
  | zero =>
    obtain ⟨s', h1, h2⟩ := stepsF_succ h
    exact ⟨i, s, by rw [h1, stepsF_zero h2]⟩
  | succ n ih =>
    obtain ⟨s', _, h2⟩ := stepsF_succ h
    exact ih (i + 1) s' h2
theorem nest_last {l : List C} {z r : C} (hl : 2 ≤ l.length) (h : nestF l z = some r) : r.1 < 4294967296 ∧ r.2 < 4294967296 := by
  unfold nestF at h
  rw [show l.length - 1 = (l.length - 2) + 1 by omega] at h
  obtain ⟨j, s', h1⟩ := stepsF_last _ _ _ _ h
  simp only [Option.bind_eq_some_iff, plusF] at h1
  obtain ⟨p, _, a, ha, b, hb, e⟩ := h1
  cases e
  exact ⟨add_lt ha, add_lt hb⟩
theorem z_ok : ∀ v ∈ List.range 9, (match floatBits .quo .f32 (floatOfInt .f32 ((v : Int) - 4)) 1090519040 with
    | some q => dfin (FloatKind.f32.format.read q) && decide (-(1 / 2) ≤ dval (FloatKind.f32.format.read q)) && decide (dval (FloatKind.f32.format.read q) ≤ 1 / 2)
    | none => false) = true := by decide +kernel
end Go.Proofs.Ytdpogmibahaklaa
