/- Laws on 'max' at floats and on differences of complex numbers, as the statement on series takes them. -/
import Derived.Test.YtdpogmibahaklaaFq
set_option linter.unusedVariables false
set_option linter.unusedSimpArgs false
namespace Go.Proofs.Ytdpogmibahaklaa
open Go.RowKit

theorem run_max2_f64 {x y r : Nat} (h : f64max x y = some r) (P : Program) (w : World) : (Builtin.max2 (.float .f64 x) (.float .f64 y)).run P w = .ok (.float .f64 r) w := by
  unfold f64max at h
  unfold Builtin.max2
  show (match FloatKind.f64.format.order x y with
    | none => do pure (.float .f64 (← choose (.nanMinMax .f64 true x y)))
    | some .lt => pure (.float .f64 y)
    | some .gt => pure (.float .f64 x)
    | some .eq => pure (.float .f64 (if (FloatKind.f64.decode x).neg then y else x)) : Sem Value).run P w = _
  have e : FloatKind.f64.format.order x y = Ieee.double.order x y := rfl
  rw [e]
  cases hx : Ieee.double.order x y with
  | none => rw [hx] at h; cases h
  | some o =>
    rw [hx] at h
    cases o <;> simp only [Option.some.injEq] at h <;> subst h <;> rfl

theorem run_max_two {x y r : Nat} (h : f64max x y = some r) (ts : Array TypeId) (t : TypeId) (P : Program) (w : World) : (Builtin.max_ ts t #[.float .f64 x, .float .f64 y]).run P w = .ok (.float .f64 r) w := by
  have := run_max2_f64 h P w
  simp [Builtin.max_, this]
theorem run_max_four {s a b c r : Nat} (h : max4F s a b c = some r) (ts : Array TypeId) (t : TypeId) (P : Program) (w : World) : (Builtin.max_ ts t #[.float .f64 s, .float .f64 a, .float .f64 b, .float .f64 c]).run P w = .ok (.float .f64 r) w := by
  simp only [max4F, Option.bind_eq_some_iff] at h
  obtain ⟨m1, h1, m2, h2, h3⟩ := h
  have h1' := run_max2_f64 h1 P
  have h2' := run_max2_f64 h2 P
  have h3' := run_max2_f64 h3 P
  simp [Builtin.max_, h1', h2', h3']

theorem run_minus {x y r : C} (h : minusF x y = some r) (t : TypeId) (w : World) : (binOp .sub t (.complex .f32 x.1 x.2) (.complex .f32 y.1 y.2)).run Try.prog w = .ok (.complex .f32 r.1 r.2) w := by
  simp only [minusF, Option.bind_eq_some_iff] at h
  obtain ⟨a, ha, b, hb, h⟩ := h
  cases h
  refine run_complex_sum w .sub (Or.inr rfl) t .f32 x.1 x.2 y.1 y.2 a b ?_
  unfold cSumBits
  simp [ha, hb]

theorem stepsF_at {σ : Type} {f : Nat → σ → Option σ} {n i : Nat} {s r : σ} (h : stepsF f (n - i) i s = some r) (hlt : i < n) : ∃ s', f i s = some s' ∧ stepsF f (n - (i + 1)) (i + 1) s' = some r := by
  rw [show n - i = (n - (i + 1)) + 1 by omega] at h
  exact stepsF_succ h
theorem stepsF_end {σ : Type} {f : Nat → σ → Option σ} {n i : Nat} {s r : σ} (h : stepsF f (n - i) i s = some r) (hge : n ≤ i) : s = r := by
  rw [show n - i = 0 by omega] at h
  exact stepsF_zero h
theorem near_facts {x y : C} {m : Nat} (h : Near x y m) : ∃ p l d, minusF x y = some p ∧ longF p = some l ∧ wide l = some d ∧ (FloatKind.f64.format.order d m == some .gt) = false := by
  obtain ⟨d, hd, hn⟩ := h
  simp only [farF, longW, Option.bind_eq_some_iff] at hd
  obtain ⟨p, hp, l, hl, hw⟩ := hd
  exact ⟨p, l, d, hp, hl, hw, hn⟩
theorem RowC.other {w w1 : World} {B g g' n c : Nat} {xs : List C} (h : RowC w B g n c xs) (hg : w.grownBy w1 (some g')) (hne : g ≠ g') : RowC w1 B g n c xs :=
  ⟨h.len, h.base, h.own.kept hg (by right; simp [Value.ownBlock]; exact hne)⟩
theorem RowC.grows {w : World} {B g n c : Nat} {xs : List C} (h : RowC w B g n c xs) (j : Nat) (x : C) : w.grownBy (w.setCell ⟨g, j, none⟩ (cv x)) (some g) := (h.own.stored j (cv x)).2

/-- What stands behind so many statements. -/
def tailC : Nat → Code → Code
  | 0, c => c
  | n + 1, .seq _ b => tailC n b
  | _ + 1, c => c
noncomputable def restC (k : Nat) : Code := tailC k (Try.f4.body.getD .skip)
def headC : Code → Code
  | .seq a _ => a
  | c => c
abbrev SerPost (w0 : World) : Ending → World → Prop := fun e w' => e = .returned (.bool true) ∧ Below w0.heap.size w0 w'
end Go.Proofs.Ytdpogmibahaklaa
