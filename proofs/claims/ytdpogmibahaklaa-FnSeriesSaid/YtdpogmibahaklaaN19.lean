/- The second part of what the statement asks. -/
import Derived.Test.YtdpogmibahaklaaN18
set_option linter.unusedVariables false
set_option linter.unusedSimpArgs false
namespace Go.Proofs.Ytdpogmibahaklaa

theorem nn_B : ∀ j, 0 ≤ fn tBt j := fn_nonneg (by decide +kernel)
theorem nn_R : ∀ j, 0 ≤ fn tRt j := fn_nonneg (by decide +kernel)
theorem nn_M0 : ∀ j, 0 ≤ fn2 tM 0 j := fn_nonneg (l := tM.getD 0 []) (by decide +kernel)
theorem nn_E0 : ∀ j, 0 ≤ fn2 tE 0 j := fn_nonneg (l := tE.getD 0 []) (by decide +kernel)

theorem turn_hyp {n : Nat} {b : List C} (n2 : 2 ≤ n) (n7 : n ≤ 7) (lb : b.length = n) (b0 : b.getD 0 zero = zero) (b1 : b.getD 1 zero = one) (gb : ∀ j, j < n → Good b (fun _ => 141422 / 100000) j) :
    TurnHyp b n (141422 / 100000) (fn tBt) (fn tRt) (fn2 tM) (fn2 tE) where
  hl := lb
  n2 := n2
  n7 := n7
  b0 := b0
  b1 := b1
  hb := gb
  B0 := by decide +kernel
  B1 := by decide +kernel
  Bp := nn_B
  R0 := nn_R
  hM := by decide +kernel
  hM2 := nn_M0
  hE := nn_E0
  hc := fun j hj k hk => c_comp j (by simp; omega) k (rg n7 hk)
  ht := fun k k2 hk => c_turn n (by simp; omega) n2 k (by simp; omega) k2

theorem quot_one_one : quotF one one = some one := by decide +kernel
theorem turnI_of {n : Nat} {b : List C} {P : Rat} {B R : Nat → Rat} {M E : Nat → Nat → Rat} (H : TurnHyp b n P B R M E) : TurnI b n := by
  have n2 := H.n2
  have n7 := H.n7
  have n1 : 1 ≤ n := by omega
  refine ⟨fun j out => TurnOk b n B R j out, ?_, ?_, ?_⟩
  · intro q hq
    rw [H.b1, quot_one_one] at hq
    cases hq
    exact turn_start H
  · intro j out out' j2 hj h1 h2
    obtain ⟨o, e, h3⟩ := turn_step H hj h1
    rw [h2] at e
    cases e
    exact h3
  · intro j out j2 hj h
    refine ⟨ser_of h.ol n1 n7 h.og, by rw [h.o0]; exact isZ_zero, ?_⟩
    intro m hm
    obtain ⟨r, st, m', c, er, _, _, _, _, h5⟩ := comp_Z H.hl H.n2 H.hb h.og H.hM H.hM2 H.hE H.hc
    rw [hm] at er
    cases er
    exact ser_of h5.1 n1 n7 h5.2.1
end Go.Proofs.Ytdpogmibahaklaa
