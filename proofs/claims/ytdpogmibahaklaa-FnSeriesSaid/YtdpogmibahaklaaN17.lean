/- The first part of what the statement asks: put together. -/
import Derived.Test.YtdpogmibahaklaaN16
set_option linter.unusedVariables false
set_option linter.unusedSimpArgs false
namespace Go.Proofs.Ytdpogmibahaklaa

theorem le1000 : ∀ k ∈ List.range 7, fn tMi k ≤ 1000 ∧ fn tMx k ≤ 1000 ∧ fn tMr k ≤ 1000 ∧ fn tBt k ≤ 1000 := by decide +kernel

theorem near_at {x y : C} {t : Rat} {m : Nat} (hx : Fin x) (hy : Fin y) (h : Le (V x - V y) t) (ht : t ≤ 35 / 10000) (hm : fin .f64 m) (hL : 399 / 100000 ≤ val .f64 m) : Near x y m :=
  near_Z hx hy (h.mono ht) hm hL (by grind) (by unfold vv; grind)

theorem ite_V (k : Nat) : Fin (if k = 0 then one else zero) ∧ V (if k = 0 then one else zero) = d0 k := by
  by_cases e : k = 0
  · rw [if_pos e]; exact ⟨Fin_one, by rw [V_one, d0, if_pos e]⟩
  · rw [if_neg e]; exact ⟨Fin_zero, by rw [V_zero, d0, if_neg e]⟩

theorem log_err {n : Nat} {b ex lsl liv lq lg : List C} (n7 : n ≤ 7) (gb : ∀ j, j < n → Good b (fn tPb) j) (b0 : b.getD 0 zero = zero)
    (r3 : ∀ j, j + 1 < n → Le (((j + 1 : Nat) : Z) * Vl ex (j + 1) - cz (fun i => ((i + 1 : Nat) : Z) * Vl b (i + 1)) (Vl ex) j) (fn tEx (j + 1)))
    (r4 : ∀ j, j + 1 < n → Le (Vl lsl j - ((j + 1 : Nat) : Z) * Vl ex (j + 1)) (fn tEsl j)) (g5 : ∀ j, j < n → Good liv (fn tMxi) j) (r5 : ∀ j, j < n → Le (cz (Vl ex) (Vl liv) j - d0 j) (fn tExi j))
    (r6 : ∀ j, j < n → Le (Vl lq j - cz (Vl lsl) (Vl liv) j) (fn tEq j)) (z7 : lg.getD 0 zero = zero) (r7 : ∀ j, 1 ≤ j → j < n → Le ((j : Z) * Vl lg j - Vl lq (j - 1)) (fn tElg j)) :
    ∀ k, k < n → Le (Vl lg k - Vl b k) (fn tLg k) := by
  have hD : ∀ j, 0 ≤ fn tLg j := fn_nonneg (by decide +kernel)
  intro k hk
  cases k with
  | zero =>
    refine (Le.zero.mono (hD 0)).of_eq ?_
    unfold Vl
    rw [z7, b0]; (apply Z.ext <;> simp only [Z.add_re, Z.add_im, Z.sub_re, Z.sub_im, Z.neg_re, Z.neg_im, Z.mul_re, Z.mul_im, Z.zero_re, Z.zero_im, Z.one_re, Z.one_im, Z.nat_re, Z.nat_im, Z.lit_re, Z.lit_im] <;> grind)
  | succ m =>
    have h := log_alg (ex := Vl ex) (xi := Vl liv) (bp := fun i => ((i + 1 : Nat) : Z) * Vl b (i + 1)) (s := Vl lsl) (q := Vl lq) (s1 := fn tEsl) (s2 := fun i => fn tEx (i + 1)) (s3 := fn tExi) (X := fn tMxi) (Bp := fun i => ((i + 1 : Nat) : Rat) * fn tPb (i + 1)) (s4 := fn tEq m) (m := m)
      (fun i hi => r4 i (by omega)) (fun i hi => r3 i (by omega)) (fun i hi => r5 i (by omega)) (r6 m (by omega)) (fun i hi => (g5 i (by omega)).2) (fun i hi => (natZ_le (i + 1)).mul (gb (i + 1) (by omega)).2)
    have h7 := r7 (m + 1) (by omega) hk
    rw [show m + 1 - 1 = m by omega] at h7
    have hc := e_lg (m + 1) (rg n7 hk) (by omega)
    rw [show m + 1 - 1 = m by omega] at hc
    refine Le.of_mul (k := m + 1) ?_ (by omega) (hD _)
    exact ((h7.add h).of_eq (by (apply Z.ext <;> simp only [Z.add_re, Z.add_im, Z.sub_re, Z.sub_im, Z.neg_re, Z.neg_im, Z.mul_re, Z.mul_im, Z.zero_re, Z.zero_im, Z.one_re, Z.one_im, Z.nat_re, Z.nat_im, Z.lit_re, Z.lit_im] <;> grind))).mono (by grind)

theorem half_err {n : Nat} {a iv asl aq al t hf rt : List C} (n2 : 2 ≤ n) (n7 : n ≤ 7) (a0 : a.getD 0 zero = one) (ga : ∀ j, j < n → Good a (fn tPa) j) (g1 : ∀ j, j < n → Good iv (fn tMi) j)
    (r1 : ∀ j, j < n → Le (cz (Vl a) (Vl iv) j - d0 j) (fn tEi j)) (r12 : ∀ j, j + 1 < n → Le (Vl asl j - ((j + 1 : Nat) : Z) * Vl a (j + 1)) (fn tEas j))
    (r13 : ∀ j, j < n → Le (Vl aq j - cz (Vl asl) (Vl iv) j) (fn tEaq j)) (r14 : ∀ j, 1 ≤ j → j < n → Le ((j : Z) * Vl al j - Vl aq (j - 1)) (fn tEal j))
    (r15 : ∀ j, j < n → Le (Vl t j - V half * Vl al j) (fn tEt j)) (z16 : hf.getD 0 zero = one) (g16 : ∀ j, j < n → Good hf (fn tMh) j)
    (r16 : ∀ j, j + 1 < n → Le (((j + 1 : Nat) : Z) * Vl hf (j + 1) - cz (fun i => ((i + 1 : Nat) : Z) * Vl t (i + 1)) (Vl hf) j) (fn tEh (j + 1)))
    (z8 : rt.getD 0 zero = one) (g8 : ∀ j, j < n → Good rt (fn tMr) j) (r8 : ∀ j, j < n → Le (cz (Vl rt) (Vl rt) j - Vl a j) (fn tEr j)) :
    ∀ k, k < n → Le (Vl hf k - Vl rt k) (fn tDh k) := by
  have a0' : Vl a 0 = 1 := by unfold Vl; rw [a0]; exact V_one
  refine half_rec (a := Vl a) (h := Vl hf) (r := Vl rt) n7 a0' (by unfold Vl; rw [z16, z8]) (fun i hi => (ga i hi).2) ?_ ?_
  · intro m hm
    rw [half_V] at r15
    have h := r1_alg (a := Vl a) (iv := Vl iv) (sa := Vl asl) (aq := Vl aq) (al := Vl al) (t := Vl t) (h := Vl hf) (Ei := fn tEi) (pA := pA) (Pa := fn tPa) (Mi := fn tMi) (Eas := fn tEas) (Eaq := fn tEaq) (Eal := fn tEal) (Et := fn tEt) (Mh := fn tMh) (Eh := fn tEh) (m := m)
      (fun i hi => (ga i (by omega)).2) (fun i hi => (natZ_le (i + 1)).mul (ga (i + 1) (by omega)).2) (fun i hi => (g1 i (by omega)).2) (fun i hi => r1 i (by omega)) (fun i hi => r12 i (by omega)) (fun i hi => r13 i (by omega))
      (fun i hi => r14 (i + 1) (by omega) (by omega)) (fun i hi => r15 (i + 1) (by omega)) (fun i hi => (g16 i (by omega)).2) (fun i hi => r16 i (by omega))
    have e : (fun i => ((i + 1 : Nat) : Rat) * fn tEt (i + 1) + 1 / 2 * (fn tEal (i + 1) + fn tEaq i + cr (fn tEas) (fn tMi) i)) = tau := rfl
    rw [e] at h
    unfold r1B
    exact h
  · intro m hm
    unfold r2B
    exact r2_alg (a := Vl a) (r := Vl rt) (Er := fn tEr) (Mr := fn tMr) (m := m) (fun i hi => (g8 i (by omega)).2) (fun i hi => (g8 (i + 1) (by omega)).2) (fun i hi => r8 i (by omega))

end Go.Proofs.Ytdpogmibahaklaa
