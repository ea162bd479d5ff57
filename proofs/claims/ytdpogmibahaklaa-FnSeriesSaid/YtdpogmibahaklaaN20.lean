/- The second part of what the statement asks: put together. -/
import Derived.Test.YtdpogmibahaklaaN19
set_option linter.unusedVariables false
set_option linter.unusedSimpArgs false
namespace Go.Proofs.Ytdpogmibahaklaa

theorem ite_V1 (k : Nat) : Fin (if k = 1 then one else zero) ∧ V (if k = 1 then one else zero) = d1 k := by
  by_cases e : k = 1
  · rw [if_pos e]; exact ⟨Fin_one, by rw [V_one, d1, if_pos e]⟩
  · rw [if_neg e]; exact ⟨Fin_zero, by rw [V_zero, d1, if_neg e]⟩

theorem way_near {n : Nat} {b tu wy : List C} {m : Nat} (n2 : 2 ≤ n) (n7 : n ≤ 7) (ho : ∀ k, k < n → Good wy (fn2 tM (n - 1)) k) (h5 : ∀ k, k < n → Le (Vl wy k - compZ (Vl b) (Vl tu) n (n - 1) k) (fn2 tE (n - 1) k))
    (oe : ∀ i, i < n → Le (compZ (Vl b) (Vl tu) n (n - 1) i - d1 i) (fn tRt i)) (fm : fin .f64 m) (hm : 399 / 100000 ≤ val .f64 m) : ∀ k, k < n → Near (wy.getD k zero) (if k = 1 then one else zero) m := by
  intro k hk
  have hw := e_way n (by simp; omega) n2 k (by simp; omega)
  exact near_at (ho k hk).1 (ite_V1 k).1 (((h5 k hk).add (oe k hk)).of_eq (by rw [(ite_V1 k).2]; unfold Vl; (apply Z.ext <;> simp only [Z.add_re, Z.add_im, Z.sub_re, Z.sub_im, Z.neg_re, Z.neg_im, Z.mul_re, Z.mul_im, Z.zero_re, Z.zero_im, Z.one_re, Z.one_im, Z.nat_re, Z.nat_im, Z.lit_re, Z.lit_im] <;> grind))) hw fm hm

theorem ser2' {n : Nat} {b : List C} (n2 : 2 ≤ n) (n7 : n ≤ 7) (lb : b.length = n) (b0 : b.getD 0 zero = zero) (b1 : b.getD 1 zero = one) (gb : ∀ j, j < n → Good b (fun _ => 141422 / 100000) j) :
    ∃ tu wy wi, SerOk2 n b tu wy wi := by
  have n1 : 1 ≤ n := by omega
  have H := turn_hyp n2 n7 lb b0 b1 gb
  have hT := turnI_of H
  obtain ⟨tu, etu, h⟩ := turn_Z H
  obtain ⟨wy, st, m', c, er, _, _, _, _, h5⟩ := comp_Z H.hl H.n2 H.hb h.og H.hM H.hM2 H.hE H.hc
  have hB : ∀ j, j < n → fn tBt j ≤ 1000 := fun j hj => (le1000 j (rg n7 hj)).2.2.2
  obtain ⟨wi, ew, fw, lo, hi⟩ := wide_ok2 (P := fn tBt) h.og h.o1 hB n2
  have hM := partM fw lo hi
  obtain ⟨mo, emo, fmo, hmo⟩ := hM
  have hn := way_near n2 n7 h5.2.1 h5.2.2 h.oe fmo hmo
  exact ⟨tu, wy, wi, {
    sb := ser_of lb n1 n7 gb, lb := lb, bz := by rw [b0]; exact isZ_zero, b1 := by rw [b1]; exact isZ_one
    htu := etu, hout := hT, stu := ser_of h.ol n1 n7 h.og, tz := by rw [h.o0]; exact isZ_zero
    hwy := er, swy := ser_of h5.1 n1 n7 h5.2.1, hwi := ew, cmp := ⟨mo, emo, hn⟩ }⟩
end Go.Proofs.Ytdpogmibahaklaa
