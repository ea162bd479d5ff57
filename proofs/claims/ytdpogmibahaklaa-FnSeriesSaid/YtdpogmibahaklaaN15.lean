/- The first part of what the statement asks. -/
import Derived.Test.YtdpogmibahaklaaN14
set_option linter.unusedVariables false
set_option linter.unusedSimpArgs false
namespace Go.Proofs.Ytdpogmibahaklaa

theorem Vl_zero_one {l : List C} (h : l.getD 0 zero = one) : Vl l 0 = 1 := by unfold Vl; rw [h]; exact V_one

theorem half_V : V half = hz := by
  apply Z.ext
  · show val .f32 1056964608 = 1 / 2
    exact half_ok.2
  · show val .f32 0 = (0 : Rat)
    exact val_zero .f32
theorem half_Fin : Fin half := ⟨half_ok.1, fin_zero .f32⟩
theorem half_Le : Le (V half) (1 / 2) := by rw [half_V]; exact halfZ_le
theorem rg {n k : Nat} (n7 : n ≤ 7) (hk : k < n) : k ∈ List.range 7 := by simp; omega
theorem nn_sl : ∀ j, 0 ≤ fn tMsl j := fn_nonneg (by decide +kernel)

theorem partA {n : Nat} {a : List C} (n2 : 2 ≤ n) (n7 : n ≤ 7) (la : a.length = n) (a0 : a.getD 0 zero = one) (ga : ∀ j, j < n → Good a (fn tPa) j) :
    ∃ iv un, invF a = some iv ∧ mulSF a iv n = some un ∧ (iv.length = n ∧ un.length = n) ∧ (∀ j, j < n → Good iv (fn tMi) j) ∧ iv.getD 0 zero = one ∧ (∀ j, j < n → Le (cz (Vl a) (Vl iv) j - d0 j) (fn tEi j)) ∧
      (∀ j, j < n → Good un (fn tMu) j) ∧ ∀ j, j < n → Le (Vl un j - cz (Vl a) (Vl iv) j) (fn tEu j) := by
  have k1 : 1 ≤ fn tMi 0 := by decide +kernel
  have k2 : 0 ≤ fn tEi 0 := by decide +kernel
  have h := inv_Z (P := fn tPa) (M := fn tMi) (E := fn tEi) la (by omega) a0 ga k1 k2 (fun k k1 hk => c_inv k (rg n7 hk) k1)
  obtain ⟨iv, e1, l1, g1, z1, r1⟩ := h
  have h := mulS_Z (P := fn tPa) (Q := fn tMi) (M := fn tMu) (E := fn tEu) ga g1 (fun k hk => c_unit k (rg n7 hk))
  obtain ⟨un, e2, l2, g2, r2⟩ := h
  exact ⟨iv, un, e1, e2, ⟨l1, l2⟩, g1, z1, r1, g2, r2⟩

theorem partB {n : Nat} {b : List C} (n2 : 2 ≤ n) (n7 : n ≤ 7) (lb : b.length = n) (gb : ∀ j, j < n → Good b (fn tPb) j) :
    ∃ ex, expF b = some ex ∧ ex.length = n ∧ ex.getD 0 zero = one ∧ (∀ j, j < n → Good ex (fn tMx) j) ∧ ∀ j, j + 1 < n → Le (((j + 1 : Nat) : Z) * Vl ex (j + 1) - cz (fun i => ((i + 1 : Nat) : Z) * Vl b (i + 1)) (Vl ex) j) (fn tEx (j + 1)) := by
  have k1 : 1 ≤ fn tMx 0 := by decide +kernel
  exact exp_Z (P := fn tPb) (M := fn tMx) (E := fn tEx) lb (by omega) n7 gb k1 (fun k k1 hk => c_exp k (rg n7 hk) k1)

theorem partC {n : Nat} {ex : List C} (n2 : 2 ≤ n) (n7 : n ≤ 7) (l3 : ex.length = n) (z3 : ex.getD 0 zero = one) (g3 : ∀ j, j < n → Good ex (fn tMx) j) :
    ∃ lsl liv, slopeF ex = some lsl ∧ invF ex = some liv ∧ (lsl.length = n ∧ liv.length = n) ∧ (∀ j, j < n → Good lsl (fn tMsl) j) ∧ (∀ j, j + 1 < n → Le (Vl lsl j - ((j + 1 : Nat) : Z) * Vl ex (j + 1)) (fn tEsl j)) ∧
      (∀ j, j < n → Good liv (fn tMxi) j) ∧ ∀ j, j < n → Le (cz (Vl ex) (Vl liv) j - d0 j) (fn tExi j) := by
  have h := slope_Z (P := fn tMx) (M := fn tMsl) (E := fn tEsl) l3 (by omega) n7 g3 nn_sl (fun k hk => c_sl k (rg n7 (by omega)) (by omega))
  obtain ⟨lsl, e4, l4, g4, r4⟩ := h
  have k1 : 1 ≤ fn tMxi 0 := by decide +kernel
  have k2 : 0 ≤ fn tExi 0 := by decide +kernel
  have h := inv_Z (P := fn tMx) (M := fn tMxi) (E := fn tExi) l3 (by omega) z3 g3 k1 k2 (fun k k1 hk => c_xi k (rg n7 hk) k1)
  obtain ⟨liv, e5, l5, g5, z5, r5⟩ := h
  exact ⟨lsl, liv, e4, e5, ⟨l4, l5⟩, g4, r4, g5, r5⟩

theorem nn_lg : ∀ j, 0 ≤ fn tMlg j := fn_nonneg (by decide +kernel)
theorem nn_ri : ∀ j, 0 ≤ fn tMri j := fn_nonneg (by decide +kernel)
theorem nn_s2 : ∀ j, 0 ≤ fn tMs2 j := fn_nonneg (by decide +kernel)
theorem nn_as : ∀ j, 0 ≤ fn tMas j := fn_nonneg (by decide +kernel)
theorem nn_al : ∀ j, 0 ≤ fn tMal j := fn_nonneg (by decide +kernel)

theorem partD {n : Nat} {lsl liv : List C} (n2 : 2 ≤ n) (n7 : n ≤ 7) (g4 : ∀ j, j < n → Good lsl (fn tMsl) j) (g5 : ∀ j, j < n → Good liv (fn tMxi) j) :
    ∃ lq lg, mulSF lsl liv n = some lq ∧ riseF lq = some lg ∧ (lq.length = n ∧ lg.length = n) ∧ lg.getD 0 zero = zero ∧ (∀ j, j < n → Good lq (fn tMq) j) ∧ (∀ j, j < n → Le (Vl lq j - cz (Vl lsl) (Vl liv) j) (fn tEq j)) ∧
      (∀ j, j < n → Good lg (fn tMlg) j) ∧ ∀ j, 1 ≤ j → j < n → Le ((j : Z) * Vl lg j - Vl lq (j - 1)) (fn tElg j) := by
  have h := mulS_Z (P := fn tMsl) (Q := fn tMxi) (M := fn tMq) (E := fn tEq) g4 g5 (fun k hk => c_q k (rg n7 hk))
  obtain ⟨lq, e6, l6, g6, r6⟩ := h
  have h := rise_Z (P := fn tMq) (M := fn tMlg) (E := fn tElg) l6 (by omega) n7 (fun j hj => g6 j (by omega)) nn_lg (fun k k1 hk => c_lg k (rg n7 hk) k1)
  obtain ⟨lg, e7, l7, z7, g7, r7⟩ := h
  exact ⟨lq, lg, e6, e7, ⟨l6, l7⟩, z7, g6, r6, g7, r7⟩

theorem partE {n : Nat} {a : List C} (n2 : 2 ≤ n) (n7 : n ≤ 7) (la : a.length = n) (a0 : a.getD 0 zero = one) (ga : ∀ j, j < n → Good a (fn tPa) j) :
    ∃ rt sq, rootF a = some rt ∧ mulSF rt rt n = some sq ∧ (rt.length = n ∧ sq.length = n) ∧ rt.getD 0 zero = one ∧ (∀ j, j < n → Good rt (fn tMr) j) ∧ (∀ j, j < n → Le (cz (Vl rt) (Vl rt) j - Vl a j) (fn tEr j)) ∧
      (∀ j, j < n → Good sq (fn tMs) j) ∧ ∀ j, j < n → Le (Vl sq j - cz (Vl rt) (Vl rt) j) (fn tEs j) := by
  have k1 : 1 ≤ fn tMr 0 := by decide +kernel
  have k2 : 0 ≤ fn tEr 0 := by decide +kernel
  have h := root_Z (P := fn tPa) (M := fn tMr) (E := fn tEr) la (by omega) a0 ga k1 k2 (fun k k1 hk => c_root k (rg n7 hk) k1)
  obtain ⟨rt, e8, l8, z8, g8, r8⟩ := h
  have h := mulS_Z (P := fn tMr) (Q := fn tMr) (M := fn tMs) (E := fn tEs) g8 g8 (fun k hk => c_sq k (rg n7 hk))
  obtain ⟨sq, e9, l9, g9, r9⟩ := h
  exact ⟨rt, sq, e8, e9, ⟨l8, l9⟩, z8, g8, r8, g9, r9⟩

theorem partF' {n : Nat} {a : List C} (n2 : 2 ≤ n) (n7 : n ≤ 7) (la : a.length = n) (ga : ∀ j, j < n → Good a (fn tPa) j) :
    ∃ ri sl', riseF a = some ri ∧ slopeF ri = some sl' ∧ (ri.length = n ∧ sl'.length = n) ∧ (∀ j, j < n → Good ri (fn tMri) j) ∧ (∀ j, 1 ≤ j → j < n → Le ((j : Z) * Vl ri j - Vl a (j - 1)) (fn tEri j)) ∧
      (∀ j, j < n → Good sl' (fn tMs2) j) ∧ ∀ j, j + 1 < n → Le (Vl sl' j - ((j + 1 : Nat) : Z) * Vl ri (j + 1)) (fn tEs2 j) := by
  have h := rise_Z (P := fn tPa) (M := fn tMri) (E := fn tEri) la (by omega) n7 (fun j hj => ga j (by omega)) nn_ri (fun k k1 hk => c_ri k (rg n7 hk) k1)
  obtain ⟨ri, e10, l10, z10, g10, r10⟩ := h
  have h := slope_Z (P := fn tMri) (M := fn tMs2) (E := fn tEs2) l10 (by omega) n7 g10 nn_s2 (fun k hk => c_s2 k (rg n7 (by omega)) (by omega))
  obtain ⟨sl', e11, l11, g11, r11⟩ := h
  exact ⟨ri, sl', e10, e11, ⟨l10, l11⟩, g10, r10, g11, r11⟩

theorem partG {n : Nat} {a iv : List C} (n2 : 2 ≤ n) (n7 : n ≤ 7) (la : a.length = n) (ga : ∀ j, j < n → Good a (fn tPa) j) (g1 : ∀ j, j < n → Good iv (fn tMi) j) :
    ∃ asl aq al, slopeF a = some asl ∧ mulSF asl iv n = some aq ∧ riseF aq = some al ∧ (asl.length = n ∧ aq.length = n ∧ al.length = n) ∧ al.getD 0 zero = zero ∧ (∀ j, j < n → Good asl (fn tMas) j) ∧ (∀ j, j + 1 < n → Le (Vl asl j - ((j + 1 : Nat) : Z) * Vl a (j + 1)) (fn tEas j)) ∧
      (∀ j, j < n → Good aq (fn tMaq) j) ∧ (∀ j, j < n → Le (Vl aq j - cz (Vl asl) (Vl iv) j) (fn tEaq j)) ∧ (∀ j, j < n → Good al (fn tMal) j) ∧ ∀ j, 1 ≤ j → j < n → Le ((j : Z) * Vl al j - Vl aq (j - 1)) (fn tEal j) := by
  have h := slope_Z (P := fn tPa) (M := fn tMas) (E := fn tEas) la (by omega) n7 ga nn_as (fun k hk => c_as k (rg n7 (by omega)) (by omega))
  obtain ⟨asl, e12, l12, g12, r12⟩ := h
  have h := mulS_Z (P := fn tMas) (Q := fn tMi) (M := fn tMaq) (E := fn tEaq) g12 g1 (fun k hk => c_aq k (rg n7 hk))
  obtain ⟨aq, e13, l13, g13, r13⟩ := h
  have h := rise_Z (P := fn tMaq) (M := fn tMal) (E := fn tEal) l13 (by omega) n7 (fun j hj => g13 j (by omega)) nn_al (fun k k1 hk => c_al k (rg n7 hk) k1)
  obtain ⟨al, e14, l14, z14, g14, r14⟩ := h
  exact ⟨asl, aq, al, e12, e13, e14, ⟨l12, l13, l14⟩, z14, g12, r12, g13, r13, g14, r14⟩

theorem mul_half_zero : mulF half zero = some zero := by decide +kernel
theorem partH {n : Nat} {al : List C} (n2 : 2 ≤ n) (n7 : n ≤ 7) (l14 : al.length = n) (z14 : al.getD 0 zero = zero) (g14 : ∀ j, j < n → Good al (fn tMal) j) :
    ∃ t hf, timesAllF half al = some t ∧ expF t = some hf ∧ (t.length = n ∧ hf.length = n) ∧ t.getD 0 zero = zero ∧ hf.getD 0 zero = one ∧ (∀ j, j < n → Good t (fn tMt) j) ∧ (∀ j, j < n → Le (Vl t j - V half * Vl al j) (fn tEt j)) ∧
      (∀ j, j < n → Good hf (fn tMh) j) ∧ ∀ j, j + 1 < n → Le (((j + 1 : Nat) : Z) * Vl hf (j + 1) - cz (fun i => ((i + 1 : Nat) : Z) * Vl t (i + 1)) (Vl hf) j) (fn tEh (j + 1)) := by
  have h := timesAll_Z (P := fn tMal) (M := fn tMt) (E := fn tEt) (c := 1 / 2) l14 half_Fin half_Le g14 (fun k hk => c_t k (rg n7 hk))
  obtain ⟨t, e15, l15, g15, r15, m15⟩ := h
  have t0 : t.getD 0 zero = zero := by
    have h := m15 0 (by omega)
    rw [z14, mul_half_zero] at h
    exact (Option.some.inj h).symm
  have k1 : 1 ≤ fn tMh 0 := by decide +kernel
  have h := exp_Z (P := fn tMt) (M := fn tMh) (E := fn tEh) l15 (by omega) n7 g15 k1 (fun k k1 hk => c_h k (rg n7 hk) k1)
  obtain ⟨hf, e16, l16, z16, g16, r16⟩ := h
  exact ⟨t, hf, e15, e16, ⟨l15, l16⟩, t0, z16, g15, r15, g16, r16⟩
end Go.Proofs.Ytdpogmibahaklaa
