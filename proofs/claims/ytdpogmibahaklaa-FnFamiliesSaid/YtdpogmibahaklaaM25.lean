/- The sum that the statement on families reckons by itself, and the program's. -/
import Derived.Test.YtdpogmibahaklaaM20
import Derived.Test.YtdpogmibahaklaaA0
set_option linter.unusedVariables false
set_option linter.unusedSimpArgs false
namespace Go.Proofs.Ytdpogmibahaklaa

def sumStepA (kind x : Nat) (fs : List Form) (k : Nat) (s : Form × Form) : Option (Form × Form) :=
  (ruleF kind k).bind fun r => (ruleF kind (k + 1)).bind fun q => (o32 .mul r.1 x).bind fun m => (o32 .add m r.2.1).bind fun p =>
  if finK .f32 p && finK .f32 q.2.2 then (mulA .f32 (val .f32 p) s.1).bind fun t => (addA .f32 (fs.getD k ([], 0)) t).bind fun e => (mulA .f32 (val .f32 q.2.2) s.2).bind fun u => (subA .f32 e u).bind fun d => some (d, s.1) else none
def famSumA (kind x : Nat) (fs : List Form) : Option Form := (stepsF (fun j => sumStepA kind x fs (fs.length - 1 - j)) fs.length 0 (([], 0), ([], 0))).map Prod.fst

theorem famSum_rel {kind x : Nat} {ws : List Nat} {W : List Rat} {fs : List Form} {a : Form} (hw : ∀ w ∈ W, w.abs ≤ 2) (hl : fs.length = ws.length) (has : ∀ i, i < ws.length → Af .f32 W (ws.getD i 0) (fs.getD i ([], 0)))
    (h : famSumA kind x fs = some a) : ∃ r, famSumF kind ws x = some r ∧ Af .f32 W r a := by
  simp only [famSumA, Option.map_eq_some_iff] at h
  obtain ⟨⟨a1, a2⟩, h, rfl⟩ := h
  rw [hl] at h
  have key := steps_rel (f := fun j => sumStepF kind x ws (ws.length - 1 - j)) (g := fun j => sumStepA kind x fs (ws.length - 1 - j)) (fun (s : Nat × Nat) (t : Form × Form) => Af .f32 W s.1 t.1 ∧ Af .f32 W s.2 t.2) ws.length ?_ ws.length 0 (0, 0) _ _ (by omega) ⟨Af.zero _ _, Af.zero _ _⟩ h
  · obtain ⟨⟨r1, r2⟩, e, h1, _⟩ := key
    exact ⟨r1, by simp only [famSumF, e, Option.map_some], h1⟩
  · intro i s t t' hi ⟨h1, h2⟩ hg
    simp only [sumStepA, Option.bind_eq_some_iff] at hg
    obtain ⟨r, hr, q, hq, m, hm, p, hp, hg⟩ := hg
    split at hg
    · rename_i hf
      rw [Bool.and_eq_true] at hf
      simp only [Option.bind_eq_some_iff] at hg
      obtain ⟨t1, g1, e1, g2, u1, g3, d1, g4, hg⟩ := hg
      cases hg
      obtain ⟨t2, f1, k1⟩ := h1.mul hw (finK_iff.1 hf.1) g1
      obtain ⟨e2, f2, k2⟩ := (has (ws.length - 1 - i) (by omega)).add hw k1 g2
      obtain ⟨u2, f3, k3⟩ := h2.mul hw (finK_iff.1 hf.2) g3
      obtain ⟨d2, f4, k4⟩ := k2.sub hw k3 g4
      refine ⟨(d2, s.1), ?_, k4, h1⟩
      simp only [sumStepF, hr, hq, hm, hp, Option.bind_some]
      unfold o32
      simp only [f1, f2, f3, f4, Option.bind_some]
    · cases hg

/-- Steps that are followed by forms, counted. -/
theorem steps_reli {σ τ : Type} {f : Nat → σ → Option σ} {g : Nat → τ → Option τ} (R : Nat → σ → τ → Prop) (N : Nat) (h : ∀ i s t t', i < N → R i s t → g i t = some t' → ∃ s', f i s = some s' ∧ R (i + 1) s' t') :
    ∀ n i s t t', i + n ≤ N → R i s t → stepsF g n i t = some t' → ∃ s', stepsF f n i s = some s' ∧ R (i + n) s' t'
  | 0, i, s, t, t', _, hR, hg => by rw [← stepsF_zero hg]; exact ⟨s, rfl, hR⟩
  | n + 1, i, s, t, t', hN, hR, hg => by
    obtain ⟨t1, h1, h2⟩ := stepsF_succ hg
    obtain ⟨s1, h3, h4⟩ := h i s t t1 (by omega) hR h1
    obtain ⟨s2, h5, h6⟩ := steps_reli R N h n (i + 1) s1 t1 t' (by omega) h4 h2
    exact ⟨s2, by simp only [stepsF, h3, Option.bind_some, h5], by rw [show i + (n + 1) = i + 1 + n by omega]; exact h6⟩

def weightValB (v : Nat) : Bool :=
  match weightF v with
  | some w => finK .f32 w && decide ((val .f32 w).abs ≤ 2) && (decide (val .f32 w = 0) || decide (1 / 4 ≤ (val .f32 w).abs))
  | none => false
theorem weightVal_all : ((List.range 17).all weightValB) = true := by kernel_rfl
theorem weight_val {v w : Nat} (hv : v < 17) (h : weightF v = some w) : fin .f32 w ∧ (val .f32 w).abs ≤ 2 ∧ (val .f32 w = 0 ∨ 1 / 4 ≤ (val .f32 w).abs) := by
  have h1 := List.all_eq_true.1 weightVal_all v (List.mem_range.2 hv)
  unfold weightValB at h1
  rw [h] at h1
  simp only [Bool.and_eq_true, Bool.or_eq_true, decide_eq_true_eq] at h1
  exact ⟨finK_iff.1 h1.1.1, h1.1.2, h1.2⟩
/-- The draws' weights. -/
def Weights (ws : List Nat) : Prop := ∀ w ∈ ws, ∃ v, v < 17 ∧ weightF v = some w
def valL (ws : List Nat) : List Rat := ws.map (val .f32)
theorem Weights.le {ws : List Nat} (h : Weights ws) : ∀ w ∈ valL ws, w.abs ≤ 2 := by
  intro w hw
  obtain ⟨u, hu, rfl⟩ := List.mem_map.1 hw
  obtain ⟨v, h1, h2⟩ := h u hu
  exact (weight_val h1 h2).2.1
theorem Weights.at_ {ws : List Nat} (h : Weights ws) {i : Nat} (hi : i < ws.length) : fin .f32 (ws.getD i 0) ∧ (val .f32 (ws.getD i 0)).abs ≤ 2 ∧ (val .f32 (ws.getD i 0) = 0 ∨ 1 / 4 ≤ (val .f32 (ws.getD i 0)).abs) := by
  rw [List.getD_eq_getElem?_getD, List.getElem?_eq_getElem hi]
  obtain ⟨v, h1, h2⟩ := h _ (List.getElem_mem hi)
  exact weight_val h1 h2
theorem valL_at {ws : List Nat} {i : Nat} (hi : i < ws.length) : (valL ws).getD i 0 = val .f32 (ws.getD i 0) := by
  unfold valL
  rw [List.getD_eq_getElem?_getD, List.getElem?_map, List.getD_eq_getElem?_getD, List.getElem?_eq_getElem hi]
  rfl
theorem valL_len (ws : List Nat) : (valL ws).length = ws.length := List.length_map _
theorem Weights.unit {ws : List Nat} (h : Weights ws) {i : Nat} (hi : i < ws.length) : Af .f32 (valL ws) (ws.getD i 0) (uForm i) :=
  unit_af .f32 (valL ws) i (by rw [valL_len]; exact hi) (h.at_ hi).1 (valL_at hi).symm

def sumOneA (vals : List Nat) (k : Nat) (t : Form) : Option Form :=
  (wide (vals.getD k 0)).bind fun b => if finK .f64 b && decide ((val .f64 b).abs ≤ 1000) then (mulA .f64 (val .f64 b) (uForm k)).bind fun m => addA .f64 t m else none
def sumA (vals : List Nat) (c : Nat) : Option Form := stepsF (sumOneA vals) c 0 ([], 0)

theorem ten_ok : fin .f64 4621819117588971520 ∧ val .f64 4621819117588971520 = 10 := ⟨by unfold fin; decide +kernel, by unfold val; decide +kernel⟩
theorem one_ok : fin .f64 4607182418800017408 ∧ val .f64 4607182418800017408 = 1 := ⟨by unfold fin; decide +kernel, by unfold val; decide +kernel⟩
theorem size_step {a b s : Nat} {i : Rat} (ha : fin .f64 a) (a2 : (val .f64 a).abs ≤ 2) (hb : fin .f64 b) (b2 : (val .f64 b).abs ≤ 1000) (hs : fin .f64 s) (s1 : 1 - i / 1000000 ≤ val .f64 s) (s2 : val .f64 s ≤ 1 + i * 50000) (i0 : 0 ≤ i) (i6 : i ≤ 6) :
    ∃ g h j k m n, gapF a 0 = some g ∧ gapF b 0 = some h ∧ o64 .add 4607182418800017408 h = some j ∧ o64 .mul g j = some k ∧ o64 .mul k 4621819117588971520 = some m ∧ o64 .add s m = some n ∧
      fin .f64 n ∧ 1 - (i + 1) / 1000000 ≤ val .f64 n ∧ val .f64 n ≤ 1 + (i + 1) * 50000 := by
  have z := fin_zero .f64
  obtain ⟨g, eg, fg, g0, g1⟩ := gap_ok (M := 2) ha z (by rw [val_zero, show val .f64 a - 0 = val .f64 a by grind]; exact a2) (by decide +kernel)
  obtain ⟨h, eh, fh, h0, h1⟩ := gap_ok (M := 1000) hb z (by rw [val_zero, show val .f64 b - 0 = val .f64 b by grind]; exact b2) (by decide +kernel)
  obtain ⟨j, ej, fj, j0, j1⟩ := addN one_ok.1 fh (by rw [one_ok.2]; decide +kernel) h0 (M := 1) (N := 1001) (by rw [one_ok.2]; exact Rat.le_refl) (by grind) (by decide +kernel)
  rw [one_ok.2, abs_le] at j1
  obtain ⟨k, ek, fk, k0, k1⟩ := mulN fg fj g0 j0 (M := 3) (N := 1003) (by grind) (by grind) (by decide +kernel)
  rw [abs_le] at k1
  have kb : val .f64 g * val .f64 j ≤ 3 * 1003 := by
    have h1 := Rat.mul_le_mul_of_nonneg_left (show val .f64 j ≤ 1003 by grind) g0
    have h2 := Rat.mul_le_mul_of_nonneg_right (show val .f64 g ≤ 3 by grind) (show (0 : Rat) ≤ 1003 by decide +kernel)
    grind
  obtain ⟨m, em, fm, m0, m1⟩ := mulN fk ten_ok.1 k0 (by rw [ten_ok.2]; decide +kernel) (M := 4000) (N := 10) (by grind) (by rw [ten_ok.2]; exact Rat.le_refl) (by decide +kernel)
  rw [ten_ok.2, abs_le] at m1
  obtain ⟨n, en, fn, n0, n1⟩ := addN hs fm (by grind) m0 (M := 1000000) (N := 50000) (by grind) (by grind) (by decide +kernel)
  rw [abs_le] at n1
  exact ⟨g, h, j, k, m, n, eg, eh, ej, ek, em, en, fn, by grind, by grind⟩

/-- The sum is near its form; the size is at least 1, nearly. -/
theorem sumSize_ok {ws vals : List Nat} {c : Nat} {t : Form} (hw : Weights ws) (hl : ws.length = c) (c6 : c ≤ 6) (h : sumA vals c = some t) :
    ∃ sum size, stepsF (fun k s => sumSizeF (ws.getD k 0) (vals.getD k 0) s) c 0 (0, 4607182418800017408) = some (sum, size) ∧ Af .f64 (valL ws) sum t ∧ fin .f64 size ∧ 999990 / 1000000 ≤ val .f64 size ∧ val .f64 size ≤ 400000 := by
  have key := steps_reli (f := fun k s => sumSizeF (ws.getD k 0) (vals.getD k 0) s) (g := sumOneA vals) (fun i (s : Nat × Nat) (t : Form) => Af .f64 (valL ws) s.1 t ∧ fin .f64 s.2 ∧ 1 - (i : Rat) / 1000000 ≤ val .f64 s.2 ∧ val .f64 s.2 ≤ 1 + (i : Rat) * 50000) c ?_ c 0 (0, 4607182418800017408) _ _ (by omega)
    ⟨Af.zero _ _, one_ok.1, by rw [one_ok.2]; decide +kernel, by rw [one_ok.2]; decide +kernel⟩ h
  · obtain ⟨⟨sum, size⟩, e, h1, h2, h3, h4⟩ := key
    have hc : ((0 + c : Nat) : Rat) ≤ 6 := by
      have : ((0 + c : Nat) : Rat) ≤ ((6 : Nat) : Rat) := Rat.natCast_le_natCast.2 (by omega)
      exact this
    exact ⟨sum, size, e, h1, h2, by grind, by grind⟩
  · intro i s t t' hi ⟨h1, h2, h3, h4⟩ hg
    simp only [sumOneA, Option.bind_eq_some_iff] at hg
    obtain ⟨b, hb, hg⟩ := hg
    split at hg
    · rename_i hf
      rw [Bool.and_eq_true, decide_eq_true_eq] at hf
      simp only [Option.bind_eq_some_iff] at hg
      obtain ⟨m, g1, g2⟩ := hg
      have hat := hw.at_ (i := i) (by omega)
      obtain ⟨a, ea, fa, va⟩ := wide_ok hat.1
      have hi6 : (i : Rat) ≤ 6 := by
        have : (i : Rat) ≤ ((6 : Nat) : Rat) := Rat.natCast_le_natCast.2 (by omega)
        exact this
      have hi0 : (0 : Rat) ≤ (i : Rat) := Rat.natCast_nonneg
      obtain ⟨g, hh, j, k, mm, n, k1, k2, k3, k4, k5, k6, fn, n1, n2⟩ := size_step fa (by rw [va]; exact hat.2.1) (finK_iff.1 hf.1) hf.2 h2 h3 h4 hi0 hi6
      have hu : Af .f64 (valL ws) a (uForm i) := unit_af .f64 (valL ws) i (by rw [valL_len]; omega) fa (by rw [va, valL_at (by omega)])
      obtain ⟨p, e1, q1⟩ := hu.mul' hw.le (finK_iff.1 hf.1) g1
      obtain ⟨r, e2, q2⟩ := h1.add hw.le q1 g2
      have ea' : wide (ws.getD i 0) = some a := ea
      refine ⟨(r, n), ?_, q2, fn, ?_, ?_⟩
      · simp only [sumSizeF, ea', hb, Option.bind_some]
        unfold o64 at *
        simp only [e1, e2, k1, k2, k3, k4, k5, k6, Option.bind_some]
      · rw [Rat.natCast_add]; exact n1
      · rw [Rat.natCast_add]; exact n2
    · cases hg
end Go.Proofs.Ytdpogmibahaklaa
