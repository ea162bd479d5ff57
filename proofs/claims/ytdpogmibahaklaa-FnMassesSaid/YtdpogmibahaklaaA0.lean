/- Numbers, and complex numbers with no imaginary part, that are sums of drawn weights times fixed numbers, nearly. -/
import Derived.Test.YtdpogmibahaklaaN4
import Derived.Test.YtdpogmibahaklaaM4
set_option linter.unusedVariables false
set_option linter.unusedSimpArgs false
namespace Go.Proofs.Ytdpogmibahaklaa

/-! ### Sums of weights times numbers -/
def dot : List Rat → List Rat → Rat
  | c :: cs, w :: ws => c * w + dot cs ws
  | _, _ => 0
def addL : List Rat → List Rat → List Rat
  | [], ds => ds
  | c :: cs, [] => c :: cs
  | c :: cs, d :: ds => (c + d) :: addL cs ds
def scaL (q : Rat) : List Rat → List Rat
  | [] => []
  | c :: cs => (q * c) :: scaL q cs
def nrm : List Rat → Rat
  | [] => 0
  | c :: cs => 2 * c.abs + nrm cs
theorem dot_nil (ws : List Rat) : dot [] ws = 0 := by cases ws <;> rfl
theorem dot_nil' (cs : List Rat) : dot cs [] = 0 := by cases cs <;> rfl
theorem dot_add (cs ds ws : List Rat) : dot (addL cs ds) ws = dot cs ws + dot ds ws := by
  induction cs generalizing ds ws with
  | nil => rw [addL, dot_nil]; grind
  | cons c cs ih =>
    cases ds with
    | nil => rw [addL, dot_nil]; grind
    | cons d ds =>
      cases ws with
      | nil => rw [dot_nil', dot_nil', dot_nil']; grind
      | cons w ws => simp only [addL, dot, ih]; grind
theorem dot_sca (q : Rat) (cs ws : List Rat) : dot (scaL q cs) ws = q * dot cs ws := by
  induction cs generalizing ws with
  | nil => rw [scaL, dot_nil]; grind
  | cons c cs ih =>
    cases ws with
    | nil => rw [dot_nil', dot_nil']; grind
    | cons w ws => simp only [scaL, dot, ih]; grind
theorem abs_nonneg (x : Rat) : 0 ≤ x.abs := by rcases abs_cases x with ⟨h, e⟩ | ⟨h, e⟩ <;> rw [e] <;> grind
theorem nrm_nonneg (cs : List Rat) : 0 ≤ nrm cs := by
  induction cs with
  | nil => exact Rat.le_refl
  | cons c cs ih => have := abs_nonneg c; simp only [nrm]; grind
theorem dot_le (cs ws : List Rat) (hw : ∀ w ∈ ws, w.abs ≤ 2) : (dot cs ws).abs ≤ nrm cs := by
  induction cs generalizing ws with
  | nil => rw [dot_nil]; show (0 : Rat).abs ≤ 0; decide +kernel
  | cons c cs ih =>
    cases ws with
    | nil => rw [dot_nil']; exact nrm_nonneg _
    | cons w ws =>
      have h1 := ih ws (fun u hu => hw u (List.mem_cons_of_mem _ hu))
      have h2 := hw w (List.mem_cons_self ..)
      have h3 := abs_add (c * w) (dot cs ws)
      have h4 := abs_mul c w
      have h5 := Rat.mul_le_mul_of_nonneg_left h2 (abs_nonneg c)
      simp only [dot, nrm]
      grind

/-- The form of a number: the weights' factors, and how far it may lie away. -/
abbrev Form := List Rat × Rat
def Form.size (a : Form) : Rat := nrm a.1 + a.2
structure Af (k : FloatKind) (ws : List Rat) (x : Nat) (a : Form) : Prop where
  fin : fin k x
  near : (val k x - dot a.1 ws).abs ≤ a.2
theorem Af.abs {k : FloatKind} {ws : List Rat} {x : Nat} {a : Form} (h : Af k ws x a) (hw : ∀ w ∈ ws, w.abs ≤ 2) : (val k x).abs ≤ a.size := by
  have h1 := h.near
  have h2 := dot_le a.1 ws hw
  have h3 := abs_add (val k x - dot a.1 ws) (dot a.1 ws)
  rw [show val k x - dot a.1 ws + dot a.1 ws = val k x by grind] at h3
  unfold Form.size
  grind

def uu : FloatKind → Rat
  | .f32 => 1 / 16777216
  | .f64 => 1 / 9007199254740992
theorem U_uu (k : FloatKind) : U k = uu k := by cases k; exact U32; exact U64
theorem uu_nonneg (k : FloatKind) : 0 ≤ uu k := by cases k <;> decide +kernel
theorem T_tt (k : FloatKind) : T k ≤ tt := by
  cases k
  · have := T32; unfold tt; grind
  · have := T64; unfold tt; grind
theorem big_top (k : FloatKind) : big < p2 (top k) := by
  have h := big_lt
  cases k
  · show big < p2 127
    unfold big at *
    grind
  · show big < p2 1023
    have h2 : p2 127 ≤ p2 1023 := p2_mono (by decide)
    unfold big at *
    grind
/-- Rounding: what is added to the distance. -/
def rnd (k : FloatKind) (a : Form) : Option Form := if a.size ≤ big then some (a.1, a.2 + (uu k * a.size + tt)) else none
theorem rnd_ok {k : FloatKind} {ws : List Rat} {X : Rat} {a a' : Form} (h : (X - dot a.1 ws).abs ≤ a.2) (hw : ∀ w ∈ ws, w.abs ≤ 2) (hr : rnd k a = some a') :
    X.abs < p2 (top k) ∧ ∀ r, Rd k (val k r) X → (val k r - dot a'.1 ws).abs ≤ a'.2 := by
  have hX : X.abs ≤ a.size := by
    have h2 := dot_le a.1 ws hw
    have h3 := abs_add (X - dot a.1 ws) (dot a.1 ws)
    rw [show X - dot a.1 ws + dot a.1 ws = X by grind] at h3
    unfold Form.size
    grind
  unfold rnd at hr
  split at hr
  · rename_i hb
    cases hr
    refine ⟨by have := big_top k; grind, fun r hd => ?_⟩
    unfold Rd at hd
    rw [U_uu] at hd
    have h1 := abs_add (val k r - X) (X - dot a.1 ws)
    rw [show val k r - X + (X - dot a.1 ws) = val k r - dot a.1 ws by grind] at h1
    have h2 := T_tt k
    have h3 := Rat.mul_le_mul_of_nonneg_left hX (uu_nonneg k)
    show (val k r - dot a.1 ws).abs ≤ a.2 + (uu k * a.size + tt)
    grind
  · cases hr

def addA (k : FloatKind) (a b : Form) : Option Form := rnd k (addL a.1 b.1, a.2 + b.2)
def subA (k : FloatKind) (a b : Form) : Option Form := rnd k (addL a.1 (scaL (-1) b.1), a.2 + b.2)
def mulA (k : FloatKind) (q : Rat) (a : Form) : Option Form := rnd k (scaL q a.1, q.abs * a.2)
section
variable {k : FloatKind} {ws : List Rat} {x y : Nat} {a b c : Form}
theorem add_near (hx : Af k ws x a) (hy : Af k ws y b) : ((val k x + val k y) - dot (addL a.1 b.1) ws).abs ≤ a.2 + b.2 := by
  have h1 := abs_add (val k x - dot a.1 ws) (val k y - dot b.1 ws)
  have h2 := hx.near
  have h3 := hy.near
  rw [dot_add, show val k x + val k y - (dot a.1 ws + dot b.1 ws) = val k x - dot a.1 ws + (val k y - dot b.1 ws) by grind]
  grind
theorem sub_near (hx : Af k ws x a) (hy : Af k ws y b) : ((val k x - val k y) - dot (addL a.1 (scaL (-1) b.1)) ws).abs ≤ a.2 + b.2 := by
  have h1 := abs_add (val k x - dot a.1 ws) (-(val k y - dot b.1 ws))
  have h2 := hx.near
  have h3 := hy.near
  rw [Rat.abs_neg] at h1
  rw [dot_add, dot_sca, show val k x - val k y - (dot a.1 ws + -1 * dot b.1 ws) = val k x - dot a.1 ws + -(val k y - dot b.1 ws) by grind]
  grind
theorem mul_near {q : Rat} (hx : Af k ws x a) : (q * val k x - dot (scaL q a.1) ws).abs ≤ q.abs * a.2 := by
  have h2 := hx.near
  rw [dot_sca, show q * val k x - q * dot a.1 ws = q * (val k x - dot a.1 ws) by grind, abs_mul]
  exact Rat.mul_le_mul_of_nonneg_left h2 (abs_nonneg q)
theorem Af.add (hw : ∀ w ∈ ws, w.abs ≤ 2) (hx : Af k ws x a) (hy : Af k ws y b) (h : addA k a b = some c) : ∃ r, floatBits .add k x y = some r ∧ Af k ws r c := by
  have h' : rnd k (addL a.1 b.1, a.2 + b.2) = some c := h
  obtain ⟨h1, h2⟩ := rnd_ok (a := (addL a.1 b.1, a.2 + b.2)) (X := val k x + val k y) (add_near hx hy) hw h'
  obtain ⟨r, e, f, d, _⟩ := add_ok hx.fin hy.fin h1
  exact ⟨r, e, f, h2 r d⟩
theorem Af.sub (hw : ∀ w ∈ ws, w.abs ≤ 2) (hx : Af k ws x a) (hy : Af k ws y b) (h : subA k a b = some c) : ∃ r, floatBits .sub k x y = some r ∧ Af k ws r c := by
  have h' : rnd k (addL a.1 (scaL (-1) b.1), a.2 + b.2) = some c := h
  obtain ⟨h1, h2⟩ := rnd_ok (a := (addL a.1 (scaL (-1) b.1), a.2 + b.2)) (X := val k x - val k y) (sub_near hx hy) hw h'
  obtain ⟨r, e, f, d, _⟩ := sub_ok hx.fin hy.fin h1
  exact ⟨r, e, f, h2 r d⟩
/-- A fixed number ahead. -/
theorem Af.mul (hw : ∀ w ∈ ws, w.abs ≤ 2) {p : Nat} (hp : Ytdpogmibahaklaa.fin k p) (hx : Af k ws x a) (h : mulA k (val k p) a = some c) : ∃ r, floatBits .mul k p x = some r ∧ Af k ws r c := by
  have h' : rnd k (scaL (val k p) a.1, (val k p).abs * a.2) = some c := h
  obtain ⟨h1, h2⟩ := rnd_ok (a := (scaL (val k p) a.1, (val k p).abs * a.2)) (X := val k p * val k x) (mul_near (q := val k p) hx) hw h'
  obtain ⟨r, e, f, d, _⟩ := mul_ok hp hx.fin h1
  exact ⟨r, e, f, h2 r d⟩
/-- A fixed number behind. -/
theorem Af.mul' (hw : ∀ w ∈ ws, w.abs ≤ 2) {p : Nat} (hp : Ytdpogmibahaklaa.fin k p) (hx : Af k ws x a) (h : mulA k (val k p) a = some c) : ∃ r, floatBits .mul k x p = some r ∧ Af k ws r c := by
  have h' : rnd k (scaL (val k p) a.1, (val k p).abs * a.2) = some c := h
  obtain ⟨h1, h2⟩ := rnd_ok (a := (scaL (val k p) a.1, (val k p).abs * a.2)) (X := val k p * val k x) (mul_near (q := val k p) hx) hw h'
  rw [show val k p * val k x = val k x * val k p by grind] at h1 h2
  obtain ⟨r, e, f, d, _⟩ := mul_ok hx.fin hp h1
  exact ⟨r, e, f, h2 r d⟩
end
theorem Af.zero (k : FloatKind) (ws : List Rat) : Af k ws 0 ([], 0) := ⟨fin_zero k, by rw [val_zero, dot_nil]; show ((0 : Rat) - 0).abs ≤ 0; decide +kernel⟩

/-- Steps that are followed by forms. -/
theorem steps_rel {σ τ : Type} {f : Nat → σ → Option σ} {g : Nat → τ → Option τ} (R : σ → τ → Prop) (N : Nat) (h : ∀ i s t t', i < N → R s t → g i t = some t' → ∃ s', f i s = some s' ∧ R s' t') :
    ∀ n i s t t', i + n ≤ N → R s t → stepsF g n i t = some t' → ∃ s', stepsF f n i s = some s' ∧ R s' t'
  | 0, i, s, t, t', _, hR, hg => by rw [← stepsF_zero hg]; exact ⟨s, rfl, hR⟩
  | n + 1, i, s, t, t', hN, hR, hg => by
    obtain ⟨t1, h1, h2⟩ := stepsF_succ hg
    obtain ⟨s1, h3, h4⟩ := h i s t t1 (by omega) hR h1
    obtain ⟨s2, h5, h6⟩ := steps_rel R N h n (i + 1) s1 t1 t' (by omega) h4 h2
    exact ⟨s2, by simp only [stepsF, h3, Option.bind_some, h5], h6⟩

def finK (k : FloatKind) (x : Nat) : Bool := dfin (k.format.read x)
theorem finK_iff {k : FloatKind} {x : Nat} : finK k x = true ↔ fin k x := Iff.rfl
/-- The form of a weight by itself. -/
def uForm (i : Nat) : Form := (List.replicate i 0 ++ [1], 0)
theorem dot_unit (i : Nat) (W : List Rat) (h : i < W.length) : dot (List.replicate i 0 ++ [1]) W = W.getD i 0 := by
  induction i generalizing W with
  | zero =>
    cases W with
    | nil => simp at h
    | cons w W => simp only [List.replicate_zero, List.nil_append, dot, dot_nil, List.getD_cons_zero]; grind
  | succ i ih =>
    cases W with
    | nil => simp at h
    | cons w W =>
      have := ih W (by simpa using h)
      simp only [List.replicate_succ, List.cons_append, dot, List.getD_cons_succ, this]
      grind
theorem unit_af (k : FloatKind) (W : List Rat) (i : Nat) {x : Nat} (h : i < W.length) (hx : fin k x) (hv : val k x = W.getD i 0) : Af k W x (uForm i) :=
  ⟨hx, by
    show (val k x - dot (List.replicate i 0 ++ [1]) W).abs ≤ 0
    rw [dot_unit i W h, hv, show W.getD i 0 - W.getD i 0 = 0 by grind]
    decide +kernel⟩

theorem finB_of {x : Nat} (h : fin .f32 x) : finB x = some true := by
  have h0 : val .f32 x - val .f32 x = 0 := by grind
  obtain ⟨d, ed, fd, _, hd⟩ := sub_ok h h (by rw [h0, Rat.abs_of_nonneg (by grind)]; exact p2_pos _)
  have hd0 : val .f32 d = 0 := by
    rw [hd (by rw [h0]; have := val_rep (fin_zero .f32); rw [val_zero] at this; exact this), h0]
  have ho := order_ok fd (fin_zero .f32)
  rw [val_zero, hd0, if_neg (by grind), if_pos rfl] at ho
  unfold finB
  rw [ed, Option.map_some]
  have ho' : Ieee.single.order d 0 = some .eq := ho
  rw [ho']
  rfl
theorem le_not_gt {k : FloatKind} {x y : Nat} (hx : fin k x) (hy : fin k y) (h : val k x ≤ val k y) : (k.format.order x y == some Ordering.gt) = false := by
  rw [order_ok hx hy]
  by_cases h1 : val k x < val k y
  · rw [if_pos h1]; rfl
  · have h2 : val k x = val k y := by grind
    rw [if_neg h1, if_pos h2]; rfl
theorem U64_lt : U .f64 ≤ 1 / 9000000000000000 := by rw [U64]; decide +kernel
theorem addN {x y : Nat} {M N : Rat} (hx : fin .f64 x) (hy : fin .f64 y) (x0 : 0 ≤ val .f64 x) (y0 : 0 ≤ val .f64 y) (hM : val .f64 x ≤ M) (hN : val .f64 y ≤ N) (hb : M + N ≤ 1000000000) :
    ∃ r, o64 .add x y = some r ∧ fin .f64 r ∧ 0 ≤ val .f64 r ∧ (val .f64 r - (val .f64 x + val .f64 y)).abs ≤ 1 / 1000000 := by
  have ht := big_top .f64
  have hs : 0 ≤ val .f64 x + val .f64 y := by grind
  obtain ⟨r, e, f, d, _⟩ := add_ok hx hy (by rw [Rat.abs_of_nonneg hs]; unfold big at ht; grind)
  refine ⟨r, e, f, rd_nonneg (val_rep f) d hs, ?_⟩
  unfold Rd at d
  rw [Rat.abs_of_nonneg hs] at d
  have h1 := U64_lt
  have h2 := T_tt .f64
  have h3 := Rat.mul_le_mul_of_nonneg_left (show val .f64 x + val .f64 y ≤ 1000000000 by grind) (U_nonneg .f64)
  unfold tt at h2
  grind
theorem mulN {x y : Nat} {M N : Rat} (hx : fin .f64 x) (hy : fin .f64 y) (x0 : 0 ≤ val .f64 x) (y0 : 0 ≤ val .f64 y) (hM : val .f64 x ≤ M) (hN : val .f64 y ≤ N) (hb : M * N ≤ 1000000000) :
    ∃ r, o64 .mul x y = some r ∧ fin .f64 r ∧ 0 ≤ val .f64 r ∧ (val .f64 r - val .f64 x * val .f64 y).abs ≤ 1 / 1000000 := by
  have ht := big_top .f64
  have hs : 0 ≤ val .f64 x * val .f64 y := Rat.mul_nonneg x0 y0
  have hle : val .f64 x * val .f64 y ≤ 1000000000 := by
    have h1 := Rat.mul_le_mul_of_nonneg_left hN x0
    have h2 := Rat.mul_le_mul_of_nonneg_right hM (show 0 ≤ N by grind)
    grind
  obtain ⟨r, e, f, d, _⟩ := mul_ok hx hy (by rw [Rat.abs_of_nonneg hs]; unfold big at ht; grind)
  refine ⟨r, e, f, rd_nonneg (val_rep f) d hs, ?_⟩
  unfold Rd at d
  rw [Rat.abs_of_nonneg hs] at d
  have h1 := U64_lt
  have h2 := T_tt .f64
  have h3 := Rat.mul_le_mul_of_nonneg_left hle (U_nonneg .f64)
  unfold tt at h2
  grind
/-- How far numbers are from one another. -/
theorem gap_ok {a b : Nat} {M : Rat} (ha : fin .f64 a) (hb : fin .f64 b) (hM : (val .f64 a - val .f64 b).abs ≤ M) (hb9 : M ≤ 1000000) :
    ∃ g, gapF a b = some g ∧ fin .f64 g ∧ 0 ≤ val .f64 g ∧ val .f64 g ≤ M + 1 / 1000000000 := by
  have ht := big_top .f64
  have hM' : (val .f64 b - val .f64 a).abs ≤ M := by rw [show val .f64 b - val .f64 a = -(val .f64 a - val .f64 b) by grind, Rat.abs_neg]; exact hM
  have hx : (val .f64 a - val .f64 b).abs < p2 (top .f64) := by unfold big at ht; grind
  have hy : (val .f64 b - val .f64 a).abs < p2 (top .f64) := by unfold big at ht; grind
  obtain ⟨p, ep, fp, dp, _⟩ := sub_ok ha hb hx
  obtain ⟨q, eq, fq, dq, _⟩ := sub_ok hb ha hy
  have key : ∀ {v X : Rat}, X.abs ≤ M → Rd .f64 v X → v ≤ M + 1 / 1000000000 := by
    intro v X h1 h2
    unfold Rd at h2
    have h3 := U64_lt
    have h4 := T_tt .f64
    have h5 := Rat.mul_le_mul_of_nonneg_left (show X.abs ≤ 1000000 by grind) (U_nonneg .f64)
    rw [abs_le] at h1 h2
    unfold tt at h4
    have h6 := Rat.mul_le_mul_of_nonneg_right h3 (show (0 : Rat) ≤ 1000000 by decide +kernel)
    grind
  obtain ⟨g, eg, fg, h1, h2, h3⟩ := max_Z fp fq (key hM dp) (key hM' dq)
  refine ⟨g, ?_, fg, ?_, h1⟩
  · unfold gapF o64
    simp only [ep, eq, Option.bind_some, eg]
  · rcases abs_cases (val .f64 a - val .f64 b) with ⟨h, _⟩ | ⟨h, _⟩
    · have := rd_nonneg (val_rep fp) dp h; grind
    · have := rd_nonneg (val_rep fq) dq (by grind); grind

/-- A real number. -/
structure Re0 (x : C) : Prop where
  f1 : fin .f32 x.1
  f2 : fin .f32 x.2
  z : val .f32 x.2 = 0
structure Ac (W : List Rat) (x : C) (a : Form) : Prop where
  re : Af .f32 W x.1 a
  f2 : fin .f32 x.2
  z : val .f32 x.2 = 0
theorem rep_zero (k : FloatKind) : Rep k 0 := by have := val_rep (fin_zero k); rw [val_zero] at this; exact this
theorem abs_zero_lt (k : FloatKind) : (0 : Rat).abs < p2 (top k) := by have := p2_pos (top k); rw [Rat.abs_of_nonneg (by grind)]; exact this
theorem small_zero {x : Nat} (hx : fin .f32 x) (h : (val .f32 x).abs < p2 (-149)) : val .f32 x = 0 := by
  obtain ⟨s, m, e, hm, he, hv⟩ := val_rep hx
  rw [hv] at h ⊢
  rw [abs_sgn, Rat.abs_of_nonneg (Rat.mul_nonneg Rat.natCast_nonneg (p2_nonneg _))] at h
  rcases Nat.eq_zero_or_pos m with h0 | h0
  · subst h0
    cases s <;> simp [sgn]
  · exfalso
    have h1 : p2 (-149) ≤ p2 e := p2_mono he
    have h2 : (1 : Rat) ≤ (m : Rat) := by
      have : ((1 : Nat) : Rat) ≤ (m : Rat) := Rat.natCast_le_natCast.2 h0
      exact this
    have h3 := Rat.mul_le_mul_of_nonneg_right h2 (p2_nonneg e)
    grind
theorem zero_val : val .f32 0 = 0 ∧ fin .f32 0 := ⟨val_zero _, fin_zero _⟩

/-- The product of real numbers: a 64-bit product, and no imaginary part. -/
theorem times_re {x y : C} {W : List Rat} {a b : Form} (hw : ∀ w ∈ W, w.abs ≤ 2) (hx : Ac W x a) (hy : Re0 y) (h : mulA .f64 (val .f32 y.1) a = some b) :
    ∃ p, timesF x y = some p ∧ Af .f64 W p.1 b ∧ fin .f64 p.2 ∧ val .f64 p.2 = 0 := by
  obtain ⟨u, eu, fu, vu⟩ := wide_ok hx.re.fin
  obtain ⟨v, ev, fv, vv'⟩ := wide_ok hx.f2
  obtain ⟨s, es, fs, vs⟩ := wide_ok hy.f1
  obtain ⟨t, et, ft, vt⟩ := wide_ok hy.f2
  rw [hx.z] at vv'
  rw [hy.z] at vt
  have hu : Af .f64 W u a := ⟨fu, by rw [vu]; exact hx.re.near⟩
  rw [← vs] at h
  obtain ⟨ac, e1, q1⟩ := hu.mul' hw fs h
  have m0 : ∀ {i j : Nat}, val .f64 i * val .f64 j = 0 → (val .f64 i * val .f64 j).abs < p2 (top .f64) := fun h => by rw [h]; exact abs_zero_lt _
  have z1 : val .f64 v * val .f64 t = 0 := by rw [vv']; grind
  have z2 : val .f64 u * val .f64 t = 0 := by rw [vt]; grind
  have z3 : val .f64 v * val .f64 s = 0 := by rw [vv']; grind
  obtain ⟨bd, e2, f2, _, x2⟩ := mul_ok fv ft (m0 z1)
  obtain ⟨ad, e4, f4, _, x4⟩ := mul_ok fu ft (m0 z2)
  obtain ⟨bc, e5, f5, _, x5⟩ := mul_ok fv fs (m0 z3)
  rw [z1] at x2
  rw [z2] at x4
  rw [z3] at x5
  have v2 := x2 (rep_zero _)
  have v4 := x4 (rep_zero _)
  have v5 := x5 (rep_zero _)
  have d1 : val .f64 ac - val .f64 bd = val .f64 ac := by rw [v2]; grind
  have hac : (val .f64 ac).abs < p2 (top .f64) := by
    have h2 := q1.abs hw
    unfold mulA rnd at h
    split at h
    · rename_i hb
      cases h
      have h3 := big_top .f64
      have h4 : uu .f64 * Form.size (scaL (val .f64 s) a.1, (val .f64 s).abs * a.2) ≤ uu .f64 * big := Rat.mul_le_mul_of_nonneg_left hb (uu_nonneg _)
      have h5 : (2 : Rat) * big ≤ 4 * big := by unfold big; decide +kernel
      have h6 : uu .f64 * big + tt ≤ big := by unfold uu big tt; decide +kernel
      have h7 := big_lt
      have h8 : p2 127 ≤ p2 (top .f64) := p2_mono (by decide)
      unfold Form.size at h2 hb h4
      simp only at h2 hb h4
      grind
    · cases h
  obtain ⟨re, e3, f3, _, x3⟩ := sub_ok q1.fin f2 (by rw [d1]; exact hac)
  rw [d1] at x3
  have v3 := x3 (val_rep q1.fin)
  have s0 : val .f64 ad + val .f64 bc = 0 := by rw [v4, v5]; grind
  obtain ⟨im, e6, f6, _, x6⟩ := add_ok f4 f5 (by rw [s0]; exact abs_zero_lt _)
  rw [s0] at x6
  refine ⟨(re, im), ?_, ⟨f3, by rw [v3]; exact q1.near⟩, f6, x6 (rep_zero _)⟩
  unfold timesF wide
  simp only [eu, ev, es, et, e1, e2, e3, e4, e5, e6, Option.bind_some]
theorem narrow_re {W : List Rat} {p : Nat × Nat} {b c : Form} (hw : ∀ w ∈ W, w.abs ≤ 2) (h1 : Af .f64 W p.1 b) (h2 : fin .f64 p.2) (h3 : val .f64 p.2 = 0) (h : rnd .f32 b = some c) :
    ∃ r1 r2, narrow p.1 = some r1 ∧ narrow p.2 = some r2 ∧ Ac W (r1, r2) c := by
  obtain ⟨k1, k2⟩ := rnd_ok (k := .f32) (X := val .f64 p.1) h1.near hw h
  obtain ⟨r1, e1, g1, d1, _⟩ := narrow_ok h1.fin k1
  obtain ⟨r2, e2, g2, _, x2⟩ := narrow_ok h2 (by rw [h3]; exact abs_zero_lt .f32)
  rw [h3] at x2
  exact ⟨r1, r2, e1, e2, ⟨g1, k2 r1 d1⟩, g2, x2 (rep_zero _)⟩
def mulC (q : Rat) (a : Form) : Option Form := (mulA .f64 q a).bind (rnd .f32)
theorem Ac.mul {x y : C} {W : List Rat} {a c : Form} (hw : ∀ w ∈ W, w.abs ≤ 2) (hx : Ac W x a) (hy : Re0 y) (h : mulC (val .f32 y.1) a = some c) : ∃ r, mulF x y = some r ∧ Ac W r c := by
  simp only [mulC, Option.bind_eq_some_iff] at h
  obtain ⟨b, h1, h2⟩ := h
  obtain ⟨p, ep, q1, q2, q3⟩ := times_re hw hx hy h1
  obtain ⟨r1, r2, e1, e2, hr⟩ := narrow_re hw q1 q2 q3 h2
  exact ⟨(r1, r2), by simp only [mulF, ep, e1, e2, Option.bind_some], hr⟩
theorem Ac.add {x y : C} {W : List Rat} {a b c : Form} (hw : ∀ w ∈ W, w.abs ≤ 2) (hx : Ac W x a) (hy : Ac W y b) (h : addA .f32 a b = some c) : ∃ r, plusF x y = some r ∧ Ac W r c := by
  obtain ⟨r1, e1, q1⟩ := hx.re.add hw hy.re h
  have s0 : val .f32 x.2 + val .f32 y.2 = 0 := by rw [hx.z, hy.z]; grind
  obtain ⟨r2, e2, g2, _, x2⟩ := add_ok hx.f2 hy.f2 (by rw [s0]; exact abs_zero_lt _)
  rw [s0] at x2
  exact ⟨(r1, r2), by simp only [plusF, e1, e2, Option.bind_some], q1, g2, x2 (rep_zero _)⟩
theorem Ac.sub {x y : C} {W : List Rat} {a b c : Form} (hw : ∀ w ∈ W, w.abs ≤ 2) (hx : Ac W x a) (hy : Ac W y b) (h : subA .f32 a b = some c) : ∃ r, minusF x y = some r ∧ Ac W r c := by
  obtain ⟨r1, e1, q1⟩ := hx.re.sub hw hy.re h
  have s0 : val .f32 x.2 - val .f32 y.2 = 0 := by rw [hx.z, hy.z]; grind
  obtain ⟨r2, e2, g2, _, x2⟩ := sub_ok hx.f2 hy.f2 (by rw [s0]; exact abs_zero_lt _)
  rw [s0] at x2
  exact ⟨(r1, r2), by simp only [minusF, e1, e2, Option.bind_some], q1, g2, x2 (rep_zero _)⟩
theorem Ac.zero (W : List Rat) : Ac W zero ([], 0) := ⟨Af.zero _ _, fin_zero _, val_zero _⟩

def re0B (x : C) : Bool := finK .f32 x.1 && finK .f32 x.2 && decide (val .f32 x.2 = 0)
theorem re0B_ok {x : C} (h : re0B x = true) : Re0 x := by
  simp only [re0B, Bool.and_eq_true, decide_eq_true_eq] at h
  exact ⟨finK_iff.1 h.1.1, finK_iff.1 h.1.2, h.2⟩
def quoA (vp : Rat) (m : Form) : Option Form :=
  if Form.size (scaL (1 / vp) m.1, (1 / vp).abs * m.2) ≤ big then some (scaL (1 / vp) m.1, (1 / vp).abs * m.2 + (2 * uu .f64 * Form.size (scaL (1 / vp) m.1, (1 / vp).abs * m.2) + tt)) else none
def quotC (t vp : Rat) (a : Form) : Option Form := (mulA .f64 t a).bind fun m => (quoA vp m).bind (rnd .f32)
theorem lin_small {a b c e f g u : Rat} (h1 : a ≤ b + c) (d2 : b ≤ u + f) (h2 : u ≤ 1 * c) (hv : c ≤ e) (h : 4 * e + f < g) (he : 0 ≤ e) : a < g := by grind
theorem Ac.quot {x y : C} {W : List Rat} {a c : Form} {p : Nat} (hw : ∀ w ∈ W, w.abs ≤ 2) (hx : Ac W x a) (hy : Re0 (conjF y)) (hp : powerF y = some p) (fp : fin .f64 p) (p0 : val .f64 p ≠ 0)
    (h : quotC (val .f32 y.1) (val .f64 p) a = some c) : ∃ r, quotF x y = some r ∧ Ac W r c := by
  simp only [quotC, Option.bind_eq_some_iff] at h
  obtain ⟨m, h1, s, h2, h3⟩ := h
  have h1' : mulA .f64 (val .f32 (conjF y).1) a = some m := h1
  obtain ⟨n, en, q1, q2, q3⟩ := times_re hw hx hy h1'
  have hn := mul_near (q := 1 / val .f64 p) q1
  unfold quoA at h2
  split at h2
  · rename_i hb
    cases h2
    have hz : (1 / val .f64 p * val .f64 n.1).abs ≤ Form.size (scaL (1 / val .f64 p) m.1, (1 / val .f64 p).abs * m.2) := by
      have h2 := dot_le (scaL (1 / val .f64 p) m.1) W hw
      have h3 := abs_add (1 / val .f64 p * val .f64 n.1 - dot (scaL (1 / val .f64 p) m.1) W) (dot (scaL (1 / val .f64 p) m.1) W)
      rw [show 1 / val .f64 p * val .f64 n.1 - dot (scaL (1 / val .f64 p) m.1) W + dot (scaL (1 / val .f64 p) m.1) W = 1 / val .f64 p * val .f64 n.1 by grind] at h3
      unfold Form.size
      simp only
      grind
    have hbt : 2 * big < p2 (top .f64) := by
      have h7 := big_lt
      have h8 : p2 127 ≤ p2 (top .f64) := p2_mono (by decide)
      have h5 : (2 : Rat) * big ≤ 4 * big := by unfold big; decide +kernel
      grind
    obtain ⟨u, eu, fu, du⟩ := div_ok q1.fin fp p0 (1 / val .f64 p * val .f64 n.1) (by
      rw [Rat.div_def, Rat.one_mul]
      have := Rat.inv_mul_cancel _ p0
      rw [show (val .f64 p)⁻¹ * val .f64 n.1 * val .f64 p = ((val .f64 p)⁻¹ * val .f64 p) * val .f64 n.1 by grind, this]
      grind) (by grind)
    obtain ⟨v, ev, fv, dv⟩ := div_ok q2 fp p0 0 (by rw [q3]; grind) (by rw [Rat.abs_of_nonneg (by grind)]; have := p2_pos (top .f64); grind)
    have hu : Af .f64 W u (scaL (1 / val .f64 p) m.1, (1 / val .f64 p).abs * m.2 + (2 * uu .f64 * Form.size (scaL (1 / val .f64 p) m.1, (1 / val .f64 p).abs * m.2) + tt)) := by
      refine ⟨fu, ?_⟩
      unfold Rd2 at du
      rw [U_uu] at du
      have h1 := abs_add (val .f64 u - 1 / val .f64 p * val .f64 n.1) (1 / val .f64 p * val .f64 n.1 - dot (scaL (1 / val .f64 p) m.1) W)
      rw [show val .f64 u - 1 / val .f64 p * val .f64 n.1 + (1 / val .f64 p * val .f64 n.1 - dot (scaL (1 / val .f64 p) m.1) W) = val .f64 u - dot (scaL (1 / val .f64 p) m.1) W by grind] at h1
      have h2 := T_tt .f64
      have h4 := Rat.mul_le_mul_of_nonneg_left hz (show 0 ≤ 2 * uu .f64 by have := uu_nonneg .f64; grind)
      show (val .f64 u - dot (scaL (1 / val .f64 p) m.1) W).abs ≤ _
      grind
    obtain ⟨k1, k2⟩ := rnd_ok (k := .f32) (X := val .f64 u) hu.near hw h3
    obtain ⟨r1, e1, g1, d1, _⟩ := narrow_ok fu k1
    have hvs : (val .f64 v).abs ≤ p2 (-160) := by
      unfold Rd2 at dv
      rw [show val .f64 v - 0 = val .f64 v by grind, show (0 : Rat).abs = 0 by decide +kernel] at dv
      have : T .f64 ≤ p2 (-160) := p2_mono (by decide)
      grind
    have h160 : p2 (-160) ≤ 1 ∧ 4 * p2 (-160) + p2 (-150) < p2 (-149) := by unfold p2; decide +kernel
    obtain ⟨r2, e2, g2, d2, _⟩ := narrow_ok fv (by have := big_top .f32; have hh : (1 : Rat) ≤ big := by unfold big; decide +kernel
                                                   show (val .f64 v).abs < p2 (top .f32); grind)
    have hz2 : val .f32 r2 = 0 := by
      refine small_zero g2 ?_
      unfold Rd at d2
      have h1 := abs_add (val .f32 r2 - val .f64 v) (val .f64 v)
      rw [show val .f32 r2 - val .f64 v + val .f64 v = val .f32 r2 by grind] at h1
      have h2 : U .f32 * (val .f64 v).abs ≤ 1 * (val .f64 v).abs := Rat.mul_le_mul_of_nonneg_right (by rw [U32]; decide +kernel) (abs_nonneg _)
      exact lin_small h1 d2 h2 hvs h160.2 (p2_nonneg _)
    exact ⟨(r1, r2), by simp only [quotF, en, hp, eu, ev, narrow, e1, e2, Option.bind_some], ⟨g1, k2 r1 d1⟩, g2, hz2⟩
  · cases h2

/-- Lists that are followed by forms. -/
structure AcL (W : List Rat) (xs : List C) (fs : List Form) : Prop where
  len : xs.length = fs.length
  at_ : ∀ i, Ac W (xs.getD i zero) (fs.getD i ([], 0))
theorem getD_set' {α : Type} (xs : List α) (i j : Nat) (x d : α) : (xs.set i x).getD j d = if i = j ∧ j < xs.length then x else xs.getD j d := by
  rw [List.getD_eq_getElem?_getD, List.getElem?_set, List.getD_eq_getElem?_getD]
  by_cases h : i = j
  · subst h
    by_cases h2 : i < xs.length
    · simp [h2]
    · simp [h2]
  · simp [h]
theorem AcL.set {W : List Rat} {xs : List C} {fs : List Form} {x : C} {a : Form} (h : AcL W xs fs) (hx : Ac W x a) (i : Nat) : AcL W (xs.set i x) (fs.set i a) := by
  refine ⟨by rw [List.length_set, List.length_set]; exact h.len, fun j => ?_⟩
  rw [getD_set', getD_set', ← h.len]
  split
  · exact hx
  · exact h.at_ j
theorem AcL.rep (W : List Rat) (n : Nat) : AcL W (List.replicate n zero) (List.replicate n ([], 0)) := by
  refine ⟨by simp, fun i => ?_⟩
  rw [List.getD_eq_getElem?_getD, List.getD_eq_getElem?_getD, List.getElem?_replicate, List.getElem?_replicate]
  split <;> exact Ac.zero W
theorem AcL.take {W : List Rat} {xs : List C} {fs : List Form} (h : AcL W xs fs) (t : Nat) : AcL W (xs.take t) (fs.take t) := by
  refine ⟨by rw [List.length_take, List.length_take, h.len], fun i => ?_⟩
  rw [List.getD_eq_getElem?_getD, List.getD_eq_getElem?_getD, List.getElem?_take, List.getElem?_take]
  split
  · have := h.at_ i
    rw [List.getD_eq_getElem?_getD, List.getD_eq_getElem?_getD] at this
    exact this
  · exact Ac.zero W
end Go.Proofs.Ytdpogmibahaklaa
