/- Polynomials of families, and what leads back, as forms of the draws' weights; the weights that lead back are near the draws' weights. -/
import Derived.Test.YtdpogmibahaklaaM27
set_option linter.unusedVariables false
set_option linter.unusedSimpArgs false
namespace Go.Proofs.Ytdpogmibahaklaa

def addAllA (f : List C) (w : Form) (out : List Form) : Option (List Form) :=
  stepsF (fun i out => if re0B (f.getD i zero) then (mulC (val .f32 (f.getD i zero).1) w).bind fun p => (addA .f32 (out.getD i ([], 0)) p).bind fun s => some (out.set i s) else none) f.length 0 out
def polyFamA (kind c : Nat) : Option (List Form) := stepsF (fun k out => (famPolyF kind k).bind fun f => addAllA f (uForm k) out) c 0 (List.replicate c ([], 0))
theorem addAll_rel {W : List Rat} {f : List C} {w : C} {a : Form} {xs : List C} {fs fs' : List Form} (hw : ∀ w ∈ W, w.abs ≤ 2) (hx : Ac W w a) (h : AcL W xs fs) (hg : addAllA f a fs = some fs') : ∃ xs', addAllF w f xs = some xs' ∧ AcL W xs' fs' := by
  refine steps_rel (fun (s : List C) (t : List Form) => AcL W s t) f.length ?_ f.length 0 xs _ _ (by omega) h hg
  intro i s t t' hi hR hg
  split at hg
  · rename_i hf
    simp only [Option.bind_eq_some_iff] at hg
    obtain ⟨p, g1, d, g2, hg⟩ := hg
    cases hg
    obtain ⟨p', e1, q1⟩ := hx.mul hw (re0B_ok hf) g1
    obtain ⟨d', e2, q2⟩ := (hR.at_ i).add hw q1 g2
    exact ⟨s.set i d', by simp only [e1, e2, Option.bind_some], hR.set q2 i⟩
  · cases hg
theorem polyFam_rel {ws : List Nat} {kind c : Nat} {fs : List Form} (hw : Weights ws) (hl : ws.length = c) (h : polyFamA kind c = some fs) : ∃ out, polyFamF kind (ws.map fun w => (w, 0)) = some out ∧ AcL (valL ws) out fs := by
  unfold polyFamF
  rw [List.length_map, hl]
  refine steps_rel (fun (s : List C) (t : List Form) => AcL (valL ws) s t) c ?_ c 0 _ _ _ (by omega) (AcL.rep _ _) h
  intro i s t t' hi hR hg
  simp only [Option.bind_eq_some_iff] at hg
  obtain ⟨f, hf, hg⟩ := hg
  have hu : Ac (valL ws) ((ws.map fun w => ((w, 0) : C)).getD i zero) (uForm i) := by
    have h1 := hw.unit (i := i) (by omega)
    rw [List.getD_eq_getElem?_getD, List.getElem?_eq_getElem (by omega)] at h1
    rw [List.getD_eq_getElem?_getD, List.getElem?_map, List.getElem?_eq_getElem (by omega)]
    exact ⟨h1, fin_zero _, val_zero _⟩
  obtain ⟨s', e1, q1⟩ := addAll_rel hw.le hu hR hg
  exact ⟨s', by simp only [hf, Option.bind_some, e1], q1⟩

def takeOffA (f : List C) (q : Form) (m : Nat) (left : List Form) : Option (List Form) :=
  stepsF (fun i left => if re0B (f.getD i zero) then (mulC (val .f32 (f.getD i zero).1) q).bind fun p => (subA .f32 (left.getD i ([], 0)) p).bind fun d => some (left.set i d) else none) m 0 left
theorem takeOff_rel {W : List Rat} {f : List C} {w : C} {a : Form} {xs : List C} {fs fs' : List Form} {m : Nat} (hw : ∀ w ∈ W, w.abs ≤ 2) (hx : Ac W w a) (h : AcL W xs fs) (hg : takeOffA f a m fs = some fs') : ∃ xs', takeOffF f w m xs = some xs' ∧ AcL W xs' fs' := by
  refine steps_rel (fun (s : List C) (t : List Form) => AcL W s t) m ?_ m 0 xs _ _ (by omega) h hg
  intro i s t t' hi hR hg
  split at hg
  · rename_i hf
    simp only [Option.bind_eq_some_iff] at hg
    obtain ⟨p, g1, d, g2, hg⟩ := hg
    cases hg
    obtain ⟨p', e1, q1⟩ := hx.mul hw (re0B_ok hf) g1
    obtain ⟨d', e2, q2⟩ := (hR.at_ i).sub hw q1 g2
    exact ⟨s.set i d', by simp only [e1, e2, Option.bind_some], hR.set q2 i⟩
  · cases hg
def famOfStepA (kind k : Nat) (s : List Form × List Form) : Option (List Form × List Form) :=
  (famPolyF kind k).bind fun f => (powerF (f.getD k zero)).bind fun p => if re0B (conjF (f.getD k zero)) && finK .f64 p && decide (val .f64 p ≠ 0) then
    (quotC (val .f32 (f.getD k zero).1) (val .f64 p) (s.1.getD k ([], 0))).bind fun q => (takeOffA f q (k + 1) s.1).bind fun left => some (left, s.2.set k q) else none
def famOfA (kind : Nat) (p : List Form) : Option (List Form) := (stepsF (fun j => famOfStepA kind (p.length - 1 - j)) p.length 0 (p, List.replicate p.length ([], 0))).map Prod.snd
theorem famOf_rel {W : List Rat} {kind : Nat} {p : List C} {fs bs : List Form} (hw : ∀ w ∈ W, w.abs ≤ 2) (h : AcL W p fs) (hg : famOfA kind fs = some bs) : ∃ back, famOfF kind p = some back ∧ AcL W back bs := by
  simp only [famOfA, Option.map_eq_some_iff] at hg
  obtain ⟨⟨l, bs'⟩, hg, rfl⟩ := hg
  rw [← h.len] at hg
  have key := steps_rel (f := fun j => famOfStepF kind (p.length - 1 - j)) (g := fun j => famOfStepA kind (p.length - 1 - j)) (fun (s : List C × List C) (t : List Form × List Form) => AcL W s.1 t.1 ∧ AcL W s.2 t.2) p.length ?_ p.length 0 (p, List.replicate p.length zero) _ _ (by omega) ⟨h, AcL.rep _ _⟩ hg
  · obtain ⟨⟨l', b'⟩, e, _, h2⟩ := key
    exact ⟨b', by simp only [famOfF, e, Option.map_some], h2⟩
  · intro i s t t' hi ⟨h1, h2⟩ hg
    simp only [famOfStepA, Option.bind_eq_some_iff] at hg
    obtain ⟨f, hf, pw, hpw, hg⟩ := hg
    split at hg
    · rename_i hc
      simp only [Bool.and_eq_true, decide_eq_true_eq] at hc
      simp only [Option.bind_eq_some_iff] at hg
      obtain ⟨q, g1, lf, g2, hg⟩ := hg
      cases hg
      obtain ⟨q', e1, k1⟩ := (h1.at_ _).quot hw (re0B_ok hc.1.1) hpw (finK_iff.1 hc.1.2) hc.2 g1
      obtain ⟨l', e2, k2⟩ := takeOff_rel hw k1 h1 g2
      exact ⟨(l', s.2.set (p.length - 1 - i) q'), by simp only [famOfStepF, hf, e1, e2, Option.bind_some], k2, h2.set k1 _⟩
    · cases hg

theorem dot_zeros (cs W : List Rat) (h : ∀ j, W.getD j 0 = 0) : dot cs W = 0 := by
  induction cs generalizing W with
  | nil => exact dot_nil W
  | cons c cs ih =>
    cases W with
    | nil => rfl
    | cons w W =>
      have h0 : w = 0 := h 0
      have h1 := ih W (fun j => h (j + 1))
      simp only [dot, h0, h1]
      grind
theorem dot_take (m : Nat) (cs W : List Rat) (h : ∀ j, m ≤ j → W.getD j 0 = 0) : dot cs W = dot (cs.take m) W := by
  induction m generalizing cs W with
  | zero => rw [dot_zeros cs W (fun j => h j (Nat.zero_le _)), List.take_zero, dot_nil]
  | succ m ih =>
    cases cs with
    | nil => rfl
    | cons c cs =>
      cases W with
      | nil => rfl
      | cons w W =>
        have := ih cs W (fun j hj => h (j + 1) (by omega))
        simp only [List.take_succ_cons, dot, this]
theorem trimN_zero (l : List C) : ∀ n i, trimN l n ≤ i → i < n → isZ (l.getD i zero) = true
  | 0, i, _, h => absurd h (by omega)
  | 1, i, h1, h => by
    have : trimN l 1 = 1 := rfl
    omega
  | n + 2, i, h1, h => by
    unfold trimN at h1
    split at h1
    · rename_i hz
      rcases Nat.lt_or_eq_of_le (Nat.le_of_lt_succ h) with h2 | rfl
      · exact trimN_zero l (n + 1) i h1 h2
      · exact hz
    · omega
theorem isZ_val {x : C} (hx : fin .f32 x.1) (h : isZ x = true) : val .f32 x.1 = 0 := by
  unfold isZ at h
  rw [Bool.and_eq_true, beq_iff_eq, beq_iff_eq] at h
  have h1 : FloatKind.f32.format.order x.1 0 = some .eq := h.1
  rw [order_ok hx (fin_zero .f32), val_zero] at h1
  split at h1
  · cases h1
  · split at h1
    · assumption
    · cases h1
def topB (fs : List Form) (i : Nat) : Bool :=
  decide ((fs.getD i ([], 0)).2 + nrm (addL ((fs.getD i ([], 0)).1.take (i + 1)) (scaL (-((fs.getD i ([], 0)).1.getD i 0)) (uForm i).1)) < 1 / 4 * ((fs.getD i ([], 0)).1.getD i 0).abs)
theorem top_zero {W : List Rat} {x i : Nat} {fs : List Form} (hle : ∀ w ∈ W, w.abs ≤ 2) (hi : i < W.length) (hx : Af .f32 W x (fs.getD i ([], 0))) (hv : val .f32 x = 0) (ht : topB fs i = true)
    (hz : ∀ j, i + 1 ≤ j → W.getD j 0 = 0) (hq : W.getD i 0 = 0 ∨ 1 / 4 ≤ (W.getD i 0).abs) : W.getD i 0 = 0 := by
  rcases hq with h | h
  · exact h
  · exfalso
    have h1 := hx.near
    have h2 : _ < _ := of_decide_eq_true ht
    generalize fs.getD i ([], 0) = a at h1 h2
    have h3 := dot_le (addL (a.1.take (i + 1)) (scaL (-(a.1.getD i 0)) (uForm i).1)) W hle
    have hu : dot (uForm i).1 W = W.getD i 0 := dot_unit i W hi
    rw [dot_add, dot_sca, ← dot_take (i + 1) a.1 W hz, hu] at h3
    rw [hv, show (0 : Rat) - dot a.1 W = -dot a.1 W by grind, Rat.abs_neg] at h1
    have h4 := abs_add (dot a.1 W) (-(dot a.1 W + -a.1.getD i 0 * W.getD i 0))
    rw [Rat.abs_neg, show dot a.1 W + -(dot a.1 W + -a.1.getD i 0 * W.getD i 0) = a.1.getD i 0 * W.getD i 0 by grind, abs_mul] at h4
    have h5 := Rat.mul_le_mul_of_nonneg_left h (abs_nonneg (a.1.getD i 0))
    grind
def nearB (bs : List Form) (t k : Nat) : Bool := decide (nrm ((addL (bs.getD k ([], 0)).1 (scaL (-1) (uForm k).1)).take t) + (bs.getD k ([], 0)).2 ≤ 49 / 1000)
def backB (kind c : Nat) : Bool :=
  match polyFamA kind c with
  | some fs => decide (fs.length = c) && ((List.range c).all (topB fs)) && ((List.range c).all fun u =>
    match famOfA kind (fs.take (u + 1)) with
    | some bs => decide (bs.length = u + 1) && (List.range (u + 1)).all (nearB bs (u + 1))
    | none => false)
  | none => false
theorem c005_ok : fin .f64 4587366580439587226 ∧ 49999 / 1000000 ≤ val .f64 4587366580439587226 ∧ val .f64 4587366580439587226 ≤ 1 := ⟨by unfold fin; decide +kernel, by unfold val; decide +kernel, by unfold val; decide +kernel⟩
theorem Ac.c {W : List Rat} {x : C} {a : Form} (h : Ac W x a) : FinC x := ⟨finB_of h.re.fin, finB_of h.f2⟩
theorem far_ok {W : List Rat} {x y : C} {a b : Form} (hx : Ac W x a) (hy : Ac W y b) (h : (val .f32 x.1 - val .f32 y.1).abs ≤ 49 / 1000) : ∃ d, farwF x y = some d ∧ fin .f64 d ∧ val .f64 d ≤ 491 / 10000 := by
  obtain ⟨p, ep, fp, vp⟩ := wide_ok hx.re.fin
  obtain ⟨q, eq, fq, vq⟩ := wide_ok hy.re.fin
  obtain ⟨r, er, fr, vr⟩ := wide_ok hx.f2
  obtain ⟨s, es, fs, vs⟩ := wide_ok hy.f2
  obtain ⟨g, eg, fg, g0, g1⟩ := gap_ok (M := 49 / 1000) fp fq (by rw [vp, vq]; exact h) (by decide +kernel)
  obtain ⟨k, ek, fk, k0, k1⟩ := gap_ok (M := 0) fr fs (by rw [vr, vs, hx.z, hy.z]; decide +kernel) (by decide +kernel)
  obtain ⟨d, ed, fd, d0, d1⟩ := addN fg fk g0 k0 (M := 1) (N := 1) (by grind) (by grind) (by decide +kernel)
  rw [abs_le] at d1
  refine ⟨d, ?_, fd, by grind⟩
  unfold farwF wide
  simp only [ep, eq, eg, er, es, ek, ed, Option.bind_some]

theorem back_ok {ws : List Nat} {kind c size : Nat} (hw : Weights ws) (hl : ws.length = c) (c1 : 1 ≤ c) (c6 : c ≤ 6) (h : backB kind c = true) (fs : fin .f64 size) (s1 : 999990 / 1000000 ≤ val .f64 size) (s2 : val .f64 size ≤ 400000) :
    ∃ out back, BackOk kind (ws.map fun w => (w, 0)) out back size := by
  unfold backB at h
  cases hp : polyFamA kind c with
  | none => rw [hp] at h; cases h
  | some pf =>
    rw [hp] at h
    simp only [Bool.and_eq_true, decide_eq_true_eq, List.all_eq_true, List.mem_range] at h
    obtain ⟨⟨h1, h2⟩, h3⟩ := h
    obtain ⟨out, eo, ho⟩ := polyFam_rel hw hl hp
    have hol : out.length = c := by rw [ho.len, h1]
    have tp := trimN_pos out c c1
    have tl := trimN_le out c
    have tz := trimN_zero out c
    have tla := trimN_last out c c1
    have hWl : (valL ws).length = c := by rw [valL_len, hl]
    -- the weights behind the last term that is left are zero
    have hzero : ∀ m i, i + m = c → trimN out c ≤ i → ∀ j, i ≤ j → (valL ws).getD j 0 = 0 := by
      intro m
      induction m with
      | zero =>
        intro i hi _ j hj
        rw [List.getD_eq_getElem?_getD, List.getElem?_eq_none (by omega)]
        rfl
      | succ m ih =>
        intro i hi hti j hj
        have hr := ih (i + 1) (by omega) (by omega)
        rcases Nat.lt_or_eq_of_le hj with h4 | rfl
        · exact hr j h4
        · have ha := (ho.at_ i).re
          have hv := isZ_val ha.fin (tz i hti (by omega))
          exact top_zero hw.le (by omega) ha hv (h2 i (by omega)) hr (by rw [valL_at (by omega)]; exact (hw.at_ (by omega)).2.2)
    have hW0 := hzero (c - trimN out c) (trimN out c) (by omega) (Nat.le_refl _)
    have htake := ho.take (trimN out c)
    have htl : (out.take (trimN out c)).length = trimN out c := by rw [List.length_take]; omega
    have h4 := h3 (trimN out c - 1) (by omega)
    rw [show trimN out c - 1 + 1 = trimN out c by omega] at h4
    cases hb : famOfA kind (pf.take (trimN out c)) with
    | none => rw [hb] at h4; cases h4
    | some bs =>
      rw [hb] at h4
      simp only [Bool.and_eq_true, decide_eq_true_eq, List.all_eq_true, List.mem_range] at h4
      obtain ⟨h5, h6⟩ := h4
      obtain ⟨back, eb, hbk⟩ := famOf_rel hw.le htake hb
      have hbl : back.length = trimN out c := by rw [hbk.len, h5]
      have hcl : (ws.map fun w => ((w, 0) : C)).length = c := by rw [List.length_map, hl]
      have hcs : ∀ k, k < c → Ac (valL ws) ((ws.map fun w => ((w, 0) : C)).getD k zero) (uForm k) := by
        intro k hk
        have h1 := hw.unit (i := k) (by omega)
        rw [List.getD_eq_getElem?_getD, List.getElem?_eq_getElem (by omega)] at h1
        rw [List.getD_eq_getElem?_getD, List.getElem?_map, List.getElem?_eq_getElem (by omega)]
        exact ⟨h1, fin_zero _, val_zero _⟩
      have allc : ∀ {xs : List C} {gs : List Form}, AcL (valL ws) xs gs → ∀ z ∈ xs, FinC z := by
        intro xs gs hx z hz
        obtain ⟨i, hi, rfl⟩ := List.getElem_of_mem hz
        have := (hx.at_ i).c
        rw [List.getD_eq_getElem?_getD, List.getElem?_eq_getElem hi] at this
        exact this
      refine ⟨out, back, ?_, eo, ?_, ?_, allc hbk, ?_, ?_⟩
      · intro z hz
        obtain ⟨u, hu, rfl⟩ := List.mem_map.1 hz
        obtain ⟨v, v1, v2⟩ := hw u hu
        exact ⟨finB_of (weight_val v1 v2).1, finB_of (fin_zero _)⟩
      · rw [hcl]
        refine ⟨by rw [htl]; exact tp, by rw [htl]; omega, allc htake, ?_⟩
        rw [htl]
        rcases tla with h7 | h7
        · exact .inl h7
        · right
          rw [List.getD_eq_getElem?_getD, List.getElem?_take_of_lt (by omega), ← List.getD_eq_getElem?_getD]
          exact h7
      · rw [hcl]; exact eb
      · rw [hcl]; exact hbl
      · intro k hk
        have hk' : k < trimN out c := by omega
        have hx := hbk.at_ k
        have hy := hcs k (by omega)
        have h7 : nrm ((addL (bs.getD k ([], 0)).1 (scaL (-1) (uForm k).1)).take (trimN out c)) + (bs.getD k ([], 0)).2 ≤ 49 / 1000 := of_decide_eq_true (h6 k hk')
        have h8 : (val .f32 (back.getD k zero).1 - val .f32 ((ws.map fun w => ((w, 0) : C)).getD k zero).1).abs ≤ 49 / 1000 := by
          have n1 := hx.re.near
          have n2 := hy.re.near
          have h3 := dot_le ((addL (bs.getD k ([], 0)).1 (scaL (-1) (uForm k).1)).take (trimN out c)) (valL ws) hw.le
          rw [← dot_take (trimN out c) _ _ hW0, dot_add, dot_sca] at h3
          have z2 : (uForm k).2 = 0 := rfl
          rw [z2] at n2
          generalize bs.getD k ([], 0) = a at n1 h3 h7
          generalize val .f32 (back.getD k zero).1 = X at n1 ⊢
          generalize val .f32 ((ws.map fun w => ((w, 0) : C)).getD k zero).1 = Y at n2 ⊢
          have h4 := abs_add (X - dot a.1 (valL ws)) (dot a.1 (valL ws) + -1 * dot (uForm k).1 (valL ws))
          have h5 := abs_add (X - dot a.1 (valL ws) + (dot a.1 (valL ws) + -1 * dot (uForm k).1 (valL ws))) (-(Y - dot (uForm k).1 (valL ws)))
          rw [Rat.abs_neg, show X - dot a.1 (valL ws) + (dot a.1 (valL ws) + -1 * dot (uForm k).1 (valL ws)) + -(Y - dot (uForm k).1 (valL ws)) = X - Y by grind] at h5
          grind
        obtain ⟨d, ed, fd, vd⟩ := far_ok hx hy h8
        obtain ⟨q1, q2, q3⟩ := c005_ok
        obtain ⟨m, em, fm, m0, m1⟩ := mulN q1 fs (by grind) (by grind) (M := 1) (N := 400000) q3 s2 (by decide +kernel)
        have hge : 4999 / 100000 ≤ val .f64 4587366580439587226 * val .f64 size := by
          have h1 := Rat.mul_le_mul_of_nonneg_left s1 (show 0 ≤ val .f64 4587366580439587226 by grind)
          grind
        rw [abs_le] at m1
        exact ⟨d, m, ed, em, le_not_gt fd fm (by grind)⟩
end Go.Proofs.Ytdpogmibahaklaa
