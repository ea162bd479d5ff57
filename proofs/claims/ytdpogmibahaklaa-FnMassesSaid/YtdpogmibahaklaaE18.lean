/- The statement on masses: its nodes as checks, and the two masses near one another out of checks. -/
import Derived.Test.YtdpogmibahaklaaE15
import Derived.Test.YtdpogmibahaklaaE16
set_option linter.unusedVariables false
set_option linter.unusedSimpArgs false
namespace Go.Proofs.Ytdpogmibahaklaa

/-! ### Nodes -/
def argE (n k : Nat) : Bool :=
  match nodeArgF n k with
  | some y => finsE y && (match wide y with | some z => FloatKind.f64.format.order (absF z) 4841369599423283200 == some Ordering.lt | none => true)
  | none => true
theorem argE_ok {n k : Nat} (h : argE n k = true) : ∀ y, nodeArgF n k = some y → finB y = some true ∧ ∀ z, wide y = some z → FloatKind.f64.format.order (absF z) 4841369599423283200 = some .lt := by
  intro y hy
  unfold argE at h
  rw [hy] at h
  simp only [Bool.and_eq_true] at h
  refine ⟨finsE_iff.1 h.1, fun z hz => ?_⟩
  have h2 := h.2
  rw [hz] at h2
  simpa using h2
def gtE (g c : Nat) : Bool := FloatKind.f64.format.order g c == some Ordering.gt
def leE (x y : Nat) : Bool := (FloatKind.f32.format.order x y == some Ordering.lt) || (FloatKind.f32.format.order x y == some Ordering.eq)
def geE (x y : Nat) : Bool := (FloatKind.f32.format.order x y == some Ordering.gt) || (FloatKind.f32.format.order x y == some Ordering.eq)
def nodeC (n : Nat) (xs ws : List Nat) (i : Nat) : Option Bool :=
  (rowF 2 n (xs.getD i 0)).bind fun row => (wide (row.getD n 0)).bind fun a => (gapF a 0).bind fun g => (wide (xs.getD i 0)).bind fun p => (wide (xs.getD (n - 1 - i) 0)).bind fun q =>
  (gapF p (Op.negFloat .f64 q)).bind fun g2 => (wide (ws.getD i 0)).bind fun b =>
    some (finsE (xs.getD i 0) && finsE (row.getD n 0) && !gtE g 4562254508917369340 && !leE (ws.getD i 0) 0 && !geE (xs.getD i 0) 1065353216 && !leE (xs.getD i 0) 3212836864 && (decide (i = 0) || !geE (xs.getD i 0) (xs.getD (i - 1) 0)) && !gtE g2 4562254508917369340)
theorem nodeC_ok {n i : Nat} {xs ws : List Nat} (h : nodeC n xs ws i = some true) : ∃ row a g p q g2 b, NodeAt n xs ws i row a g p q g2 b := by
  simp only [nodeC, Option.bind_eq_some_iff] at h
  obtain ⟨row, h1, a, h2, g, h3, p, h4, q, h5, g2, h6, b, h7, h8⟩ := h
  simp only [Option.some.injEq, Bool.and_eq_true, Bool.not_eq_true', Bool.or_eq_true, decide_eq_true_eq] at h8
  obtain ⟨⟨⟨⟨⟨⟨⟨k1, k2⟩, k3⟩, k4⟩, k5⟩, k6⟩, k7⟩, k8⟩ := h8
  refine ⟨row, a, g, p, q, g2, b, h1, finsE_iff.1 k1, finsE_iff.1 k2, h2, h3, k3, k4, k5, k6, fun hi => ?_, h4, h5, h6, k8, h7⟩
  rcases k7 with k | k
  · omega
  · exact k
def sumE (n : Nat) (ws : List Nat) : Bool :=
  match stepsF (sumW ws) n 0 0 with
  | some S => (match gapF S 4611686018427387904 with | some g => !gtE g 4562254508917369340 | none => false)
  | none => false
def evenE (n : Nat) (xs ws : List Nat) : Bool :=
  decide (xs.length = n) && decide (ws.length = n) && xs.all finsE && ws.all finsE && (List.range n).all (argE n) && ((List.range n).all fun i => nodeC n xs ws i == some true) && sumE n ws

/-! ### Masses -/
def topE (r : List Form) (c : Nat) : Bool :=
  decide ((r.getD c ([], 0)).1 = List.replicate (c - 1) 0 ++ [(r.getD c ([], 0)).1.getD (c - 1) 0]) && decide (4 * (r.getD c ([], 0)).2 < (r.getD c ([], 0)).1.getD (c - 1) 0)
def exactA (r : List Form) : Option Form := (nestA r 1).bind fun a => (nestA r (-1)).bind fun b => subA .f32 a b
def massE (n c : Nat) (xs ws : List Nat) : Bool :=
  ((List.range n).all fun i => finK .f32 (xs.getD i 0) && (nestA (units2 c) (val .f32 (xs.getD i 0))).isSome) &&
    match massA (units2 c) xs ws, riseA (units2 c) with
    | some m, some r => decide (r.length = c + 1) && topE r c && (match exactA r with | some e => decide (nrm (addL m.1 (scaL (-1) e.1)) + m.2 + e.2 ≤ 1 / 1000) | none => false)
    | _, _ => false

theorem notZ {x : C} (hx : fin .f32 x.1) (h : 0 < val .f32 x.1) : isZ x = false := by
  have h1 := order_ok hx (fin_zero .f32)
  rw [val_zero, if_neg (by grind), if_neg (by grind)] at h1
  have h2 : Ieee.single.order x.1 0 = some .gt := h1
  unfold isZ
  rw [h2]
  rfl
theorem trimN_full {l : List C} {n : Nat} (h2 : 2 ≤ n) (h : isZ (l.getD (n - 1) zero) = false) : trimN l n = n := by
  obtain ⟨k, rfl⟩ : ∃ k, n = k + 2 := ⟨n - 2, by omega⟩
  unfold trimN
  rw [show k + 2 - 1 = k + 1 by omega] at h
  rw [h]
  rfl
theorem val_one32 : val .f32 1065353216 = 1 ∧ fin .f32 1065353216 := ⟨by unfold val; decide +kernel, by unfold fin; decide +kernel⟩
theorem val_neg32 : val .f32 3212836864 = -1 ∧ fin .f32 3212836864 := ⟨by unfold val; decide +kernel, by unfold fin; decide +kernel⟩
theorem c01_ok : fin .f64 4576918229304087675 ∧ 99999 / 10000000 ≤ val .f64 4576918229304087675 ∧ val .f64 4576918229304087675 ≤ 1 := ⟨by unfold fin; decide +kernel, by unfold val; decide +kernel, by unfold val; decide +kernel⟩
theorem c1_ok : fin .f64 4607182418800017408 ∧ val .f64 4607182418800017408 = 1 := ⟨by unfold fin; decide +kernel, by unfold val; decide +kernel⟩
theorem low_prod {c t : Rat} (h1 : 99999 / 10000000 ≤ c) (h2 : 999999 / 1000000 ≤ t) : 99 / 10000 ≤ c * t := by
  have a := Rat.mul_le_mul_of_nonneg_right h1 (show 0 ≤ t by grind)
  grind
/-- What is drawn is a valid polynomial. -/
theorem terms_val {p : List C} (h : Terms p) : ValC p := by
  have l1 := h.l1
  have l8 := h.l8
  refine ⟨l1, by omega, fun x hx => ?_, .inr (notZ ?_ ?_)⟩
  · obtain ⟨a, b, ha, hb, rfl⟩ := h.at_ x hx
    exact ⟨finB_of (q_ok ha).1, finB_of (q_ok hb).1⟩
  · obtain ⟨a, b, ha, hb, e⟩ := h.at_ _ (getD_mem (d := zero) (show p.length - 1 < p.length by omega))
    rw [e]
    exact (q_ok ha).1
  · have := h.top
    grind
theorem near_ok {n c : Nat} {xs ws : List Nat} {p : List C} (hT : Terms p) (hl : p.length = c) (hM : massE n c xs ws = true) : ∃ ma ri a b ex lo d lw t u, NearOk n xs ws p ma ri a b ex lo d lw t u := by
  subst hl
  unfold massE at hM
  simp only [Bool.and_eq_true, List.all_eq_true, List.mem_range] at hM
  obtain ⟨hN, hM⟩ := hM
  have hw := wR_le hT.at_
  have hv := wI_le hT.at_
  have hp := units2_af hT.at_
  have l1 := hT.l1
  have l8 := hT.l8
  cases hm : massA (units2 p.length) xs ws with
  | none => rw [hm] at hM; simp at hM
  | some m =>
    cases hr : riseA (units2 p.length) with
    | none => rw [hm, hr] at hM; simp at hM
    | some r =>
      rw [hm, hr] at hM
      simp only [Bool.and_eq_true, decide_eq_true_eq] at hM
      obtain ⟨⟨hrl, htop⟩, hM⟩ := hM
      cases he : exactA r with
      | none => rw [he] at hM; cases hM
      | some e =>
        rw [he] at hM
        have hd : nrm (addL m.1 (scaL (-1) e.1)) + m.2 + e.2 ≤ 1 / 1000 := of_decide_eq_true hM
        simp only [exactA, Option.bind_eq_some_iff] at he
        obtain ⟨fa, ha, fb, hb, he⟩ := he
        obtain ⟨ma, ema, qma⟩ := mass_rel hw hv hp hm
        obtain ⟨ri, eri, qri⟩ := rise_rel hw hv hp hr
        obtain ⟨a, ea, qa⟩ := nest_rel (z := one) hw hv (re0 val_one32.2) qri (by show nestA r (val .f32 1065353216) = _; rw [val_one32.1]; exact ha)
        obtain ⟨b, eb, qb⟩ := nest_rel (z := (3212836864, 0)) hw hv (re0 val_neg32.2) qri (by show nestA r (val .f32 3212836864) = _; rw [val_neg32.1]; exact hb)
        obtain ⟨ex, eex, qex⟩ := qa.sub hw hv qb he
        obtain ⟨lo, elo, flo, lo0, lo1⟩ := longPoly_ok hT
        obtain ⟨d, ed, fd, d0, d1⟩ := farz_ok hw hv qma qex hd (by decide +kernel)
        obtain ⟨lw, elw, flw, vlw⟩ := wide_ok flo
        have hc1 := c1_ok
        have hc01 := c01_ok
        obtain ⟨t, et, ft, t0, t1⟩ := addN (M := 1) (N := 100) hc1.1 flw (by rw [hc1.2]; decide +kernel) (by rw [vlw]; exact lo0) (by rw [hc1.2]; exact Rat.le_refl) (by rw [vlw]; exact lo1) (by decide +kernel)
        rw [hc1.2, vlw, abs_le] at t1
        obtain ⟨u, eu, fu, u0, u1⟩ := mulN (M := 1) (N := 102) hc01.1 ft (by grind) t0 hc01.2.2 (by grind) (by decide +kernel)
        rw [abs_le] at u1
        have hlp := low_prod hc01.2.1 (show 999999 / 1000000 ≤ val .f64 t by grind)
        have hrl' : ri.length = p.length + 1 := by rw [qri.len, hrl]
        -- the rise's last term is not 0
        have hlast : isZ (ri.getD p.length zero) = false := by
          unfold topE at htop
          simp only [Bool.and_eq_true, decide_eq_true_eq] at htop
          have hq := (qri.at_ p.length).re
          refine notZ hq.fin ?_
          have hn := hq.near
          rw [htop.1, dot_pick] at hn
          have hwl : (wR p).getD (p.length - 1) 0 = val .f32 (p.getD (p.length - 1) zero).1 / 2 := by
            show (hvL (reL p)).getD (p.length - 1) 0 = _
            rw [hvL_at (by simp [reL]; omega), reL_at]
          rw [hwl] at hn
          have h2 := htop.2
          have h3 := hT.top
          generalize (r.getD p.length ([], 0)).1.getD (p.length - 1) 0 = Q at *
          generalize (r.getD p.length ([], 0)).2 = E at *
          have h4 : val .f32 (p.getD (p.length - 1) zero).1 / 2 = val .f32 (p.getD (p.length - 1) zero).1 * (1 / 2) := by rw [Rat.div_def, show (2 : Rat)⁻¹ = 1 / 2 by decide +kernel]
          rw [h4] at hn
          generalize val .f32 (p.getD (p.length - 1) zero).1 = L at *
          rw [abs_le] at hn
          have h5 : 0 ≤ E := by grind
          have h6 := Rat.mul_le_mul_of_nonneg_left (show 1 / 4 ≤ L * (1 / 2) by grind) (show 0 ≤ Q by grind)
          grind
        have rval : ValC ri := by
          refine ⟨by omega, by omega, fun z hz => ?_, .inr (by rw [hrl', Nat.add_sub_cancel]; exact hlast)⟩
          obtain ⟨i, hi, rfl⟩ := List.mem_iff_getElem.1 hz
          have := (qri.at_ i).c
          rw [List.getD_eq_getElem?_getD, List.getElem?_eq_getElem hi] at this
          exact this
        refine ⟨ma, ri, a, b, ex, lo, d, lw, t, u, terms_val hT, fun i v hi hv' => ?_, ema, qma.c, eri, rval, ?_, ea, qa.c, eb, qb.c, eex, qex.c, elo, finB_of flo, ed, elw, et, eu, le_not_gt fd fu (by grind)⟩
        · have h1 := hN i hi
          obtain ⟨fi, hfi⟩ := Option.isSome_iff_exists.1 h1.2
          obtain ⟨v2, ev2, qv2⟩ := nest_rel hw hv (re0 (finK_iff.1 h1.1)) hp hfi
          rw [ev2] at hv'
          cases hv'
          exact qv2.c
        · rw [hrl']
          exact trimN_full (by omega) (by rw [Nat.add_sub_cancel]; exact hlast)
/-- The numbers of one count of nodes. -/
theorem masses_of {n : Nat} {xs ws : List Nat} (he : evenF n = some (xs, ws)) (hE : evenE n xs ws = true) (hM : ∀ c, 1 ≤ c → c ≤ 8 → c ≤ 2 * n → massE n c xs ws = true) :
    ∃ xs ws S, (∀ i, i < n → ∃ row a g p q g2 b, NodeAt n xs ws i row a g p q g2 b) ∧ stepsF (sumW ws) n 0 0 = some S ∧ MassesOk n xs ws S := by
  unfold evenE at hE
  simp only [Bool.and_eq_true, decide_eq_true_eq, List.all_eq_true, List.mem_range, beq_iff_eq] at hE
  obtain ⟨⟨⟨⟨⟨⟨h1, h2⟩, h3⟩, h4⟩, h5⟩, h6⟩, h7⟩ := hE
  unfold sumE at h7
  cases hS : stepsF (sumW ws) n 0 0 with
  | none => rw [hS] at h7; cases h7
  | some S =>
    rw [hS] at h7
    simp only at h7
    cases hg : gapF S 4611686018427387904 with
    | none => rw [hg] at h7; cases h7
    | some g =>
      rw [hg] at h7
      refine ⟨xs, ws, S, fun i hi => nodeC_ok (h6 i hi), hS, ⟨⟨he, fun y hy => finsE_iff.1 (h3 y hy), fun y hy => finsE_iff.1 (h4 y hy), fun k y hk => argE_ok (h5 k hk) y⟩, h1, h2, ⟨g, hg, by simpa [gtE] using h7⟩, fun p hT hl => ?_⟩⟩
      exact near_ok hT rfl (hM _ hT.l1 hT.l8 hl)
end Go.Proofs.Ytdpogmibahaklaa
