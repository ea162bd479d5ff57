/- The statement on masses: the fits of drawn numbers, as checks. -/
import Derived.Test.YtdpogmibahaklaaE13
set_option linter.unusedVariables false
set_option linter.unusedSimpArgs false
namespace Go.Proofs.Ytdpogmibahaklaa

def fitAtB (f : List C) (x y : Nat) : Bool :=
  match nestF f (x, 0) with
  | some v => finsE v.1 && finsE v.2 &&
    match (wide v.1).bind fun a => (wide y).bind fun b => gapF a b with
    | some g => !(FloatKind.f64.format.order g 4587366580439587226 == some Ordering.gt)
    | none => false
  | none => false
def drawnY (vs : List Nat) : List Nat := vs.map fun v => qF (v + 8)
def fitB (d : Nat) (vs : List Nat) : Bool :=
  match fitPolyF (xD.take (d + 1)) (drawnY vs) (List.replicate (d + 1) 1065353216) (d + 1) with
  | some l => valE (fitTerms l) && (List.range (d + 1)).all fun k => fitAtB (fitTerms l) ((xD.take (d + 1)).getD k 0) ((drawnY vs).getD k 0)
  | none => false
theorem fitAtB_ok {f : List C} {x y : Nat} (h : fitAtB f x y = true) : ∃ v a b g, nestF f (x, 0) = some v ∧ FinC v ∧ wide v.1 = some a ∧ wide y = some b ∧ gapF a b = some g ∧ (FloatKind.f64.format.order g 4587366580439587226 == some Ordering.gt) = false := by
  unfold fitAtB at h
  cases hv : nestF f (x, 0) with
  | none => rw [hv] at h; cases h
  | some v =>
    rw [hv] at h
    simp only [Bool.and_eq_true] at h
    obtain ⟨⟨h1, h2⟩, h3⟩ := h
    cases hg : (wide v.1).bind fun a => (wide y).bind fun b => gapF a b with
    | none => rw [hg] at h3; cases h3
    | some g =>
      rw [hg] at h3
      simp only [Option.bind_eq_some_iff] at hg
      obtain ⟨a, ha, b, hb, hg⟩ := hg
      exact ⟨v, a, b, g, rfl, ⟨finsE_iff.1 h1, finsE_iff.1 h2⟩, ha, hb, hg, by simpa using h3⟩
theorem xD_fin : ∀ y ∈ xD, finB y = some true := by decide +kernel
theorem fitB_ok {d : Nat} {vs : List Nat} (hd : d ≤ 2) (hv : ∀ v ∈ vs, v < 17) (h : fitB d vs = true) : ∃ l, FitOk d (xD.take (d + 1)) (vs.map fun v => qF (v + 8)) (List.replicate (d + 1) 1065353216) l := by
  unfold fitB at h
  cases hl : fitPolyF (xD.take (d + 1)) (drawnY vs) (List.replicate (d + 1) 1065353216) (d + 1) with
  | none => rw [hl] at h; cases h
  | some l =>
    rw [hl] at h
    simp only [Bool.and_eq_true, List.all_eq_true, List.mem_range] at h
    refine ⟨l, hl, valE_ok h.1, fun y hy => xD_fin y (List.mem_of_mem_take hy), fun y hy => ?_, fun y hy => ?_, fun y hy => ?_, fun k hk => fitAtB_ok (h.2 k (by omega))⟩
    · obtain ⟨v, hv1, rfl⟩ := List.mem_map.1 hy
      exact finB_of (q_ok (by have := hv v hv1; omega)).1
    · rw [List.eq_of_mem_replicate hy]; decide +kernel
    · rw [List.eq_of_mem_replicate hy]; decide +kernel
def fit2B : Bool := (List.range 17).all fun a => (List.range 17).all fun b => fitB 1 [a, b]
def fit1B : Bool := (List.range 17).all fun a => fitB 0 [a]

/-! ### Three numbers: the fit's steps, the fixed parts reckoned once -/
/-- The last column of a row. -/
def last3 (t0 t1 t2 y0 y1 y2 : Nat) : Option Nat :=
  ((o32 .mul t0 y0).bind fun u => o32 .add 0 u).bind fun a => ((o32 .mul t1 y1).bind fun u => o32 .add a u).bind fun a => (o32 .mul t2 y2).bind fun u => o32 .add a u
def fast3 (y0 y1 y2 : Nat) : Option (List Nat) :=
  (last3 1065353216 1065353216 1065353216 y0 y1 y2).bind fun a0 => (last3 3212836864 0 1065353216 y0 y1 y2).bind fun a1 => (last3 1065353216 0 1065353216 y0 y1 y2).bind fun a2 =>
  (o32 .mul 0 a0).bind fun t => (o32 .sub a1 t).bind fun b1 => (o32 .mul 1059760811 a0).bind fun t => (o32 .sub a2 t).bind fun b2 =>
  (o32 .mul 0 b1).bind fun t => (o32 .sub b2 t).bind fun b2 =>
  (o32 .quo b2 1059760810).bind fun c2 => (o32 .mul 0 c2).bind fun t => (o32 .sub b1 t).bind fun l1 => (o32 .quo l1 1073741824).bind fun c1 =>
  (o32 .mul 0 c1).bind fun t => (o32 .sub a0 t).bind fun l0 => (o32 .mul 1073741824 c2).bind fun t => (o32 .sub l0 t).bind fun l0 => (o32 .quo l0 1077936128).bind fun c0 => some [c0, c1, c2]
theorem rows3 (y0 y1 y2 : Nat) : fitRowsF xD [y0, y1, y2] [1065353216, 1065353216, 1065353216] 3 =
    (last3 1065353216 1065353216 1065353216 y0 y1 y2).bind fun a0 => (last3 3212836864 0 1065353216 y0 y1 y2).bind fun a1 => (last3 1065353216 0 1065353216 y0 y1 y2).bind fun a2 => some [[1077936128, 0, 1073741824, a0], [0, 1073741824, 0, a1], [1073741824, 0, 1073741824, a2]] := by
  have p1 : powF 3212836864 0 = some 1065353216 := by kernel_rfl
  have p2 : powF 3212836864 1 = some 3212836864 := by kernel_rfl
  have p3 : powF 3212836864 2 = some 1065353216 := by kernel_rfl
  have z0 : powF 0 0 = some 1065353216 := by kernel_rfl
  have z1 : powF 0 1 = some 0 := by kernel_rfl
  have z2 : powF 0 2 = some 0 := by kernel_rfl
  have o0 : powF 1065353216 0 = some 1065353216 := by kernel_rfl
  have o1 : powF 1065353216 1 = some 1065353216 := by kernel_rfl
  have o2 : powF 1065353216 2 = some 1065353216 := by kernel_rfl
  have m1 : o32 .mul 1065353216 1065353216 = some 1065353216 := by kernel_rfl
  have m2 : o32 .mul 1065353216 3212836864 = some 3212836864 := by kernel_rfl
  have m3 : o32 .mul 1065353216 0 = some 0 := by kernel_rfl
  have r0 : stepsF (fun k row => (fitOneF xD [1065353216, 1065353216, 1065353216] (0 + k) (row.getD k 0)).bind fun a => some (row.set k a)) 3 0 (List.replicate (3 + 1) 0) = some [1077936128, 0, 1073741824, 0] := by kernel_rfl
  have r1 : stepsF (fun k row => (fitOneF xD [1065353216, 1065353216, 1065353216] (1 + k) (row.getD k 0)).bind fun a => some (row.set k a)) 3 0 (List.replicate (3 + 1) 0) = some [0, 1073741824, 0, 0] := by kernel_rfl
  have r2 : stepsF (fun k row => (fitOneF xD [1065353216, 1065353216, 1065353216] (2 + k) (row.getD k 0)).bind fun a => some (row.set k a)) 3 0 (List.replicate (3 + 1) 0) = some [1073741824, 0, 1073741824, 0] := by kernel_rfl
  have l0 : fitLastF xD [y0, y1, y2] [1065353216, 1065353216, 1065353216] 0 0 = last3 1065353216 1065353216 1065353216 y0 y1 y2 := by
    simp only [fitLastF, xD, List.length_cons, List.length_nil, stepsF, List.getD_cons_zero, List.getD_cons_succ, p1, z0, o0, m1, Option.bind_some, last3]
    simp
  have l1 : fitLastF xD [y0, y1, y2] [1065353216, 1065353216, 1065353216] 1 0 = last3 3212836864 0 1065353216 y0 y1 y2 := by
    simp only [fitLastF, xD, List.length_cons, List.length_nil, stepsF, List.getD_cons_zero, List.getD_cons_succ, p2, z1, o1, m1, m2, m3, Option.bind_some, last3]
    simp
  have l2 : fitLastF xD [y0, y1, y2] [1065353216, 1065353216, 1065353216] 2 0 = last3 1065353216 0 1065353216 y0 y1 y2 := by
    simp only [fitLastF, xD, List.length_cons, List.length_nil, stepsF, List.getD_cons_zero, List.getD_cons_succ, p3, z2, o2, m1, m3, Option.bind_some, last3]
    simp
  have e0 : fitRowF xD [y0, y1, y2] [1065353216, 1065353216, 1065353216] 3 0 = (last3 1065353216 1065353216 1065353216 y0 y1 y2).bind fun a => some [1077936128, 0, 1073741824, a] := by
    unfold fitRowF
    rw [r0, Option.bind_some, show [1077936128, 0, 1073741824, 0].getD 3 0 = 0 from rfl, l0]
    rfl
  have e1 : fitRowF xD [y0, y1, y2] [1065353216, 1065353216, 1065353216] 3 1 = (last3 3212836864 0 1065353216 y0 y1 y2).bind fun a => some [0, 1073741824, 0, a] := by
    unfold fitRowF
    rw [r1, Option.bind_some, show [0, 1073741824, 0, 0].getD 3 0 = 0 from rfl, l1]
    rfl
  have e2 : fitRowF xD [y0, y1, y2] [1065353216, 1065353216, 1065353216] 3 2 = (last3 1065353216 0 1065353216 y0 y1 y2).bind fun a => some [1073741824, 0, 1073741824, a] := by
    unfold fitRowF
    rw [r2, Option.bind_some, show [1073741824, 0, 1073741824, 0].getD 3 0 = 0 from rfl, l2]
    rfl
  simp only [fitRowsF, stepsF, e0, e1, e2, Nat.zero_add, Nat.reduceAdd]
  cases last3 1065353216 1065353216 1065353216 y0 y1 y2 <;> cases last3 3212836864 0 1065353216 y0 y1 y2 <;> cases last3 1065353216 0 1065353216 y0 y1 y2 <;> rfl
theorem bs {α : Type} (x : Option α) : (x.bind fun s => some s) = x := by cases x <;> rfl
theorem less10 (a0 a1 a2 : Nat) : lessF [[1077936128, 0, 1073741824, a0], [0, 1073741824, 0, a1], [1073741824, 0, 1073741824, a2]] 0 3 1 = (o32 .mul 0 a0).bind fun t => (o32 .sub a1 t).bind fun d => some [[1077936128, 0, 1073741824, a0], [0, 1073741824, 0, d], [1073741824, 0, 1073741824, a2]] := by
  have q1 : o32 .quo 0 1077936128 = some 0 := by kernel_rfl
  have m1 : o32 .mul 0 0 = some 0 := by kernel_rfl
  have m2 : o32 .mul 0 1073741824 = some 0 := by kernel_rfl
  have s1 : o32 .sub 1073741824 0 = some 1073741824 := by kernel_rfl
  have s2 : o32 .sub 0 0 = some 0 := by kernel_rfl
  simp [lessF, cellF, stepsF, q1, m1, m2, s1, s2, Option.bind_assoc]
theorem less20 (a0 a1 a2 : Nat) : lessF [[1077936128, 0, 1073741824, a0], [0, 1073741824, 0, a1], [1073741824, 0, 1073741824, a2]] 0 3 2 = (o32 .mul 1059760811 a0).bind fun t => (o32 .sub a2 t).bind fun d => some [[1077936128, 0, 1073741824, a0], [0, 1073741824, 0, a1], [1073741824, 0, 1059760810, d]] := by
  have q1 : o32 .quo 1073741824 1077936128 = some 1059760811 := by kernel_rfl
  have m1 : o32 .mul 1059760811 0 = some 0 := by kernel_rfl
  have m2 : o32 .mul 1059760811 1073741824 = some 1068149419 := by kernel_rfl
  have s1 : o32 .sub 1073741824 1068149419 = some 1059760810 := by kernel_rfl
  have s2 : o32 .sub 0 0 = some 0 := by kernel_rfl
  simp [lessF, cellF, stepsF, q1, m1, m2, s1, s2, Option.bind_assoc]
theorem less21 (a0 a1 a2 : Nat) : lessF [[1077936128, 0, 1073741824, a0], [0, 1073741824, 0, a1], [1073741824, 0, 1059760810, a2]] 1 3 2 = (o32 .mul 0 a1).bind fun t => (o32 .sub a2 t).bind fun d => some [[1077936128, 0, 1073741824, a0], [0, 1073741824, 0, a1], [1073741824, 0, 1059760810, d]] := by
  have q1 : o32 .quo 0 1073741824 = some 0 := by kernel_rfl
  have m1 : o32 .mul 0 0 = some 0 := by kernel_rfl
  have s1 : o32 .sub 1059760810 0 = some 1059760810 := by kernel_rfl
  simp [lessF, cellF, stepsF, q1, m1, s1, Option.bind_assoc]
theorem piv0 (a0 a1 a2 : Nat) : pivotF [[1077936128, 0, 1073741824, a0], [0, 1073741824, 0, a1], [1073741824, 0, 1073741824, a2]] 0 3 = some 0 := by
  have g1 : ¬ FloatKind.f32.format.order (magF 0) (magF 1077936128) = some Ordering.gt := by decide +kernel
  have g2 : ¬ FloatKind.f32.format.order (magF 1073741824) (magF 1077936128) = some Ordering.gt := by decide +kernel
  simp [pivotF, cellF, stepsF, g1, g2]
theorem piv1 (a0 a1 a2 : Nat) : pivotF [[1077936128, 0, 1073741824, a0], [0, 1073741824, 0, a1], [1073741824, 0, 1059760810, a2]] 1 3 = some 1 := by
  have g1 : ¬ FloatKind.f32.format.order (magF 0) (magF 1073741824) = some Ordering.gt := by decide +kernel
  simp [pivotF, cellF, stepsF, g1]
theorem piv2 (a0 a1 a2 : Nat) : pivotF [[1077936128, 0, 1073741824, a0], [0, 1073741824, 0, a1], [1073741824, 0, 1059760810, a2]] 2 3 = some 2 := by
  simp [pivotF, cellF, stepsF]
theorem round0 (a0 a1 a2 : Nat) : roundF 3 0 [[1077936128, 0, 1073741824, a0], [0, 1073741824, 0, a1], [1073741824, 0, 1073741824, a2]] = (lessF [[1077936128, 0, 1073741824, a0], [0, 1073741824, 0, a1], [1073741824, 0, 1073741824, a2]] 0 3 1).bind fun s => lessF s 0 3 2 := by
  have z : (FloatKind.f32.format.order 1077936128 0 == some Ordering.eq) = false := by kernel_rfl
  have e : swapF [[1077936128, 0, 1073741824, a0], [0, 1073741824, 0, a1], [1073741824, 0, 1073741824, a2]] 0 0 = [[1077936128, 0, 1073741824, a0], [0, 1073741824, 0, a1], [1073741824, 0, 1073741824, a2]] := rfl
  have c : cellF [[1077936128, 0, 1073741824, a0], [0, 1073741824, 0, a1], [1073741824, 0, 1073741824, a2]] 0 0 = 1077936128 := rfl
  simp only [roundF, piv0, Option.bind_some, e, c, z, stepsF, bs, Bool.false_eq_true, if_false, Nat.reduceAdd, Nat.reduceSub, Nat.zero_add]
theorem round1 (a0 a1 a2 : Nat) : roundF 3 1 [[1077936128, 0, 1073741824, a0], [0, 1073741824, 0, a1], [1073741824, 0, 1059760810, a2]] = lessF [[1077936128, 0, 1073741824, a0], [0, 1073741824, 0, a1], [1073741824, 0, 1059760810, a2]] 1 3 2 := by
  have z : (FloatKind.f32.format.order 1073741824 0 == some Ordering.eq) = false := by kernel_rfl
  have e : swapF [[1077936128, 0, 1073741824, a0], [0, 1073741824, 0, a1], [1073741824, 0, 1059760810, a2]] 1 1 = [[1077936128, 0, 1073741824, a0], [0, 1073741824, 0, a1], [1073741824, 0, 1059760810, a2]] := rfl
  have c : cellF [[1077936128, 0, 1073741824, a0], [0, 1073741824, 0, a1], [1073741824, 0, 1059760810, a2]] 1 1 = 1073741824 := rfl
  simp only [roundF, piv1, Option.bind_some, e, c, z, stepsF, bs, Bool.false_eq_true, if_false, Nat.reduceAdd, Nat.reduceSub]
theorem round2 (a0 a1 a2 : Nat) : roundF 3 2 [[1077936128, 0, 1073741824, a0], [0, 1073741824, 0, a1], [1073741824, 0, 1059760810, a2]] = some [[1077936128, 0, 1073741824, a0], [0, 1073741824, 0, a1], [1073741824, 0, 1059760810, a2]] := by
  have z : (FloatKind.f32.format.order 1059760810 0 == some Ordering.eq) = false := by kernel_rfl
  have e : swapF [[1077936128, 0, 1073741824, a0], [0, 1073741824, 0, a1], [1073741824, 0, 1059760810, a2]] 2 2 = [[1077936128, 0, 1073741824, a0], [0, 1073741824, 0, a1], [1073741824, 0, 1059760810, a2]] := rfl
  have c : cellF [[1077936128, 0, 1073741824, a0], [0, 1073741824, 0, a1], [1073741824, 0, 1059760810, a2]] 2 2 = 1059760810 := rfl
  simp only [roundF, piv2, Option.bind_some, e, c, z, stepsF, bs, Bool.false_eq_true, if_false, Nat.reduceAdd, Nat.reduceSub]
theorem back0 (a0 a1 a2 : Nat) : backOneF [[1077936128, 0, 1073741824, a0], [0, 1073741824, 0, a1], [1073741824, 0, 1059760810, a2]] 3 0 [0, 0, 0] = (o32 .quo a2 1059760810).bind fun q => some [0, 0, q] := by
  simp [backOneF, cellF, stepsF]
theorem back1 (a0 a1 a2 c : Nat) : backOneF [[1077936128, 0, 1073741824, a0], [0, 1073741824, 0, a1], [1073741824, 0, 1059760810, a2]] 3 1 [0, 0, c] = (o32 .mul 0 c).bind fun t => (o32 .sub a1 t).bind fun l => (o32 .quo l 1073741824).bind fun q => some [0, q, c] := by
  simp [backOneF, cellF, stepsF, Option.bind_assoc]
theorem back2 (a0 a1 a2 b c : Nat) : backOneF [[1077936128, 0, 1073741824, a0], [0, 1073741824, 0, a1], [1073741824, 0, 1059760810, a2]] 3 2 [0, b, c] = (o32 .mul 0 b).bind fun t => (o32 .sub a0 t).bind fun l => (o32 .mul 1073741824 c).bind fun t => (o32 .sub l t).bind fun l => (o32 .quo l 1077936128).bind fun q => some [q, b, c] := by
  simp [backOneF, cellF, stepsF, Option.bind_assoc]
theorem fast_eq (y0 y1 y2 : Nat) : fitPolyF xD [y0, y1, y2] [1065353216, 1065353216, 1065353216] 3 = fast3 y0 y1 y2 := by
  unfold fitPolyF fast3
  rw [rows3]
  simp only [Option.bind_assoc, Option.bind_some, stepsF, Nat.zero_add, Nat.reduceAdd, round0, round1, round2, less10, less20, less21, bs, List.replicate, back0, back1, back2]

/-! ### The values of a fit, by a bound on what is lost -/
def uForm4 (i : Nat) : Form := (List.replicate i 0 ++ [4], 0)
def units4 (c : Nat) : List Form := (List.range c).map uForm4
theorem units4_at {c i : Nat} (h : i < c) : (units4 c).getD i ([], 0) = uForm4 i := by
  unfold units4
  rw [List.getD_eq_getElem?_getD, List.getElem?_map, List.getElem?_range h]
  rfl
theorem units4_len (c : Nat) : (units4 c).length = c := by simp [units4]
def w4 (t : List C) : List Rat := t.map fun z => val .f32 z.1 / 4
def coefQ (q : Rat) : List Rat := [4, 4 * q, 4 * q * q]
def nestQB (m : Nat) (q : Rat) : Bool :=
  match nestA (units4 m) q with
  | some a => decide (a.1 = (coefQ q).take m) && decide (a.2 ≤ 1 / 100)
  | none => false
theorem nestQ_all : nestQB 1 (-1) = true ∧ nestQB 2 (-1) = true ∧ nestQB 3 (-1) = true ∧ nestQB 1 0 = true ∧ nestQB 2 0 = true ∧ nestQB 3 0 = true ∧ nestQB 1 1 = true ∧ nestQB 2 1 = true ∧ nestQB 3 1 = true := by decide +kernel
theorem xD_val : ∀ k, k < 3 → fin .f32 (xD.getD k 0) ∧ (val .f32 (xD.getD k 0) = -1 ∨ val .f32 (xD.getD k 0) = 0 ∨ val .f32 (xD.getD k 0) = 1) := by
  intro k hk
  match k, hk with
  | 0, _ => exact ⟨by unfold fin; decide +kernel, .inl (by unfold val; decide +kernel)⟩
  | 1, _ => exact ⟨by unfold fin; decide +kernel, .inr (.inl (by unfold val; decide +kernel))⟩
  | 2, _ => exact ⟨by unfold fin; decide +kernel, .inr (.inr (by unfold val; decide +kernel))⟩
theorem nestQ_ok {m k : Nat} (m1 : 1 ≤ m) (m3 : m ≤ 3) (hk : k < 3) : ∃ a, nestA (units4 m) (val .f32 (xD.getD k 0)) = some a ∧ a.1 = (coefQ (val .f32 (xD.getD k 0))).take m ∧ a.2 ≤ 1 / 100 := by
  have key : nestQB m (val .f32 (xD.getD k 0)) = true := by
    obtain ⟨h1, h2, h3, h4, h5, h6, h7, h8, h9⟩ := nestQ_all
    rcases (xD_val k hk).2 with e | e | e <;> rw [e] <;> rcases (show m = 1 ∨ m = 2 ∨ m = 3 by omega) with rfl | rfl | rfl <;> assumption
  unfold nestQB at key
  cases ha : nestA (units4 m) (val .f32 (xD.getD k 0)) with
  | none => rw [ha] at key; cases key
  | some a =>
    rw [ha] at key
    simp only [Bool.and_eq_true, decide_eq_true_eq] at key
    exact ⟨a, rfl, key.1, key.2⟩
/-- Real terms, none great. -/
structure Real8 (t : List C) : Prop where
  fin : ∀ z ∈ t, fin .f32 z.1 ∧ z.2 = 0
  le : ∀ z ∈ t, (val .f32 z.1).abs ≤ 8
theorem Real8.take {t : List C} (h : Real8 t) (n : Nat) : Real8 (t.take n) := ⟨fun z hz => h.fin z (List.mem_of_mem_take hz), fun z hz => h.le z (List.mem_of_mem_take hz)⟩
theorem quarter4 (x : Rat) : 4 * (x / 4) = x := by rw [Rat.div_def, show (4 : Rat)⁻¹ = 1 / 4 by decide +kernel]; grind
theorem Real8.az {t : List C} (h : Real8 t) : AzL (w4 t) [] t (units4 t.length) := by
  refine ⟨(units4_len _).symm, fun i => ?_⟩
  by_cases hi : i < t.length
  · rw [units4_at hi]
    have hz := h.fin _ (getD_mem (d := zero) hi)
    refine ⟨⟨hz.1, ?_⟩, ⟨by rw [hz.2]; exact fin_zero _, ?_⟩⟩
    · show (val .f32 (t.getD i zero).1 - dot (List.replicate i 0 ++ [4]) (w4 t)).abs ≤ 0
      have e : (w4 t).getD i 0 = val .f32 (t.getD i zero).1 / 4 := by
        unfold w4
        rw [List.getD_eq_getElem?_getD, List.getElem?_map, List.getElem?_eq_getElem hi, List.getD_eq_getElem?_getD, List.getElem?_eq_getElem hi]
        rfl
      rw [dot_pick, e, quarter4, show val .f32 (t.getD i zero).1 - val .f32 (t.getD i zero).1 = 0 by grind]
      decide +kernel
    · rw [hz.2, val_zero, dot_nil']
      exact zero_sub_le
  · rw [List.getD_eq_getElem?_getD, List.getD_eq_getElem?_getD, List.getElem?_eq_none (by omega), List.getElem?_eq_none (by rw [units4_len]; omega)]
    exact Az.zero _ _
theorem w4_le {t : List C} (h : Real8 t) : ∀ w ∈ w4 t, w.abs ≤ 2 := by
  intro w hw
  obtain ⟨z, hz, rfl⟩ := List.mem_map.1 hw
  have := h.le z hz
  rw [abs_le] at this ⊢
  rw [Rat.div_def, show (4 : Rat)⁻¹ = 1 / 4 by decide +kernel]
  grind
theorem c005m_ok : fin .f64 4587366580439587226 ∧ 49999 / 1000000 ≤ val .f64 4587366580439587226 := ⟨by unfold fin; decide +kernel, by unfold val; decide +kernel⟩
theorem fitAt_ok {t : List C} {k y : Nat} (h : Real8 t) (m1 : 1 ≤ t.length) (m3 : t.length ≤ 3) (hk : k < 3) (hy : fin .f32 y) (hd : (dot ((coefQ (val .f32 (xD.getD k 0))).take t.length) (w4 t) - val .f32 y).abs ≤ 1 / 50) :
    ∃ v a b g, nestF t (xD.getD k 0, 0) = some v ∧ FinC v ∧ wide v.1 = some a ∧ wide y = some b ∧ gapF a b = some g ∧ (FloatKind.f64.format.order g 4587366580439587226 == some Ordering.gt) = false := by
  obtain ⟨a, ha, ha1, ha2⟩ := nestQ_ok m1 m3 hk
  obtain ⟨v, ev, hv⟩ := nest_rel (w4_le h) (fun w hw => absurd hw (by simp)) (re0 (xD_val k hk).1) h.az ha
  obtain ⟨p, ep, fp, vp⟩ := wide_ok hv.re.fin
  obtain ⟨q, eq, fq, vq⟩ := wide_ok hy
  have h1 := hv.re.near
  rw [ha1] at h1
  have h2 := abs_add (val .f32 v.1 - dot ((coefQ (val .f32 (xD.getD k 0))).take t.length) (w4 t)) (dot ((coefQ (val .f32 (xD.getD k 0))).take t.length) (w4 t) - val .f32 y)
  rw [show val .f32 v.1 - dot ((coefQ (val .f32 (xD.getD k 0))).take t.length) (w4 t) + (dot ((coefQ (val .f32 (xD.getD k 0))).take t.length) (w4 t) - val .f32 y) = val .f32 v.1 - val .f32 y by grind] at h2
  obtain ⟨g, eg, fg, g0, g1⟩ := gap_ok fp fq (M := 3 / 100) (by rw [vp, vq]; grind) (by decide +kernel)
  have h5 := c005m_ok
  exact ⟨v, p, q, g, ev, hv.c, ep, eq, eg, le_not_gt fg h5.1 (by grind)⟩

def fitQB (y0 y1 y2 : Nat) : Bool :=
  match fast3 y0 y1 y2 with
  | some l => (l.all fun c => finK .f32 c && decide ((val .f32 c).abs ≤ 8)) && decide (l.length = 3) &&
      (decide ((dot ((coefQ (-1)).take (fitTerms l).length) (w4 (fitTerms l)) - val .f32 y0).abs ≤ 1 / 50) && decide ((dot ((coefQ 0).take (fitTerms l).length) (w4 (fitTerms l)) - val .f32 y1).abs ≤ 1 / 50) && decide ((dot ((coefQ 1).take (fitTerms l).length) (w4 (fitTerms l)) - val .f32 y2).abs ≤ 1 / 50))
  | none => false
theorem xD_val' : val .f32 (xD.getD 0 0) = -1 ∧ val .f32 (xD.getD 1 0) = 0 ∧ val .f32 (xD.getD 2 0) = 1 := ⟨by unfold val; decide +kernel, by unfold val; decide +kernel, by unfold val; decide +kernel⟩
theorem fitQB_ok {v0 v1 v2 : Nat} (h0 : v0 < 17) (h1 : v1 < 17) (h2 : v2 < 17) (h : fitQB (qF (v0 + 8)) (qF (v1 + 8)) (qF (v2 + 8)) = true) :
    ∃ l, FitOk 2 (xD.take (2 + 1)) ([v0, v1, v2].map fun v => qF (v + 8)) (List.replicate (2 + 1) 1065353216) l := by
  have q0 := (q_ok (show v0 + 8 < 33 by omega)).1
  have q1 := (q_ok (show v1 + 8 < 33 by omega)).1
  have q2 := (q_ok (show v2 + 8 < 33 by omega)).1
  generalize hy0 : qF (v0 + 8) = y0 at *
  generalize hy1 : qF (v1 + 8) = y1 at *
  generalize hy2 : qF (v2 + 8) = y2 at *
  have hys : ([v0, v1, v2].map fun v => qF (v + 8)) = [y0, y1, y2] := by simp [hy0, hy1, hy2]
  rw [hys]
  unfold fitQB at h
  cases hl : fast3 y0 y1 y2 with
  | none => rw [hl] at h; cases h
  | some l =>
    rw [hl] at h
    simp only [Bool.and_eq_true, List.all_eq_true, decide_eq_true_eq] at h
    obtain ⟨⟨ha, hlen⟩, ⟨d0, d1⟩, d2⟩ := h
    have hR : Real8 (l.map fun x => ((x, 0) : C)) := ⟨fun z hz => by
      obtain ⟨c, hc, rfl⟩ := List.mem_map.1 hz
      exact ⟨finK_iff.1 (ha c hc).1, rfl⟩, fun z hz => by
      obtain ⟨c, hc, rfl⟩ := List.mem_map.1 hz
      exact (ha c hc).2⟩
    have t1 := trimN_pos (l.map fun x => ((x, 0) : C)) l.length (by omega)
    have t3 := trimN_le (l.map fun x => ((x, 0) : C)) l.length
    have hlt : (fitTerms l).length = trimN (l.map fun x => ((x, 0) : C)) l.length := by unfold fitTerms; rw [List.length_take, List.length_map]; omega
    have hT : Real8 (fitTerms l) := hR.take _
    obtain ⟨e0, e1, e2⟩ := xD_val'
    refine ⟨l, by rw [← fast_eq] at hl; exact hl, ⟨by omega, by omega, fun z hz => ⟨finB_of (hT.fin z hz).1, by rw [(hT.fin z hz).2]; decide +kernel⟩, ?_⟩, fun y hy => xD_fin y (List.mem_of_mem_take hy), fun y hy => ?_, fun y hy => ?_, fun y hy => ?_, fun k hk => ?_⟩
    · rcases trimN_last (l.map fun x => ((x, 0) : C)) l.length (by omega) with e | e
      · left; rw [hlt, e]
      · right
        rw [hlt]
        unfold fitTerms
        rw [List.getD_eq_getElem?_getD, List.getElem?_take_of_lt (by omega), ← List.getD_eq_getElem?_getD]
        exact e
    · simp only [List.mem_cons, List.not_mem_nil, or_false] at hy
      rcases hy with rfl | rfl | rfl
      · exact finB_of q0
      · exact finB_of q1
      · exact finB_of q2
    · rw [List.eq_of_mem_replicate hy]; decide +kernel
    · rw [List.eq_of_mem_replicate hy]; decide +kernel
    · have hx : (xD.take (2 + 1)).getD k 0 = xD.getD k 0 := rfl
      rw [hx]
      rcases (show k = 0 ∨ k = 1 ∨ k = 2 by omega) with rfl | rfl | rfl
      · exact fitAt_ok hT (by omega) (by omega) (by omega) q0 (by rw [e0]; exact d0)
      · exact fitAt_ok hT (by omega) (by omega) (by omega) q1 (by rw [e1]; exact d1)
      · exact fitAt_ok hT (by omega) (by omega) (by omega) q2 (by rw [e2]; exact d2)
/-- All draws of three numbers whose first is v. -/
def fit3B (v : Nat) : Bool := (List.range 17).all fun a => (List.range 17).all fun b => fitQB (qF (v + 8)) (qF (a + 8)) (qF (b + 8))
end Go.Proofs.Ytdpogmibahaklaa
