/- The program's sum is near the one that the statement reckons; the points of a half circle are passed. -/
import Derived.Test.YtdpogmibahaklaaM25
set_option linter.unusedVariables false
set_option linter.unusedSimpArgs false
namespace Go.Proofs.Ytdpogmibahaklaa

def unitsA (c : Nat) : List Form := (List.range c).map uForm
theorem unitsA_at {c i : Nat} (h : i < c) : (unitsA c).getD i ([], 0) = uForm i := by
  unfold unitsA
  rw [List.getD_eq_getElem?_getD, List.getElem?_map, List.getElem?_range h]
  rfl
theorem unitsA_len (c : Nat) : (unitsA c).length = c := by simp [unitsA]
/-- How far apart forms are, at most. -/
def apart (a b : Form) : Rat := nrm (addL a.1 (scaL (-1) b.1)) + a.2 + b.2
theorem apart_le {W : List Rat} {X Y : Rat} {a b : Form} (hw : ∀ w ∈ W, w.abs ≤ 2) (h1 : (X - dot a.1 W).abs ≤ a.2) (h2 : (Y - dot b.1 W).abs ≤ b.2) : (X - Y).abs ≤ apart a b := by
  have h3 := dot_le (addL a.1 (scaL (-1) b.1)) W hw
  rw [dot_add, dot_sca] at h3
  have h4 := abs_add (X - dot a.1 W) (dot a.1 W + -1 * dot b.1 W)
  have h5 := abs_add (X - dot a.1 W + (dot a.1 W + -1 * dot b.1 W)) (-(Y - dot b.1 W))
  rw [Rat.abs_neg, show X - dot a.1 W + (dot a.1 W + -1 * dot b.1 W) + -(Y - dot b.1 W) = X - Y by grind] at h5
  unfold apart
  grind
theorem c0001_ok : fin .f64 4562254508917369340 ∧ 999 / 1000000 ≤ val .f64 4562254508917369340 ∧ val .f64 4562254508917369340 ≤ 1001 / 1000000 := ⟨by unfold fin; decide +kernel, by unfold val; decide +kernel, by unfold val; decide +kernel⟩
def toldB (kind x c : Nat) (vals : List Nat) : Bool :=
  match famSumA kind x (unitsA c), sumA vals c with
  | some a, some t => decide (apart a t ≤ 9 / 10000)
  | _, _ => false
theorem told_ok {kind x c : Nat} {vals ws : List Nat} (hw : Weights ws) (hl : ws.length = c) (c6 : c ≤ 6) (h : toldB kind x c vals = true) :
    ∃ sum size, stepsF (fun k s => sumSizeF (ws.getD k 0) (vals.getD k 0) s) c 0 (0, 4607182418800017408) = some (sum, size) ∧ fin .f64 size ∧ 999990 / 1000000 ≤ val .f64 size ∧ val .f64 size ≤ 400000 ∧ ToldOk kind x ws sum size := by
  unfold toldB at h
  cases ha : famSumA kind x (unitsA c) with
  | none => rw [ha] at h; simp at h
  | some a =>
    cases ht : sumA vals c with
    | none => rw [ha, ht] at h; simp at h
    | some t =>
      rw [ha, ht] at h
      have hd : apart a t ≤ 9 / 10000 := of_decide_eq_true h
      obtain ⟨sum, size, e, hs, f, s1, s2⟩ := sumSize_ok hw hl c6 ht
      obtain ⟨y, ey, hy⟩ := famSum_rel (ws := ws) hw.le (by rw [unitsA_len, hl]) (fun i hi => by rw [unitsA_at (by omega)]; exact hw.unit hi) ha
      obtain ⟨b, eb, fb, vb⟩ := wide_ok hy.fin
      obtain ⟨g, eg, fg, g0, g1⟩ := gap_ok (M := 9 / 10000) fb hs.fin (by
        rw [vb]
        have := apart_le hw.le hy.near hs.near
        grind) (by decide +kernel)
      obtain ⟨c1, c2, c3⟩ := c0001_ok
      obtain ⟨m, em, fm, m0, m1⟩ := mulN c1 f (by grind) (by grind) (M := 1) (N := 400000) (by grind) s2 (by decide +kernel)
      have hge : 998 / 1000000 ≤ val .f64 4562254508917369340 * val .f64 size := by
        have h1 := Rat.mul_le_mul_of_nonneg_left s1 (show 0 ≤ val .f64 4562254508917369340 by grind)
        grind
      rw [abs_le] at m1
      exact ⟨sum, size, e, f, s1, s2, ⟨y, b, g, m, ey, finB_of hy.fin, eb, eg, em, le_not_gt fg fm (by grind)⟩⟩

/-! ### The points of a half circle -/
def seenB (n top : Nat) : Bool :=
  match argF n top with
  | some y => finsB y && (match wide y with
    | some z => FloatKind.f64.format.order (absF z) 4841369599423283200 == some .lt
    | none => true)
  | none => false
theorem seenB_ok {n top : Nat} (h : seenB n top = true) : SeenOk n top := by
  unfold seenB at h
  constructor
  · intro y hy
    rw [hy] at h
    simp only [Bool.and_eq_true] at h
    exact finsB_iff.1 h.1
  · intro y z hy hz
    rw [hy] at h
    simp only [Bool.and_eq_true, hz, beq_iff_eq] at h
    exact h.2
def fitAllA (c j : Nat) : Option Form :=
  stepsF (fun k all => (seenF c (j * (2 * k + 1))).bind fun s => if finK .f32 s then (mulA .f32 (val .f32 s) (uForm k)).bind fun t => addA .f32 all t else none) c 0 ([], 0)
def fitA (c : Nat) : Option (List Form) :=
  stepsF (fun j out => (fitAllA c j).bind fun all => (o32 .quo 1073741824 (floatOfInt .f32 (c : Int))).bind fun b2 =>
    (if j = 0 then o32 .quo 1065353216 (floatOfInt .f32 (c : Int)) else some b2).bind fun b => if finK .f32 b then (mulA .f32 (val .f32 b) all).bind fun m => some (out ++ [m]) else none) c 0 []
theorem fitAll_rel {ws : List Nat} {c j : Nat} {a : Form} (hw : Weights ws) (hl : ws.length = c) (h : fitAllA c j = some a) : ∃ r, fitAllF ws j = some r ∧ Af .f32 (valL ws) r a := by
  unfold fitAllF
  rw [hl]
  refine steps_rel (fun (s : Nat) (t : Form) => Af .f32 (valL ws) s t) c ?_ c 0 0 _ _ (by omega) (Af.zero _ _) h
  intro i s t t' hi hR hg
  simp only [Option.bind_eq_some_iff] at hg
  obtain ⟨p, hp, hg⟩ := hg
  split at hg
  · rename_i hf
    simp only [Option.bind_eq_some_iff] at hg
    obtain ⟨m, g1, g2⟩ := hg
    obtain ⟨q, e1, q1⟩ := (hw.unit (i := i) (by omega)).mul' hw.le (finK_iff.1 hf) g1
    obtain ⟨r, e2, q2⟩ := hR.add hw.le q1 g2
    refine ⟨r, ?_, q2⟩
    simp only [hp, Option.bind_some]
    unfold o32
    simp only [e1, e2, Option.bind_some]
  · cases hg
/-- Lists that are followed by forms. -/
def AfL (W : List Rat) (xs : List Nat) (fs : List Form) : Prop := xs.length = fs.length ∧ ∀ i, i < xs.length → Af .f32 W (xs.getD i 0) (fs.getD i ([], 0))
theorem AfL.add {W : List Rat} {xs : List Nat} {fs : List Form} {x : Nat} {a : Form} (h : AfL W xs fs) (hx : Af .f32 W x a) : AfL W (xs ++ [x]) (fs ++ [a]) := by
  refine ⟨by rw [List.length_append, List.length_append, h.1]; rfl, fun i hi => ?_⟩
  rw [List.length_append, List.length_singleton] at hi
  rcases Nat.lt_or_eq_of_le (Nat.le_of_lt_succ hi) with hl | rfl
  · rw [getD_append_lt xs x _ hl, getD_append_lt fs a _ (by rw [← h.1]; exact hl)]
    exact h.2 i hl
  · rw [getD_append_at, h.1, getD_append_at]
    exact hx
theorem fit_rel {ws : List Nat} {c : Nat} {fs : List Form} (hw : Weights ws) (hl : ws.length = c) (h : fitA c = some fs) : ∃ fit, fitF ws = some fit ∧ AfL (valL ws) fit fs := by
  unfold fitF
  rw [hl]
  refine steps_rel (fun (s : List Nat) (t : List Form) => AfL (valL ws) s t) c ?_ c 0 [] _ _ (by omega) ⟨rfl, fun i hi => by simp at hi⟩ h
  intro i s t t' hi hR hg
  simp only [Option.bind_eq_some_iff] at hg
  obtain ⟨all, ha, b2, hb2, b, hb, hg⟩ := hg
  split at hg
  · rename_i hf
    simp only [Option.bind_eq_some_iff] at hg
    obtain ⟨m, g1, hg⟩ := hg
    cases hg
    obtain ⟨r, e1, q1⟩ := fitAll_rel hw hl ha
    obtain ⟨p, e2, q2⟩ := q1.mul' hw.le (finK_iff.1 hf) g1
    refine ⟨s ++ [p], ?_, hR.add q2⟩
    simp only [e1, hb2, hb, Option.bind_some]
    unfold o32
    simp only [e2, Option.bind_some]
  · cases hg
def pointB (pts : List Nat) (fs : List Form) (k : Nat) : Bool :=
  finsB (pts.getD k 0) && !(FloatKind.f32.format.order (pts.getD k 0) 1065353216 == some Ordering.gt) && !(FloatKind.f32.format.order (pts.getD k 0) 3212836864 == some Ordering.lt) &&
  (decide (k = 0) || !((FloatKind.f32.format.order (pts.getD k 0) (pts.getD (k - 1) 0) == some Ordering.gt) || (FloatKind.f32.format.order (pts.getD k 0) (pts.getD (k - 1) 0) == some Ordering.eq))) &&
  (match famSumA 0 (pts.getD k 0) fs with
  | some a => decide (apart a (uForm k) ≤ 99 / 10000)
  | none => false)
def pointsB (c : Nat) : Bool :=
  match pointsF c, fitA c with
  | some pts, some fs => decide (pts.length = c) && decide (fs.length = c) && ((List.range c).all fun k => seenB c (2 * k + 1)) && ((List.range c).all fun j => (List.range c).all fun k => seenB c (j * (2 * k + 1))) && ((List.range c).all fun k => pointB pts fs k)
  | _, _ => false
theorem c001_ok' : fin .f64 4576918229304087675 ∧ 99999 / 10000000 ≤ val .f64 4576918229304087675 := ⟨by unfold fin; decide +kernel, by unfold val; decide +kernel⟩
theorem points_ok {ws : List Nat} {c : Nat} (hw : Weights ws) (hl : ws.length = c) (h : pointsB c = true) : ∃ pts fit, PointsOk ws pts fit := by
  unfold pointsB at h
  cases hp : pointsF c with
  | none => rw [hp] at h; simp at h
  | some pts =>
    cases hf : fitA c with
    | none => rw [hp, hf] at h; simp at h
    | some fs =>
      rw [hp, hf] at h
      simp only [Bool.and_eq_true, decide_eq_true_eq, List.all_eq_true, List.mem_range] at h
      obtain ⟨⟨⟨⟨h1, h2⟩, h3⟩, h4⟩, h5⟩ := h
      obtain ⟨fit, ef, hfl, hfa⟩ := fit_rel hw hl hf
      refine ⟨pts, fit, by rw [hl]; exact hp, fun k hk => by rw [hl]; exact seenB_ok (h3 k (by omega)), ef, fun j k hj hk => by rw [hl]; exact seenB_ok (h4 j (by omega) k (by omega)), by rw [h1, hl], by rw [hfl, h2, hl], fun y hy => ?_, fun k hk => ?_⟩
      · obtain ⟨i, hi, rfl⟩ := List.getElem_of_mem hy
        have := (hfa i hi).fin
        rw [List.getD_eq_getElem?_getD, List.getElem?_eq_getElem hi] at this
        exact finB_of this
      · have h6 := h5 k (by omega)
        unfold pointB at h6
        simp only [Bool.and_eq_true, Bool.not_eq_true', Bool.or_eq_true, decide_eq_true_eq] at h6
        obtain ⟨⟨⟨⟨b1, b2⟩, b3⟩, b4⟩, b5⟩ := h6
        cases ha : famSumA 0 (pts.getD k 0) fs with
        | none => rw [ha] at b5; simp at b5
        | some a =>
          rw [ha] at b5
          have hd : apart a (uForm k) ≤ 99 / 10000 := of_decide_eq_true b5
          obtain ⟨y, ey, hy⟩ := famSum_rel (ws := fit) hw.le (by rw [hfl]) hfa ha
          obtain ⟨b, eb, fb, vb⟩ := wide_ok hy.fin
          obtain ⟨d, ed, fd, vd⟩ := wide_ok (hw.at_ hk).1
          obtain ⟨g, eg, fg, g0, g1⟩ := gap_ok (M := 99 / 10000) fb fd (by
            rw [vb, vd]
            have := apart_le hw.le hy.near (hw.unit hk).near
            grind) (by decide +kernel)
          obtain ⟨c1, c2⟩ := c001_ok'
          exact ⟨finsB_iff.1 b1, ⟨y, b, d, g, ey, finB_of hy.fin, eb, ed, eg, le_not_gt fg c1 (by grind)⟩, b2, b3, fun k0 => by
            rcases b4 with b4 | b4
            · omega
            · exact b4⟩
end Go.Proofs.Ytdpogmibahaklaa
