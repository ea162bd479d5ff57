/- What R8Poly draws: polynomials of small numbers in quarters. -/
import Derived.Test.YtdpogmibahaklaaA1
import Derived.Test.YtdpogmibahaklaaE0
import Derived.Test.YtdpogmibahaklaaM8
set_option linter.unusedVariables false
set_option linter.unusedSimpArgs false
namespace Go.Proofs.Ytdpogmibahaklaa

/-- A number of quarters from -4 to 4. -/
def qF (v : Nat) : Nat := (o32 .quo (floatOfInt .f32 ((v : Int) - 16)) 1082130432).getD 0
def qB (v : Nat) : Bool := finK .f32 (qF v) && decide (val .f32 (qF v) = ((v : Rat) - 16) / 4) && ((o32 .quo (floatOfInt .f32 ((v : Int) - 16)) 1082130432) == some (qF v))
theorem q_all : ((List.range 33).all qB) = true := by kernel_rfl
theorem q_ok {v : Nat} (h : v < 33) : fin .f32 (qF v) ∧ val .f32 (qF v) = ((v : Rat) - 16) / 4 ∧ o32 .quo (floatOfInt .f32 ((v : Int) - 16)) 1082130432 = some (qF v) := by
  have h1 := List.all_eq_true.1 q_all v (List.mem_range.2 h)
  simp only [qB, Bool.and_eq_true, decide_eq_true_eq, beq_iff_eq] at h1
  exact ⟨finK_iff.1 h1.1.1, h1.1.2, h1.2⟩
theorem q_le {v : Nat} (h : v < 33) : (val .f32 (qF v)).abs ≤ 4 := by
  have h0 : (0 : Rat) ≤ (v : Rat) := Rat.natCast_nonneg
  have h1 : (v : Rat) ≤ 32 := Rat.natCast_le_natCast.2 (show v ≤ 32 by omega)
  rw [(q_ok h).2.1, abs_le, Rat.div_def]
  have : (4 : Rat)⁻¹ = 1 / 4 := by decide +kernel
  rw [this]
  grind
def longQB (a b : Nat) : Bool :=
  match longF (qF a, qF b) with
  | some l => finK .f32 l && decide (0 ≤ val .f32 l) && decide (val .f32 l ≤ 6)
  | none => false
theorem longQ_all : ((List.range 33).all fun a => (List.range 33).all (longQB a)) = true := by kernel_rfl
theorem longQ_ok {a b : Nat} (ha : a < 33) (hb : b < 33) : ∃ l, longF (qF a, qF b) = some l ∧ fin .f32 l ∧ 0 ≤ val .f32 l ∧ val .f32 l ≤ 6 := by
  have h1 := List.all_eq_true.1 (List.all_eq_true.1 longQ_all a (List.mem_range.2 ha)) b (List.mem_range.2 hb)
  unfold longQB at h1
  cases hl : longF (qF a, qF b) with
  | none => rw [hl] at h1; cases h1
  | some l =>
    rw [hl] at h1
    simp only [Bool.and_eq_true, decide_eq_true_eq] at h1
    exact ⟨l, rfl, finK_iff.1 h1.1.1, h1.1.2, h1.2⟩
/-- A drawn number. -/
def Drawn4 (x : C) : Prop := ∃ a b, a < 33 ∧ b < 33 ∧ x = (qF a, qF b)
/-- Drawn terms. -/
structure Terms (p : List C) : Prop where
  l1 : 1 ≤ p.length
  l8 : p.length ≤ 8
  at_ : ∀ x ∈ p, Drawn4 x
  top : 1 / 2 ≤ val .f32 (p.getD (p.length - 1) zero).1

theorem getD_mem {α : Type} {xs : List α} {i : Nat} {d : α} (h : i < xs.length) : xs.getD i d ∈ xs := by
  rw [List.getD_eq_getElem?_getD, List.getElem?_eq_getElem h]
  exact List.getElem_mem _
/-- The sum of lengths. -/
theorem longPoly_ok {p : List C} (h : Terms p) : ∃ l, longPolyF p = some l ∧ fin .f32 l ∧ 0 ≤ val .f32 l ∧ val .f32 l ≤ 100 := by
  have hl8 := h.l8
  have key : ∀ (n i : Nat) (s : Nat), i + n ≤ p.length → fin .f32 s → 0 ≤ val .f32 s → val .f32 s ≤ 7 * (i : Rat) →
      ∃ r, stepsF (fun k all => (longF (p.getD k zero)).bind fun l => o32 .add all l) n i s = some r ∧ fin .f32 r ∧ 0 ≤ val .f32 r ∧ val .f32 r ≤ 7 * ((i + n : Nat) : Rat) := by
    intro n
    induction n with
    | zero => intro i s hi f h0 h1; exact ⟨s, rfl, f, h0, h1⟩
    | succ n ih =>
      intro i s hi f h0 h1
      obtain ⟨a, b, ha, hb, e⟩ := h.at_ _ (getD_mem (d := zero) (show i < p.length by omega))
      obtain ⟨l, el, fl, l0, l6⟩ := longQ_ok ha hb
      rw [← e] at el
      have hi8 : (i : Rat) ≤ 8 := Rat.natCast_le_natCast.2 (show i ≤ 8 by omega)
      have hs : 0 ≤ val .f32 s + val .f32 l := by grind
      have ht := big_top .f32
      have hbig : (1000 : Rat) ≤ big := by unfold big; decide +kernel
      obtain ⟨r, er, fr, dr, _⟩ := add_ok f fl (by rw [Rat.abs_of_nonneg hs]; grind)
      have r0 := rd_nonneg (val_rep fr) dr hs
      unfold Rd at dr
      rw [Rat.abs_of_nonneg hs, U32, abs_le] at dr
      have h3 := T_tt .f32
      have h4 : tt ≤ 1 / 100000 := by unfold tt; decide +kernel
      obtain ⟨q, eq, fq, q0, q1⟩ := ih (i + 1) r (by omega) fr r0 (by rw [Rat.natCast_add, show ((1 : Nat) : Rat) = 1 from rfl]; grind)
      refine ⟨q, ?_, fq, q0, by rw [show i + (n + 1) = i + 1 + n by omega]; exact q1⟩
      simp only [stepsF, el, Option.bind_some]
      unfold o32
      rw [er, Option.bind_some]
      exact eq
  obtain ⟨r, e, f, r0, r1⟩ := key p.length 0 0 (by omega) (fin_zero _) (by rw [val_zero]; exact Rat.le_refl) (by rw [val_zero]; decide +kernel)
  refine ⟨r, e, f, r0, ?_⟩
  have : ((0 + p.length : Nat) : Rat) ≤ 8 := Rat.natCast_le_natCast.2 (show 0 + p.length ≤ 8 by omega)
  grind

/-! ### The terms as forms: halves of the drawn numbers are the weights -/
def hvL (xs : List Nat) : List Rat := xs.map fun x => val .f32 x / 2
def uForm2 (i : Nat) : Form := (List.replicate i 0 ++ [2], 0)
def units2 (c : Nat) : List Form := (List.range c).map uForm2
theorem units2_at {c i : Nat} (h : i < c) : (units2 c).getD i ([], 0) = uForm2 i := by
  unfold units2
  rw [List.getD_eq_getElem?_getD, List.getElem?_map, List.getElem?_range h]
  rfl
theorem units2_len (c : Nat) : (units2 c).length = c := by simp [units2]
theorem dot_pick (q : Rat) (i : Nat) (W : List Rat) : dot (List.replicate i 0 ++ [q]) W = q * W.getD i 0 := by
  induction i generalizing W with
  | zero =>
    cases W with
    | nil => simp only [List.replicate_zero, List.nil_append, dot, List.getD_nil]; grind
    | cons w W => simp only [List.replicate_zero, List.nil_append, dot, dot_nil, List.getD_cons_zero]; grind
  | succ i ih =>
    cases W with
    | nil => simp only [List.replicate_succ, List.cons_append, dot, List.getD_nil]; grind
    | cons w W =>
      have := ih W
      simp only [List.replicate_succ, List.cons_append, dot, List.getD_cons_succ, this]
      grind
theorem hvL_le {xs : List Nat} (h : ∀ x ∈ xs, (val .f32 x).abs ≤ 4) : ∀ w ∈ hvL xs, w.abs ≤ 2 := by
  intro w hw
  obtain ⟨x, hx, rfl⟩ := List.mem_map.1 hw
  have := h x hx
  rw [abs_le] at this ⊢
  rw [Rat.div_def, show (2 : Rat)⁻¹ = 1 / 2 by decide +kernel]
  grind
theorem hvL_at {xs : List Nat} {i : Nat} (h : i < xs.length) : (hvL xs).getD i 0 = val .f32 (xs.getD i 0) / 2 := by
  unfold hvL
  rw [List.getD_eq_getElem?_getD, List.getElem?_map, List.getElem?_eq_getElem h, List.getD_eq_getElem?_getD, List.getElem?_eq_getElem h]
  rfl
def reL (p : List C) : List Nat := p.map Prod.fst
def imL (p : List C) : List Nat := p.map Prod.snd
theorem reL_at (p : List C) (i : Nat) : (reL p).getD i 0 = (p.getD i zero).1 := by
  unfold reL
  rw [List.getD_eq_getElem?_getD, List.getElem?_map, List.getD_eq_getElem?_getD]
  cases p[i]? <;> rfl
theorem imL_at (p : List C) (i : Nat) : (imL p).getD i 0 = (p.getD i zero).2 := by
  unfold imL
  rw [List.getD_eq_getElem?_getD, List.getElem?_map, List.getD_eq_getElem?_getD]
  cases p[i]? <;> rfl
def wR (p : List C) : List Rat := hvL (reL p)
def wI (p : List C) : List Rat := hvL (imL p)
theorem wR_le {p : List C} (h : ∀ x ∈ p, Drawn4 x) : ∀ w ∈ wR p, w.abs ≤ 2 := hvL_le fun x hx => by
  obtain ⟨y, hy, rfl⟩ := List.mem_map.1 hx
  obtain ⟨a, b, ha, hb, rfl⟩ := h y hy
  exact q_le ha
theorem wI_le {p : List C} (h : ∀ x ∈ p, Drawn4 x) : ∀ w ∈ wI p, w.abs ≤ 2 := hvL_le fun x hx => by
  obtain ⟨y, hy, rfl⟩ := List.mem_map.1 hx
  obtain ⟨a, b, ha, hb, rfl⟩ := h y hy
  exact q_le hb
theorem half_twice (x : Rat) : 2 * (x / 2) = x := by rw [Rat.div_def, show (2 : Rat)⁻¹ = 1 / 2 by decide +kernel]; grind
theorem zero_sub_le : ((0 : Rat) - 0).abs ≤ 0 := by decide +kernel
theorem units2_af {p : List C} (h : ∀ x ∈ p, Drawn4 x) : AzL (wR p) (wI p) p (units2 p.length) := by
  refine ⟨(units2_len _).symm, fun i => ?_⟩
  by_cases hi : i < p.length
  · rw [units2_at hi]
    obtain ⟨a, b, ha, hb, e⟩ := h _ (getD_mem (d := zero) hi)
    have g : ∀ (xs : List Nat) (x : Nat), xs.length = p.length → xs.getD i 0 = x → fin .f32 x → Af .f32 (hvL xs) x (uForm2 i) := by
      intro xs x hl hx hf
      refine ⟨hf, ?_⟩
      show (val .f32 x - dot (List.replicate i 0 ++ [2]) (hvL xs)).abs ≤ 0
      rw [dot_pick, hvL_at (by omega), hx, half_twice, show val .f32 x - val .f32 x = 0 by grind]
      decide +kernel
    refine ⟨g _ _ (by simp [reL]) (reL_at p i) ?_, g _ _ (by simp [imL]) (imL_at p i) ?_⟩
    · rw [e]; exact (q_ok ha).1
    · rw [e]; exact (q_ok hb).1
  · rw [List.getD_eq_getElem?_getD, List.getD_eq_getElem?_getD, List.getElem?_eq_none (by omega), List.getElem?_eq_none (by rw [units2_len]; omega)]
    exact Az.zero _ _

/-! ### The two ways, as forms -/
def massOneA (fs : List Form) (xs ws : List Nat) (i : Nat) (all : Form) : Option Form :=
  if finK .f32 (xs.getD i 0) && finK .f32 (ws.getD i 0) then (nestA fs (val .f32 (xs.getD i 0))).bind fun v => (mulA .f32 (val .f32 (ws.getD i 0)) v).bind fun t => addA .f32 all t else none
def massA (fs : List Form) (xs ws : List Nat) : Option Form := stepsF (massOneA fs xs ws) xs.length 0 ([], 0)
def riseOneA (fs : List Form) (k : Nat) (out : List Form) : Option (List Form) :=
  (o32 .quo 1065353216 (f32n (k + 1))).bind fun b => if finK .f32 b then (mulA .f32 (val .f32 b) (fs.getD k ([], 0))).bind fun c => some (out ++ [c]) else none
def riseA (fs : List Form) : Option (List Form) := stepsF (riseOneA fs) fs.length 0 [([], 0)]
theorem re0 {x : Nat} (h : fin .f32 x) : Re0 (x, 0) := ⟨h, fin_zero _, val_zero _⟩
section
variable {W V : List Rat} {p : List C} {fs : List Form} (hw : ∀ w ∈ W, w.abs ≤ 2) (hv : ∀ w ∈ V, w.abs ≤ 2) (hp : AzL W V p fs)
include hw hv hp
/-- The mass so far, and the value at each node. -/
theorem mass_rel {xs ws : List Nat} {m : Form} (h : massA fs xs ws = some m) : ∃ r, massF p xs ws = some r ∧ Az W V r m := by
  refine steps_rel (f := fun i all => (nestF p (xs.getD i 0, 0)).bind fun v => (scaleF v (ws.getD i 0)).bind fun t => plusF all t) (fun (s : C) (t : Form) => Az W V s t) xs.length ?_ xs.length 0 _ _ _ (by omega) (Az.zero W V) h
  intro i s t t' hi hR hg
  unfold massOneA at hg
  split at hg
  · rename_i hf
    rw [Bool.and_eq_true] at hf
    simp only [Option.bind_eq_some_iff] at hg
    obtain ⟨v, g1, u, g2, g3⟩ := hg
    obtain ⟨v', e1, q1⟩ := nest_rel hw hv (re0 (finK_iff.1 hf.1)) hp g1
    obtain ⟨u', e2, q2⟩ := q1.scale hw hv (finK_iff.1 hf.2) g2
    obtain ⟨d', e3, q3⟩ := hR.add hw hv q2 g3
    exact ⟨d', by simp only [e1, e2, e3, Option.bind_some], q3⟩
  · cases hg
theorem rise_rel {rs : List Form} (h : riseA fs = some rs) : ∃ r, risePolyF p = some r ∧ AzL W V r rs := by
  unfold riseA at h
  rw [← hp.len] at h
  refine steps_rel (f := riseOneF p) (fun (s : List C) (t : List Form) => AzL W V s t) p.length ?_ p.length 0 _ _ _ (by omega) (show AzL W V [zero] [([], 0)] from ⟨rfl, fun i => ?_⟩) h
  · intro i s t t' hi hR hg
    simp only [riseOneA, Option.bind_eq_some_iff] at hg
    obtain ⟨b, hb, hg⟩ := hg
    split at hg
    · rename_i hf
      simp only [Option.bind_eq_some_iff] at hg
      obtain ⟨c, g1, hg⟩ := hg
      cases hg
      obtain ⟨c', e1, q1⟩ := (hp.at_ i).scale hw hv (finK_iff.1 hf) g1
      exact ⟨s ++ [c'], by simp only [riseOneF, hb, e1, Option.bind_some], hR.push q1⟩
    · cases hg
  · cases i with
    | zero => exact Az.zero W V
    | succ i => exact Az.zero W V
end
end Go.Proofs.Ytdpogmibahaklaa

namespace Go.Proofs.Ytdpogmibahaklaa
open Go.RowKit

theorem qF16 : qF 16 = 0 := by decide +kernel
def halfB (v : Nat) : Bool := (o32 .quo (floatOfInt .f32 (1 + (v : Int))) 1073741824) == some (qF (18 + 2 * v))
theorem half_all : ((List.range 8).all halfB) = true := by kernel_rfl
theorem half_ok {v : Nat} (h : v < 8) : o32 .quo (floatOfInt .f32 (1 + (v : Int))) 1073741824 = some (qF (18 + 2 * v)) := by
  have h1 := List.all_eq_true.1 half_all v (List.mem_range.2 h)
  simpa [halfB] using h1

set_option maxRecDepth 100000 in
theorem one_any (b : Nat) (A : Option Addr) (n c : Nat) (zs : List Int) (k : Nat) (w : World) (h : Src w b A n c zs k) (hk : k < 1000) :
    Calls Try.prog 172 #[.pointer (some ⟨b, 0, none⟩), .int .i64 2] w fun e w' => ∃ v : Bool, e = .returned (.bool v) ∧ Src w' b A n c zs (k + 1) ∧ w.grownBy w' (some b) := by
  go_enter Try.func172, Try.ntmps172
  go_wp2_with fail
  refine (pick_any b A n c zs k 2 _ h hk (by omega) (by omega)).mono ?_
  rintro e w1 ⟨v, rfl, v0, v1, hS, hg⟩
  by_cases hv : v = 0
  · subst hv
    go_wp2
    go_ret
    exact ⟨_, rfl, hS, hg⟩
  · go_wp2
    go_ret
    exact ⟨_, rfl, hS, hg⟩

/-- What a draw of one number leaves. -/
def Drew4 (w : World) (b : Nat) (A : Option Addr) (n c : Nat) (zs : List Int) (k : Nat) (e : Ending) (w' : World) : Prop :=
  ∃ (x : C) (k' : Nat), e = .returned (cv x) ∧ Drawn4 x ∧ k' ≤ k + 3 ∧ Src w' b A n c zs k' ∧ w.grownBy w' (some b)

set_option maxRecDepth 100000 in
theorem small_any (b : Nat) (A : Option Addr) (n c : Nat) (zs : List Int) (k : Nat) (w : World) (h : Src w b A n c zs k) (hk : k < 900) :
    Calls Try.prog 133 #[.pointer (some ⟨b, 0, none⟩)] w (Drew4 w b A n c zs k) := by
  go_enter Try.func133, Try.ntmps133
  go_wp2_with fail
  refine (pick_any b A n c zs k 33 _ h (by omega) (by omega) (by omega)).mono ?_
  rintro e w1 ⟨v1, rfl, p0, p1, hS1, hg1⟩
  obtain ⟨a, rfl⟩ := Int.eq_ofNat_of_zero_le p0
  have ha : a < 33 := by omega
  have r1 := @run_o32 _ _ _ _ (q_ok ha).2.2
  go_wp2_with (simp only [r1])
  refine (one_any b A n c zs (k + 1) _ hS1 (by omega)).mono ?_
  rintro e w2 ⟨v, rfl, hS2, hg2⟩
  have hg12 := hg1.trans hg2
  cases v
  · go_wp2_with fail
    refine (pick_any b A n c zs (k + 1 + 1) 33 _ hS2 (by omega) (by omega) (by omega)).mono ?_
    rintro e w3 ⟨v3, rfl, p2, p3, hS3, hg3⟩
    obtain ⟨a3, rfl⟩ := Int.eq_ofNat_of_zero_le p2
    have ha3 : a3 < 33 := by omega
    have r2 := @run_o32 _ _ _ _ (q_ok ha3).2.2
    go_wp2_with (simp only [r2])
    go_ret
    exact ⟨(qF a, qF a3), k + 1 + 1 + 1, rfl, ⟨a, a3, ha, ha3, rfl⟩, by omega, hS3, hg12.trans hg3⟩
  · go_wp2_with fail
    go_ret
    exact ⟨(qF a, 0), k + 1 + 1, rfl, ⟨a, 16, ha, by omega, by rw [qF16]⟩, by omega, hS2, hg12⟩

/-- What a draw of terms leaves. -/
def DrewT (b m : Nat) (w : World) (e : Ending) (w' : World) : Prop :=
  ∃ (v : Value) (r : List C), e = .returned v ∧ r.length = m ∧ Terms r ∧ OwnC w' w.heap.size v r ∧ Below b w w'

theorem terms_of {out : List C} {q : Nat} (h : ∀ x ∈ out, Drawn4 x) (hl : out.length + 1 ≤ 8) (hq : q < 8) : Terms (out ++ [(qF (18 + 2 * q), 0)]) := by
  refine ⟨by rw [List.length_append]; simp, by rw [List.length_append, List.length_singleton]; exact hl, fun x hx => ?_, ?_⟩
  · rcases List.mem_append.1 hx with h1 | h1
    · exact h x h1
    · rw [List.mem_singleton] at h1
      exact ⟨18 + 2 * q, 16, by omega, by omega, by rw [h1, qF16]⟩
  · rw [List.length_append, List.length_singleton, Nat.add_sub_cancel, getD_append_at]
    show 1 / 2 ≤ val .f32 (qF (18 + 2 * q))
    rw [(q_ok (show 18 + 2 * q < 33 by omega)).2.1]
    have h0 : (0 : Rat) ≤ (q : Rat) := Rat.natCast_nonneg
    rw [Rat.natCast_add, Rat.natCast_mul, show ((18 : Nat) : Rat) = 18 from rfl, show ((2 : Nat) : Rat) = 2 from rfl]
    have e : (18 + 2 * (q : Rat) - 16) / 4 = (18 + 2 * (q : Rat) - 16) * (1 / 4) := by rw [Rat.div_def, show (4 : Rat)⁻¹ = 1 / 4 by decide +kernel]
    rw [e]
    grind

set_option maxRecDepth 100000 in
set_option maxHeartbeats 1000000 in
theorem drawTerms_any (b : Nat) (A : Option Addr) (n c : Nat) (zs : List Int) (m : Nat) (w : World) (h : Src w b A n c zs 0) (m1 : 1 ≤ m) (m8 : m ≤ 8) (hAb : 0 < n → ∀ ad, A = some ad → ad.block < b) :
    Calls Try.prog 127 #[.pointer (some ⟨b, 0, none⟩), .int .i64 (m : Int)] w (DrewT b m w) := by
  obtain ⟨i0, hi, hz0, hz1, hz2⟩ := info_parts Try.info26
  have hblt : b < w.heap.size := World.block_lt_of_cell? w ⟨b, 0, none⟩ h.code
  go_enter Try.func127, Try.ntmps127
  go_wp2_with fail
  have hO : OwnC (w.alloc (Obj.cells #[] 26)) w.heap.size (.slice (some ⟨w.heap.size, 0, none⟩) 0 0) [] := ⟨World.ownsRow_lit w #[] 0 (Nat.le_refl _) (by unfold maxLen; omega) rfl⟩
  have hb0 : Below b w (w.alloc (Obj.cells #[] 26)) := (Below.refl _ _).alloc (Nat.le_of_lt hblt) _
  have hS0 : Src (w.alloc (Obj.cells #[] 26)) b A n c zs 0 := h.grown (World.grownBy_alloc w _ none) (by simp) (by simp)
  generalize w.alloc (Obj.cells #[] 26) = w0 at *
  go_loopw [1, 5] (fun i v wr => ∃ (j k : Nat) (x : Int) (out : List C), j + 1 ≤ m ∧ out.length = j ∧ k ≤ 3 * j ∧ i = .int .i64 x ∧ x = (m : Int) - (j : Int) ∧ (∀ x ∈ out, Drawn4 x) ∧ OwnC wr w.heap.size v out ∧ Below b w wr ∧ Src wr b A n c zs k) (fun i _ _ => (intOf i).toNat)
  case atStart => exact ⟨0, 0, (m : Int), [], by omega, rfl, by omega, rfl, by omega, by simp, hO, hb0, hS0⟩
  case round =>
    clear hO hb0 hS0
    obtain ⟨j, k, x, out, hj, hlen, hk, rfl, hx, hq, hO, hb, hS⟩ := hrel
    have Hlen := Lib.hid hlen
    have Hx := Lib.hid hx
    have hap : ∀ {w1 : World} {v : Value}, w.heap.size ≤ w1.heap.size → OwnC w1 w.heap.size v out → v.ownBlock = none ∨ v.ownBlock ≠ some b := by
      intro w1 v hs hO
      rcases hO.out.2 with ⟨hv, _⟩ | ⟨g, cap, cur, hv, hB, _⟩
      · left; rw [hv]; rfl
      · right; rw [hv]; intro e; simp [Value.ownBlock] at e; omega
    by_cases hlt : j + 1 < m
    · have e1 : (1 : Int) < x := by omega
      have hx1 : x ≤ 8 := by omega
      clear hx hlen
      go_wp2_with fail
      refine (small_any b A n c zs k _ hS (by omega)).mono ?_
      rintro e w1 ⟨y, k', rfl, hy, hk', hS1, hg1⟩
      have hO1 : OwnC w1 w.heap.size _ out := ⟨hO.out.kept hg1 (hap hb.size hO)⟩
      have hb1 := grown_below hb hg1 (by have := hb.size; omega) (Nat.le_refl _)
      clear hS hg1 hO hb
      unfold cv
      go_wp2_with (at_builtin; refine wpList_append_own _ rfl (.tmp 12) (.tmp 15) 24 rfl w.heap.size 26 i0 _ 1 8 Try.underlying24 hi hz0 hz1 hz2 rfl (by decide) _ out.length (out.map cv) rfl (hO1.out.alloc _) ⟨w1.heap.size, 0, none⟩ 1 1 [cv y] rfl rfl ?c1 ?c2 ?c3 ?c4 ?c5 ?_)
      case c1 => first | exact cell_one_new _ _ _ | exact fun j u h => h
      case c2 => first | rfl | (intro u hu; simp at hu; subst hu; rfl)
      case c3 => have := Hlen.out; unfold maxLen; omega
      case c4 => have := Hlen.out; omega
      case c5 => have := hb1.size; first | (rw [World.size_alloc]; omega) | omega
      intro v' w5 hown hgrow _
      have hO5 := OwnC.appended hown
      have hb5 : Below b w w5 := (hb1.alloc (by have := hb1.size; omega) _).grown hgrow (by have := hb1.size; simp; omega) (fun k hk => by have := (hO1.out.lt k hk).1; omega)
      have hS5 : Src w5 b A n c zs k' := by
        have hS3 : Src (w1.alloc (Obj.cells #[cv y] 26)) b A n c zs k' := hS1.grown (World.grownBy_alloc w1 _ none) (by simp) (by simp)
        refine hS3.grown hgrow ?_ ?_
        · intro e; have := (hO1.out.lt b e).1; omega
        · intro hn ad hA e; have := (hO1.out.lt _ e).1; have := hAb hn ad hA; omega
      have hl5 : (out ++ [y]).length = j + 1 := by rw [List.length_append, Hlen.out]; rfl
      have hq5 : ∀ x ∈ out ++ [y], Drawn4 x := by
        intro z hz
        rcases List.mem_append.1 hz with h1 | h1
        · exact hq z h1
        · rw [List.mem_singleton] at h1; subst h1; exact hy
      clear hown hgrow hS1 hO1
      go_wp2
      go_roundw
      case rel => exact ⟨j + 1, k', x - 1, out ++ [y], by omega, hl5, by omega, rfl, by have := Hx.out; omega, hq5, hO5, hb5, hS5⟩
      case measure => simp [intOf]; omega
    · have e1 : ¬ (1 : Int) < x := by omega
      clear hx hlen
      go_wp2_with fail
      refine (pick_any b A n c zs k 8 _ hS (by omega) (by omega) (by omega)).mono ?_
      rintro e w1 ⟨v1, rfl, p0, p1, hS1, hg1⟩
      obtain ⟨q, rfl⟩ := Int.eq_ofNat_of_zero_le p0
      have hq8 : q < 8 := by omega
      have r1 := @run_o32 _ _ _ _ (half_ok hq8)
      have hO1 : OwnC w1 w.heap.size _ out := ⟨hO.out.kept hg1 (hap hb.size hO)⟩
      have hb1 := grown_below hb hg1 (by have := hb.size; omega) (Nat.le_refl _)
      have hT := terms_of hq (by have := Hlen.out; omega) hq8
      clear hS hg1 hO hb hS1
      generalize qF (18 + 2 * q) = u at *
      go_wp2_with (first | (at_builtin; refine wpList_append_own _ rfl (.tmp 22) (.tmp 25) 24 rfl w.heap.size 26 i0 _ 1 8 Try.underlying24 hi hz0 hz1 hz2 rfl (by decide) _ out.length (out.map cv) rfl (hO1.out.alloc _) ⟨w1.heap.size, 0, none⟩ 1 1 [cv (u, 0)] rfl rfl ?c1 ?c2 ?c3 ?c4 ?c5 ?_) | simp only [r1])
      case c1 => first | exact cell_one_new _ _ _ | exact fun j u h => h
      case c2 => first | rfl | (intro u hu; simp at hu; subst hu; rfl)
      case c3 => have := Hlen.out; unfold maxLen; omega
      case c4 => have := Hlen.out; omega
      case c5 => have := hb1.size; first | (rw [World.size_alloc]; omega) | omega
      intro v' w5 hown hgrow _
      have hO5 := OwnC.appended hown
      have hb5 : Below b w w5 := (hb1.alloc (by have := hb1.size; omega) _).grown hgrow (by have := hb1.size; simp; omega) (fun k hk => by have := (hO1.out.lt k hk).1; omega)
      have hl5 : (out ++ [(u, 0)]).length = m := by rw [List.length_append, Hlen.out, List.length_singleton]; omega
      have Hl5 := Lib.hid hl5
      clear hown hgrow hO1 hl5
      go_wp2
      go_ret
      exact ⟨_, _, rfl, Hl5.out, hT, hO5, hb5⟩

set_option maxRecDepth 100000 in
theorem r8Poly_any (A : Option Addr) (n c : Nat) (zs : List Int) (m : Nat) (w : World) (h : ReadsB w A n zs) (m1 : 1 ≤ m) (m8 : m ≤ 8) (hAb : 0 < n → ∀ ad, A = some ad → ad.block < w.heap.size) :
    Calls Try.prog 55 #[.slice A n c, .int .i64 (m : Int)] w fun e w' => ∃ (g c' : Nat) (r : List C), e = .returned (.agg #[.slice (some ⟨g, 0, none⟩) m c']) ∧ r.length = m ∧ Terms r ∧ ReadsC w' (some ⟨g, 0, none⟩) m r ∧ Below w.heap.size w w' := by
  have hb0 : Below w.heap.size w (w.alloc (Obj.cells #[.slice none 0 0] 29)) := (Below.refl _ _).alloc (Nat.le_refl _) _
  have hs := src_new (c := c) (h.below hb0) (fun hn ad hA => by have := hAb hn ad hA; simp; omega)
  have hb1 : Below (w.heap.size + 1) (w.alloc (Obj.cells #[.slice none 0 0] 29)) ((w.alloc (Obj.cells #[.slice none 0 0] 29)).alloc (.cells #[.slice A n c, .int .i64 0, .int .u64 0] 127)) := (Below.refl _ _).alloc (by simp) _
  rw [World.size_alloc] at hs
  go_enter Try.func55, Try.ntmps55
  go_wp2_with fail
  refine (from_any A n c _).mono ?_
  rintro e w1 ⟨rfl, rfl⟩
  go_wp2_with fail
  refine (drawTerms_any (w.heap.size + 1) A n c zs m _ hs m1 m8 (fun hn ad hA => by have := hAb hn ad hA; omega)).mono ?_
  rintro e w2 ⟨v, r, rfl, hl, hT, hO, hb⟩
  obtain ⟨g, c', rfl, hBg, hgl, hcap⟩ := hO.form (by omega)
  obtain ⟨A', c'', hv', hR⟩ := hO.slice
  cases hv'
  rw [hl] at hR ⊢
  have hbw := hb1.trans hb
  have k1 : w2.cell? ⟨w.heap.size, 0, none⟩ = some (.slice none 0 0) := (hbw.cell (by show w.heap.size < _; omega)).trans (by simp)
  have g1 : w2.frozen? ⟨w.heap.size, 0, none⟩ = false := by
    rw [World.frozen?_of_block (w := w.alloc (Obj.cells #[.slice none 0 0] 29)) (hbw.block _ (by show w.heap.size < _; omega))]
    simp
  have hgB : w.heap.size + 2 ≤ g := by simpa using hBg
  have hbW : Below w.heap.size w w2 := hb0.trans (hbw.mono (by omega))
  clear hbw hb hb1 hb0 hO hs
  go_wp2_with fail
  refine bodyPost_ret (v := .agg #[.slice (some ⟨g, 0, none⟩) m c']) (by simp [results, Try.results55, go_sem, k1]) rfl ?_
  exact ⟨g, c', r, rfl, hl, hT, hR.set _ _ _ (by show g ≠ w.heap.size; omega), hbW.setCell (Nat.le_refl _) _⟩
end Go.Proofs.Ytdpogmibahaklaa
