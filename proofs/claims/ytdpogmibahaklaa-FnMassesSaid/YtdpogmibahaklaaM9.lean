/- The program's values of polynomials, and their sizes, return what the plain functions of bits say. -/
import Derived.Test.YtdpogmibahaklaaM8
set_option linter.unusedVariables false
set_option linter.unusedSimpArgs false
namespace Go.Proofs.Ytdpogmibahaklaa
open Go.RowKit

set_option maxRecDepth 100000 in
theorem polyAt_any (p : List C) (z r : C) (A : Option Addr) (n c : Nat) (w : World) (hA : ReadsC w A n p) (hp : ValC p) (hz : FinC z) (h : nestF p z = some r) (hr : FinC r) :
    Calls Try.prog 43 #[.agg #[.slice A n c], cv z] w fun e w' => e = .returned (.tuple #[cv r, .bool true]) ∧ Below w.heap.size w w' := by
  have hl := hA.len
  have hm1 := hp.least
  have hm2 := hp.most
  unfold cv
  have hb0 := (Below.refl w.heap.size w).alloc (Nat.le_refl _) (Obj.cells #[.slice A n c] 29)
  go_enter Try.func43, Try.ntmps43
  go_wp2_with fail
  refine Calls.below (validPoly_any p A n c _ (hA.below hb0) hp) ?_
  intro w1 hb1
  have hbx : w1.cell? ⟨w.heap.size, 0, none⟩ = some (.slice A n c) := (hb1.cell (by simp)).trans (by simp)
  have hb := hb0.trans (hb1.mono (by simp))
  clear hb0 hb1
  go_wp2_with fail
  refine Calls.below (allFinite_any [z] _ _ _ _ (reads_single w1 z) (by simpa using hz)) ?_
  intro w2 hb2
  have hb2' : Below w1.heap.size w1 w2 := ((Below.refl _ _).alloc (Nat.le_refl _) _).trans (hb2.mono (by simp))
  have hb3 : Below w.heap.size w w2 := hb.trans (hb2'.mono hb.size)
  have hby : w2.cell? ⟨w.heap.size, 0, none⟩ = some (.slice A n c) := cell_below hb2' hbx
  clear hb2 hb2' hbx
  go_wp2_with fail
  refine Calls.drawn (nested_any p z A n c r _ (hA.below hb3) (by omega) (by omega) h) ?_
  intro w4 hD
  go_wp2_with fail
  refine Calls.below (finite_any r _ hr) ?_
  intro w5 hb5
  go_wp2
  go_ret2
  exact ⟨rfl, (hb3.trans (hD.below _)).trans (hb5.mono (hb3.trans (hD.below _)).size)⟩

/-- The greater of numbers of 32 bits. -/
def f32max (x y : Nat) : Option Nat :=
  match Ieee.single.order x y with
  | none => none
  | some .lt => some y
  | some .gt => some x
  | some .eq => some (if (FloatKind.f32.decode x).neg then y else x)
theorem run_max2_f32 {x y r : Nat} (h : f32max x y = some r) (P : Program) (w : World) : (Builtin.max2 (.float .f32 x) (.float .f32 y)).run P w = .ok (.float .f32 r) w := by
  unfold f32max at h
  unfold Builtin.max2
  show (match FloatKind.f32.format.order x y with
    | none => do pure (.float .f32 (← choose (.nanMinMax .f32 true x y)))
    | some .lt => pure (.float .f32 y)
    | some .gt => pure (.float .f32 x)
    | some .eq => pure (.float .f32 (if (FloatKind.f32.decode x).neg then y else x)) : Sem Value).run P w = _
  have e : FloatKind.f32.format.order x y = Ieee.single.order x y := rfl
  rw [e]
  cases hx : Ieee.single.order x y with
  | none => rw [hx] at h; cases h
  | some o =>
    rw [hx] at h
    cases o <;> simp only [Option.some.injEq] at h <;> subst h <;> rfl
theorem run_max_two32 {x y r : Nat} (h : f32max x y = some r) (ts : Array TypeId) (t : TypeId) (P : Program) (w : World) : (Builtin.max_ ts t #[.float .f32 x, .float .f32 y]).run P w = .ok (.float .f32 r) w := by
  have := run_max2_f32 h P w
  simp [Builtin.max_, this]

def long1F (x : Nat) : Option Nat := f32max x (Op.negFloat .f32 x)
def longSumF (z : C) : Option Nat := (long1F z.1).bind fun a => (long1F z.2).bind fun b => o32 .add a b
theorem long64_any (z : C) (r : Nat) (w : World) (h : longSumF z = some r) :
    Calls Try.prog 121 #[cv z] w fun e w' => e = .returned (.float .f32 r) ∧ w' = w := by
  simp only [longSumF, long1F, Option.bind_eq_some_iff] at h
  obtain ⟨a, ha, b, hb, hr⟩ := h
  have hn : ∀ (b : Nat), Op.unary .neg (.float .f32 b) = pure (.float .f32 (Op.negFloat .f32 b)) := fun _ => rfl
  have f1 := fun ts t => run_max_two32 ha ts t Try.prog
  have f2 := fun ts t => run_max_two32 hb ts t Try.prog
  have f3 := @run_o32 _ _ _ _ hr
  unfold cv
  go_enter Try.func121, Try.ntmps121
  go_wp2_with (simp only [hn, f1, f2, f3])
  go_ret
  exact ⟨rfl, rfl⟩

/-- The sum of the terms' lengths, nested. -/
def sizeF (p : List C) (z : C) : Option Nat :=
  (longSumF z).bind fun l => (wide l).bind fun x => stepsF (fun j s => (o64 .mul s x).bind fun m => (longSumF (p.getD (p.length - 1 - j) zero)).bind fun l => (wide l).bind fun y => o64 .add m y) p.length 0 0

set_option maxRecDepth 100000 in
set_option maxHeartbeats 400000 in
theorem size_any (p : List C) (z : C) (A : Option Addr) (n c r : Nat) (w : World) (hA : ReadsC w A n p) (hn : n ≤ 16) (h : sizeF p z = some r) :
    Calls Try.prog 45 #[.agg #[.slice A n c], cv z] w fun e w' => e = .returned (.float .f64 r) ∧ Below w.heap.size w w' := by
  have hl := hA.len
  simp only [sizeF, Option.bind_eq_some_iff] at h
  obtain ⟨l, hlz, x, hx, h⟩ := h
  rw [hl] at h
  have g1 := @run_wide _ _ hx
  have hb0 := (Below.refl w.heap.size w).alloc (Nat.le_refl _) (Obj.cells #[.slice A n c] 29)
  have hbox : (w.alloc (Obj.cells #[.slice A n c] 29)).cell? ⟨w.heap.size, 0, none⟩ = some (.slice A n c) := by simp
  have hA1 := hA.below hb0
  have Hlz := Lib.hid hlz
  clear hlz hl
  go_enter Try.func45, Try.ntmps45
  go_wp2_with fail
  refine Calls.same (long64_any z l _ Hlz.out) ?_
  go_wp2_with (simp only [g1])
  generalize w.alloc (Obj.cells #[.slice A n c] 29) = w1 at *
  go_loop [6, 7] (fun s i => ∃ (R : Nat) (X : Int) (u : Nat), R ≤ n ∧ i = .int .i64 X ∧ X = (R : Int) - 1 ∧ s = .float .f64 u ∧
      stepsF (fun j s => (o64 .mul s x).bind fun m => (longSumF (p.getD (n - 1 - j) zero)).bind fun l => (wide l).bind fun y => o64 .add m y) R (n - R) u = some r) (fun _ i => (intOf i + 1).toNat)
  case atStart => exact ⟨n, (n : Int) - 1, 0, by omega, rfl, rfl, rfl, by rw [Nat.sub_self]; exact h⟩
  case round =>
    clear h
    obtain ⟨R, X, u, hR1, rfl, hX, rfl, hrec⟩ := hrel
    by_cases hlt : 0 < R
    · obtain ⟨R', rfl⟩ : ∃ R', R = R' + 1 := ⟨R - 1, by omega⟩
      obtain rfl : X = (R' : Int) := by omega
      clear hX
      obtain ⟨s, hst, hrec⟩ := stepsF_succ hrec
      rw [show n - 1 - (n - (R' + 1)) = R' by omega] at hst
      rw [show n - (R' + 1) + 1 = n - R' by omega] at hrec
      simp only [Option.bind_eq_some_iff] at hst
      obtain ⟨m, hm, l1, hl1, y1, hy1, hs⟩ := hst
      obtain ⟨ad', rfl, hc⟩ := hA1.cells (by omega)
      have c1 := hc R' (by omega)
      clear hc
      generalize p.getD R' zero = y at c1 hl1
      unfold cv at c1
      have e1 : (0 : Int) ≤ (R' : Int) := by omega
      have hn4 : (R' : Int) < (n : Int) := by omega
      have f1 := @run_o64 _ _ _ _ hm
      have f2 := @run_wide _ _ hy1
      have f3 := @run_o64 _ _ _ _ hs
      clear hm hy1 hs
      go_wp2_with (simp only [f1])
      refine Calls.same (long64_any y l1 _ hl1) ?_
      go_wp2_with (simp only [f1, f2, f3])
      go_round
      case rel => exact ⟨R', (R' : Int) - 1, s, by omega, rfl, rfl, rfl, hrec⟩
      case measure => simp [intOf]
    · have e1 : ¬ (0 : Int) ≤ X := by omega
      obtain rfl : R = 0 := by omega
      have e2 := stepsF_zero hrec
      subst e2
      go_wp2_with fail
      go_ret
      exact ⟨rfl, hb0⟩
end Go.Proofs.Ytdpogmibahaklaa
