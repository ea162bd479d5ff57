/- The program's values of series return what the plain functions of bits say. -/
import Derived.Test.YtdpogmibahaklaaW7
set_option linter.unusedVariables false
set_option linter.unusedSimpArgs false
namespace Go.Proofs.Ytdpogmibahaklaa
open Go.RowKit

set_option maxRecDepth 100000 in
set_option maxHeartbeats 400000 in
theorem nested_any (l : List C) (z : C) (A : Option Addr) (n c : Nat) (r : C) (w : World) (hA : ReadsC w A n l) (hn0 : 0 < n) (hn1 : n ≤ 1000) (h : nestF l z = some r) :
    Calls Try.prog 111 #[.slice A n c, cv z] w fun e w' => e = .returned (cv r) ∧ Drawn w w' := by
  have hl := hA.len
  unfold nestF at h
  rw [hl] at h
  clear hl
  obtain ⟨ad, rfl, hc⟩ := hA.cells (by omega)
  have c0 := hc (n - 1) (by omega)
  clear hc
  have hn2 : (0 : Int) ≤ (n : Int) - 1 := by omega
  have hn3 : (n : Int) - 1 < (n : Int) := by omega
  generalize l.getD (n - 1) zero = v0 at c0 h
  unfold cv at c0
  unfold cv
  go_enter Try.func111, Try.ntmps111
  go_wp2_with fail
  go_loopw [6, 7] (fun v i wr => ∃ (R : Nat) (x : Int) (acc : C), R ≤ n - 1 ∧ i = .int .i64 x ∧ x = (R : Int) - 1 ∧ v = .complex .f32 acc.1 acc.2 ∧
      stepsF (fun j v => (mulF v z).bind fun p => plusF p (l.getD (n - 2 - j) zero)) R (n - 1 - R) acc = some r ∧ Drawn w wr) (fun _ i _ => (intOf i + 1).toNat)
  case atStart => exact ⟨n - 1, (n : Int) - 1 - 1, v0, by omega, rfl, by omega, rfl, by rw [Nat.sub_self]; exact h, Drawn.refl _⟩
  case round =>
    clear h c0
    obtain ⟨R, x, acc, hR1, rfl, hx, rfl, hrec, hD⟩ := hrel
    by_cases hlt : 0 < R
    · obtain ⟨R', rfl⟩ : ∃ R', R = R' + 1 := ⟨R - 1, by omega⟩
      obtain rfl : x = (R' : Int) := by omega
      clear hx
      obtain ⟨s, hst, hrec⟩ := stepsF_succ hrec
      simp only [Option.bind_eq_some_iff] at hst
      obtain ⟨p, hp, hs⟩ := hst
      rw [show n - 2 - (n - 1 - (R' + 1)) = R' by omega] at hs
      rw [show n - 1 - (R' + 1) + 1 = n - 1 - R' by omega] at hrec
      obtain ⟨ad', e', hc⟩ := (hA.drawn hD).cells (by omega)
      cases e'
      have c1 := hc R' (by omega)
      clear hc
      generalize l.getD R' zero = y at c1 hs
      unfold cv at c1
      have e1 : (0 : Int) ≤ (R' : Int) := by omega
      have hn4 : (R' : Int) < (n : Int) := by omega
      go_wp2
      go_quiet (first | (go_at_call 88; exact Calls.quiet_of_same (mul_any acc z p _ hp)) | (go_at_call 103; exact Calls.quiet_of_same (plus_any p y s _ hs)))
      unfold cv
      go_wp2
      go_roundw
      case rel => exact ⟨R', (R' : Int) - 1, s, by omega, rfl, rfl, rfl, hrec, hD.step nq⟩
      case measure => simp [intOf]
    · have e1 : ¬ (0 : Int) ≤ x := by omega
      obtain rfl : R = 0 := by omega
      obtain rfl := stepsF_zero hrec
      go_wp2
      go_ret
      exact ⟨rfl, hD⟩

theorem finite_any (x : C) (w : World) (h : FinC x) :
    Calls Try.prog 104 #[cv x] w fun e w' => e = .returned (.tuple #[cv x, .bool true]) ∧ Below w.heap.size w w' := by
  go_enter Try.func104, Try.ntmps104
  go_wp2_with (go_at_call 153; refine (isFiniteComplex_any _ _ h).mono ?_; rintro e w' ⟨rfl, hb⟩)
  go_ret2
  exact ⟨rfl, hb⟩

theorem reads_single (w : World) (x : C) : ReadsC (w.alloc (Obj.cells #[Value.complex .f32 x.1 x.2] 26)) (some ⟨w.heap.size, 0, none⟩) 1 [x] :=
  ⟨rfl, by omega, fun _ => ⟨_, rfl, fun j hj => by
    obtain rfl : j = 0 := by omega
    exact cell_one_new w _ _ 0 _ rfl⟩⟩

set_option maxRecDepth 100000 in
theorem seriesAt_any (a : List C) (z : C) (A : Option Addr) (n c : Nat) (r : C) (w : World) (hA : ReadsC w A n a) (ha : SerC a) (hz : FinC z) (h : nestF a z = some r) (hr : FinC r) :
    Calls Try.prog 35 #[.slice A n c, cv z] w fun e w' => e = .returned (.tuple #[cv r, .bool true]) ∧ Below w.heap.size w w' := by
  have hn0 : 0 < n := by have := hA.len; have := ha.least; omega
  have hn1 : n ≤ 1000 := by have := hA.len; have := ha.most; omega
  unfold cv
  go_enter Try.func35, Try.ntmps35
  go_wp2_with fail
  refine Calls.below (isSeries_any a _ _ _ _ hA ha) ?_
  intro w1 hb1
  go_wp2_with fail
  refine Calls.below (allFinite_any [z] _ _ _ _ (reads_single w1 z) (by simpa using hz)) ?_
  intro w2 hb2
  have hb2' : Below w1.heap.size w1 w2 := ((Below.refl _ _).alloc (Nat.le_refl _) _).trans (hb2.mono (by simp))
  have hb3 := below_seq hb1 hb2'
  clear hb2
  go_wp2_with fail
  refine Calls.drawn (nested_any a z A n c r _ (hA.below hb3) hn0 hn1 h) ?_
  intro w4 hD
  go_wp2_with fail
  refine Calls.below (finite_any r _ hr) ?_
  intro w5 hb5
  go_wp2
  go_ret2
  exact ⟨rfl, below_seq (hb3.trans (hD.below _)) hb5⟩

theorem within_any (x lo hi : Int) (w : World) (h1 : lo ≤ x) (h2 : x ≤ hi) :
    Calls Try.prog 83 #[.int .i64 x, .int .i64 lo, .int .i64 hi] w fun e w' => e = .returned (.bool true) ∧ w' = w := by
  go_enter Try.func83, Try.ntmps83
  go_wp2
  go_ret
  exact ⟨rfl, rfl⟩

theorem areWorkers_any (x : Int) (w : World) (h1 : 1 ≤ x) (h2 : x ≤ 8) :
    Calls Try.prog 112 #[.int .i64 x] w fun e w' => e = .returned (.bool true) ∧ w' = w := by
  go_enter Try.func112, Try.ntmps112
  go_wp2_with (go_at_call 83; refine (within_any x 1 8 _ h1 h2).mono ?_; rintro e w' ⟨rfl, rfl⟩)
  go_ret
  exact ⟨rfl, rfl⟩
end Go.Proofs.Ytdpogmibahaklaa
