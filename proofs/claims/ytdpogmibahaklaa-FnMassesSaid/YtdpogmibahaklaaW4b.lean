/- The program's SlopeSeries and RiseSeries return what the plain functions of bits say. -/
import Derived.Test.YtdpogmibahaklaaW3
set_option linter.unusedVariables false
set_option linter.unusedSimpArgs false
namespace Go.Proofs.Ytdpogmibahaklaa
open Go.RowKit

set_option maxRecDepth 100000 in
set_option maxHeartbeats 400000 in
theorem slope_any (a : List C) (A : Option Addr) (n c : Nat) (r : List C) (w : World) (hA : ReadsC w A n a) (hx : SerC a) (h : slopeF a = some r) (hr : SerC r) :
    Calls Try.prog 29 #[.slice A n c] w (MadeC w r) := by
  have hl := hA.len
  have hm1 := hx.least
  have hm2 := hx.most
  have hn0 : 0 < n := by omega
  have hn16 : n ≤ 16 := by omega
  obtain ⟨i0, hi, hz0, hz1, hz2⟩ := info_parts Try.info26
  unfold slopeF at h
  rw [hl] at h
  clear hl
  go_enter Try.func29, Try.ntmps29
  go_wp2_with fail
  refine Calls.below (isSeries_any a _ _ _ _ hA hx) ?_
  intro w1 hb1
  have hbb := hb1.size
  obtain ⟨ad, rfl, _⟩ := hA.cells (by omega)
  go_wp2_with (at_make; refine wpList_make_full _ rfl (.tmp 10) (.tmp 10) 24 rfl w.heap.size 26 i0 _ 1 Try.underlying24 hi hz0 hz1 .i64 .i64 _ _ n rfl rfl rfl rfl ?m1 ?m2 ?m3 ?_)
  case m1 => rw [hz2]; omega
  case m2 => unfold maxLen; omega
  case m3 => exact hbb
  intro w2 hown hgrow
  have hR := rowC_of_made hown hbb
  have hb2 : Below w.heap.size w w2 := hb1.grown hgrow hbb (by intro k hk; cases hk)
  clear hown hgrow hb1
  generalize w1.heap.size = g at *
  go_wp2_with fail
  go_loopw [5, 15] (fun _ i wr => ∃ (j : Nat) (out : List C), j ≤ n - 1 ∧ i = .int .i64 (j : Int) ∧ stepsF (fun k out => (scaleF (a.getD (k + 1) zero) (floatOfInt .f32 ((k : Int) + 1))).bind fun c => some (out.set k c)) (n - 1 - j) j out = some r ∧ RowC wr w.heap.size g n n out ∧ Below w.heap.size w wr) (fun _ i _ => n - (intOf i).toNat)
  case atStart => exact ⟨0, _, by omega, rfl, h, hR, hb2⟩
  case round =>
    clear hR hb2 h
    obtain ⟨j, out, hj2, rfl, hrec, hR, hb⟩ := hrel
    by_cases hlt : j < n - 1
    · have e1 : (j : Int) < (n : Int) - 1 := by omega
      rw [show n - 1 - j = (n - 1 - (j + 1)) + 1 by omega] at hrec
      obtain ⟨out', hst, hrec⟩ := stepsF_succ hrec
      simp only [Option.bind_eq_some_iff] at hst
      obtain ⟨s, hs, hout⟩ := hst
      cases hout
      have hAr := hA.below hb
      obtain ⟨ad', e', hc⟩ := hAr.cells (by omega)
      cases e'
      have c1 := hc (j + 1) (by omega)
      clear hc
      rw [Addr.add_succ'] at c1
      generalize a.getD (j + 1) zero = x at c1 hs
      have hn1 : (j : Int) + 1 < (n : Int) := by omega
      have hn2 : (j : Int) < (n : Int) := by omega
      have hf := hR.frozen j
      have hg0 : ∃ v, wr.cell? ⟨g, j, none⟩ = some v := by
        obtain ⟨ad', e', hc'⟩ := hR.reads.cells (by omega)
        cases e'
        have := hc' j (by omega)
        rw [Addr.add_lit, Nat.zero_add] at this
        exact ⟨_, this⟩
      obtain ⟨v0, hg0⟩ := hg0
      go_wp2_with fail
      refine Calls.same (scale_any x _ s _ hs) ?_
      unfold cv
      have hR4 : RowC (wr.setCell ⟨g, j, none⟩ (.complex .f32 s.1 s.2)) w.heap.size g n n (out.set j s) := hR.stored j s
      have hb4 : Below w.heap.size w (wr.setCell ⟨g, j, none⟩ (.complex .f32 s.1 s.2)) := hb.setCell hR.base _
      go_wp2
      go_roundw
      case rel => exact ⟨j + 1, _, by omega, by go_num, by rw [show n - 1 - (j + 1) = n - 1 - (j + 1) from rfl]; exact hrec, hR4, hb4⟩
      case measure => simp [intOf]; omega
    · have e1 : ¬ (j : Int) < (n : Int) - 1 := by omega
      obtain rfl : j = n - 1 := by omega
      rw [Nat.sub_self] at hrec
      obtain rfl := stepsF_zero hrec
      go_wp2_with fail
      refine Calls.below (checkedSeries_any out _ _ _ _ hR.reads hr) ?_
      rintro w5 hb5
      go_wp2
      go_ret2
      exact ⟨some ⟨g, 0, none⟩, _, (by rw [hR.len]; rfl), by rw [hR.len]; exact (hR.below hb5).toOwn, below_seq hb hb5⟩

set_option maxRecDepth 100000 in
set_option maxHeartbeats 400000 in
theorem rise_any (a : List C) (A : Option Addr) (n c : Nat) (r : List C) (w : World) (hA : ReadsC w A n a) (hx : SerC a) (h : riseF a = some r) (hr : SerC r) :
    Calls Try.prog 28 #[.slice A n c] w (MadeC w r) := by
  have hl := hA.len
  have hm1 := hx.least
  have hm2 := hx.most
  have hn0 : 0 < n := by omega
  have hn16 : n ≤ 16 := by omega
  obtain ⟨i0, hi, hz0, hz1, hz2⟩ := info_parts Try.info26
  unfold riseF at h
  rw [hl] at h
  clear hl
  go_enter Try.func28, Try.ntmps28
  go_wp2_with fail
  refine Calls.below (isSeries_any a _ _ _ _ hA hx) ?_
  intro w1 hb1
  have hbb := hb1.size
  obtain ⟨ad, rfl, _⟩ := hA.cells (by omega)
  go_wp2_with (at_make; refine wpList_make_full _ rfl (.tmp 10) (.tmp 10) 24 rfl w.heap.size 26 i0 _ 1 Try.underlying24 hi hz0 hz1 .i64 .i64 _ _ n rfl rfl rfl rfl ?m1 ?m2 ?m3 ?_)
  case m1 => rw [hz2]; omega
  case m2 => unfold maxLen; omega
  case m3 => exact hbb
  intro w2 hown hgrow
  have hR := rowC_of_made hown hbb
  have hb2 : Below w.heap.size w w2 := hb1.grown hgrow hbb (by intro k hk; cases hk)
  clear hown hgrow hb1
  generalize w1.heap.size = g at *
  go_wp2_with fail
  go_loopw [5] (fun i wr => ∃ (j : Nat) (out : List C), 1 ≤ j ∧ j ≤ n ∧ i = .int .i64 (j : Int) ∧ stepsF (fun k out => (partF (a.getD (k - 1) zero) (k : Int)).bind fun c => some (out.set k c)) (n - j) j out = some r ∧ RowC wr w.heap.size g n n out ∧ Below w.heap.size w wr) (fun i _ => n - (intOf i).toNat)
  case atStart => exact ⟨1, _, by omega, by omega, rfl, h, hR, hb2⟩
  case round =>
    clear hR hb2 h
    obtain ⟨j, out, hj1, hj2, rfl, hrec, hR, hb⟩ := hrel
    by_cases hlt : j < n
    · have e1 : (j : Int) < (n : Int) := by omega
      rw [show n - j = (n - (j + 1)) + 1 by omega] at hrec
      obtain ⟨out', hst, hrec⟩ := stepsF_succ hrec
      simp only [Option.bind_eq_some_iff] at hst
      obtain ⟨s, hs, hout⟩ := hst
      cases hout
      have hAr := hA.below hb
      obtain ⟨ad', e', hc⟩ := hAr.cells (by omega)
      cases e'
      have c1 := hc (j - 1) (by omega)
      clear hc
      generalize a.getD (j - 1) zero = x at c1 hs
      have hn1 : (j : Int) - 1 < (n : Int) := by omega
      have hn3 : (0 : Int) ≤ (j : Int) - 1 := by omega
      have hf := hR.frozen j
      have hg0 : ∃ v, wr.cell? ⟨g, j, none⟩ = some v := by
        obtain ⟨ad', e', hc'⟩ := hR.reads.cells (by omega)
        cases e'
        have := hc' j (by omega)
        rw [Addr.add_lit, Nat.zero_add] at this
        exact ⟨_, this⟩
      obtain ⟨v0, hg0⟩ := hg0
      go_wp2_with fail
      refine Calls.same (part_any x _ s _ hs) ?_
      unfold cv
      have hR4 : RowC (wr.setCell ⟨g, j, none⟩ (.complex .f32 s.1 s.2)) w.heap.size g n n (out.set j s) := hR.stored j s
      have hb4 : Below w.heap.size w (wr.setCell ⟨g, j, none⟩ (.complex .f32 s.1 s.2)) := hb.setCell hR.base _
      go_wp2
      go_roundw
      case rel => exact ⟨j + 1, _, by omega, by omega, by go_num, hrec, hR4, hb4⟩
      case measure => simp [intOf]; omega
    · have e1 : ¬ (j : Int) < (n : Int) := by omega
      obtain rfl : j = n := by omega
      rw [Nat.sub_self] at hrec
      obtain rfl := stepsF_zero hrec
      go_wp2_with fail
      refine Calls.below (checkedSeries_any out _ _ _ _ hR.reads hr) ?_
      rintro w5 hb5
      go_wp2
      go_ret2
      exact ⟨some ⟨g, 0, none⟩, _, (by rw [hR.len]; rfl), by rw [hR.len]; exact (hR.below hb5).toOwn, below_seq hb hb5⟩
end Go.Proofs.Ytdpogmibahaklaa
