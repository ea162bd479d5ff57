/- The program's InverseSeries returns what the plain function of bits says. -/
import Derived.Test.YtdpogmibahaklaaW3
set_option linter.unusedVariables false
set_option linter.unusedSimpArgs false
namespace Go.Proofs.Ytdpogmibahaklaa
open Go.RowKit

set_option maxRecDepth 100000 in
set_option maxHeartbeats 400000 in
theorem inverse_any (a : List C) (A : Option Addr) (n c : Nat) (r : List C) (w : World) (hA : ReadsC w A n a) (hx : SerC a) (h0 : isZ (a.getD 0 zero) = false) (h : invF a = some r) (hr : SerC r) :
    Calls Try.prog 23 #[.slice A n c] w (MadeC w r) := by
  have hl := hA.len
  have hm1 := hx.least
  have hm2 := hx.most
  have hn0 : 0 < n := by omega
  have hn16 : n ≤ 16 := by omega
  obtain ⟨i0, hi, hz0, hz1, hz2⟩ := info_parts Try.info26
  simp only [invF, Option.bind_eq_some_iff] at h
  obtain ⟨q, hq, h⟩ := h
  rw [hl] at h
  clear hl
  go_enter Try.func23, Try.ntmps23
  go_wp2_with fail
  refine (isSeries_any a _ _ _ _ hA hx).mono ?_
  rintro e w1 ⟨rfl, hb1⟩
  have hA1 := hA.below hb1
  obtain ⟨ad, rfl, hc⟩ := hA1.cells (by omega)
  have c0 := hc 0 hn0
  rw [Addr.add_zero'] at c0
  clear hc
  have hq' := hq
  generalize ha0 : a.getD 0 zero = a0 at c0 h0 hq
  have e0 : (FloatKind.f32.format.order a0.1 0 == some Ordering.eq && FloatKind.f32.format.order a0.2 0 == some Ordering.eq) = false := h0
  unfold cv at c0
  have hbb := hb1.size
  go_wp2_with (at_make; refine wpList_make_full _ rfl (.tmp 16) (.tmp 16) 24 rfl w.heap.size 26 i0 _ 1 Try.underlying24 hi hz0 hz1 .i64 .i64 _ _ n rfl rfl rfl rfl ?m1 ?m2 ?m3 ?_)
  case m1 => rw [hz2]; omega
  case m2 => unfold maxLen; omega
  case m3 => exact hbb
  intro w2 hown hgrow
  have hR := rowC_of_made hown hbb
  have hb2 : Below w.heap.size w w2 := hb1.grown hgrow hbb (by intro k hk; cases hk)
  have hA2 := hA1.below (w' := w2) ⟨hgrow.os, hgrow.tape, hgrow.output, hgrow.size, fun i hi => hgrow.block i hi (by simp)⟩
  have c1 : w2.cell? ad = some (.complex .f32 a0.1 a0.2) := by
    obtain ⟨ad', e', hc'⟩ := hA2.cells (by omega)
    cases e'
    have := hc' 0 hn0
    rw [Addr.add_zero', ha0] at this
    exact this
  have hf := hR.frozen 0
  have hg0 : ∃ v, w2.cell? ⟨w1.heap.size, 0, none⟩ = some v := by
    obtain ⟨ad', e', hc'⟩ := hR.reads.cells (by omega)
    cases e'
    exact ⟨_, hc' 0 hn0⟩
  obtain ⟨v0, hg0⟩ := hg0
  clear hown hgrow c0
  go_wp2_with fail
  refine Calls.same (quot_any one a0 q _ hq) ?_
  unfold cv
  go_wp2_with fail
  have hR3 : RowC (w2.setCell ⟨w1.heap.size, 0, none⟩ (.complex .f32 q.1 q.2)) w.heap.size w1.heap.size n n ((List.replicate n zero).set 0 q) := hR.stored 0 q
  have hb3 : Below w.heap.size w (w2.setCell ⟨w1.heap.size, 0, none⟩ (.complex .f32 q.1 q.2)) := hb2.setCell hbb _
  clear c1 hf hg0 hR hA2 hA1 e0
  generalize w2.setCell ⟨w1.heap.size, 0, none⟩ (.complex .f32 q.1 q.2) = w3 at *
  clear hb1 hb2
  generalize w1.heap.size = g at *
  go_loopw [5] (fun i wr => ∃ (j : Nat) (out : List C), 1 ≤ j ∧ j ≤ n ∧ i = .int .i64 (j : Int) ∧ stepsF (invStepF a) (n - j) j out = some r ∧ RowC wr w.heap.size g n n out ∧ Below w.heap.size w wr) (fun i _ => n - (intOf i).toNat)
  case atStart => exact ⟨1, _, by omega, by omega, rfl, h, hR3, hb3⟩
  case round =>
    clear hR3 hb3 h
    obtain ⟨j, out, hj1, hj2, rfl, hrec, hR, hb⟩ := hrel
    by_cases hlt : j < n
    · have e1 : (j : Int) < (n : Int) := by omega
      rw [show n - j = (n - (j + 1)) + 1 by omega] at hrec
      obtain ⟨out', hst, hrec⟩ := stepsF_succ hrec
      simp only [invStepF, Option.bind_eq_some_iff] at hst
      obtain ⟨s, hs, d, hd, q', hq', hout⟩ := hst
      cases hout
      rw [ha0] at hq'
      have hAr := hA.below hb
      have c1 : wr.cell? ad = some (.complex .f32 a0.1 a0.2) := by
        obtain ⟨ad', e', hc'⟩ := hAr.cells (by omega)
        cases e'
        have := hc' 0 hn0
        rw [Addr.add_zero', ha0] at this
        exact this
      have hn1 : (0 : Int) < (n : Int) := by omega
      have hf := hR.frozen j
      have hg0 : ∃ v, wr.cell? ⟨g, j, none⟩ = some v := by
        obtain ⟨ad', e', hc'⟩ := hR.reads.cells (by omega)
        cases e'
        have := hc' j hlt
        rw [Addr.add_lit, Nat.zero_add] at this
        exact ⟨_, this⟩
      obtain ⟨v0, hg0⟩ := hg0
      have hmix : ∀ wx, Drawn wr wx → Calls Try.prog 90 #[.slice (some ad) n c, .slice (some ⟨g, 0, none⟩) n n, .int .i64 (j : Int), .int .i64 1, .int .i64 (j : Int)] wx fun e w' => e = .returned (cv s) ∧ Drawn wx w' :=
        fun wx hd => mixed_any a out _ _ n n c n j 1 j _ _ _ s wx (hAr.drawn hd) (hR.reads.drawn hd) rfl rfl (by omega) (by omega) (by omega) (by omega) hs (by omega)
      have Hmix := Lib.hid hmix
      clear hmix
      go_wp2_with fail
      go_region_with (first
        | (go_at_call 90; refine Calls.drawn (Hmix.out _ (Drawn.one _)) ?_; rintro w4 hD; have c1' := (Drawn.cell ((Drawn.one _).trans hD) ad).trans c1; have hg1' := (Drawn.cell ((Drawn.one _).trans hD) ⟨g, j, none⟩).trans hg0; have hf' := (Drawn.frozen ((Drawn.one _).trans hD) ⟨g, j, none⟩).trans hf)
        | (go_at_call 85; refine Calls.same (minus_any zero s d _ hd) ?_)
        | (go_at_call 87; refine Calls.same (quot_any d a0 q' _ hq') ?_; unfold cv))
      all_goals
        have hD2 : Drawn wr w4 := (Drawn.one _).trans hD
        have hR4 : RowC (w4.setCell ⟨g, j, none⟩ (.complex .f32 q'.1 q'.2)) w.heap.size g n n (out.set j q') := (hR.below (hD2.below _)).stored j q'
        have hb4 : Below w.heap.size w (w4.setCell ⟨g, j, none⟩ (.complex .f32 q'.1 q'.2)) := (hb.trans (hD2.below _)).setCell hR.base _
        clear c1' hg1' hf' c1 hg0 hf hD hD2
        go_wp2
        go_roundw
        case rel => exact ⟨j + 1, _, by omega, by omega, by go_num, hrec, hR4, hb4⟩
        case measure => simp [intOf]; omega
    · have e1 : ¬ (j : Int) < (n : Int) := by omega
      obtain rfl : j = n := by omega
      rw [Nat.sub_self] at hrec
      obtain rfl := stepsF_zero hrec
      go_wp2_with fail
      refine Calls.below (checkedSeries_any out _ _ _ _ hR.reads hr) ?_
      rintro w5 hb5
      go_wp2
      go_ret2
      exact ⟨some ⟨g, 0, none⟩, _, (by rw [hR.len]; rfl), by rw [hR.len]; exact (hR.below hb5).toOwn, below_seq hb hb5⟩
end Go.Proofs.Ytdpogmibahaklaa
