/- The program's ExpSeries returns what the plain function of bits says. -/
import Derived.Test.YtdpogmibahaklaaW3
set_option linter.unusedVariables false
set_option linter.unusedSimpArgs false
namespace Go.Proofs.Ytdpogmibahaklaa
open Go.RowKit

set_option maxRecDepth 100000 in
set_option maxHeartbeats 400000 in
theorem exp_any (a : List C) (A : Option Addr) (n c : Nat) (r : List C) (w : World) (hA : ReadsC w A n a) (hx : SerC a) (h0 : isZ (a.getD 0 zero) = true) (h : expF a = some r) (hr : SerC r) :
    Calls Try.prog 25 #[.slice A n c] w (MadeC w r) := by
  have hl := hA.len
  have hm1 := hx.least
  have hm2 := hx.most
  have hn0 : 0 < n := by omega
  have hn16 : n ≤ 16 := by omega
  obtain ⟨i0, hi, hz0, hz1, hz2⟩ := info_parts Try.info26
  unfold expF at h
  rw [hl] at h
  clear hl
  go_enter Try.func25, Try.ntmps25
  go_wp2_with fail
  refine Calls.below (isSeries_any a _ _ _ _ hA hx) ?_
  intro w1 hb1
  have hbb := hb1.size
  have hA1 := hA.below hb1
  obtain ⟨ad, rfl, hc⟩ := hA1.cells (by omega)
  have c0 := hc 0 hn0
  rw [Addr.add_zero'] at c0
  clear hc hA1
  obtain ⟨o1, o2⟩ : FloatKind.f32.format.order (a.getD 0 zero).1 0 = some Ordering.eq ∧ FloatKind.f32.format.order (a.getD 0 zero).2 0 = some Ordering.eq := by
    have h00 : (FloatKind.f32.format.order (a.getD 0 zero).1 0 == some Ordering.eq && FloatKind.f32.format.order (a.getD 0 zero).2 0 == some Ordering.eq) = true := h0
    simpa using h00
  generalize ha0 : a.getD 0 zero = a0 at c0 h0 o1 o2
  unfold cv at c0
  go_wp2_with (at_make; refine wpList_make_full _ rfl (.tmp 18) (.tmp 18) 24 rfl w.heap.size 26 i0 _ 1 Try.underlying24 hi hz0 hz1 .i64 .i64 _ _ n rfl rfl rfl rfl ?m1 ?m2 ?m3 ?_)
  case m1 => rw [hz2]; omega
  case m2 => unfold maxLen; omega
  case m3 => exact hbb
  intro w2 hown hgrow
  have hR := rowC_of_made hown hbb
  have hb2 : Below w.heap.size w w2 := hb1.grown hgrow hbb (by intro k hk; cases hk)
  clear hown hgrow hb1 c0
  generalize w1.heap.size = g at *
  have hf := hR.frozen 0
  have hg0 : ∃ v, w2.cell? ⟨g, 0, none⟩ = some v := by
    obtain ⟨ad', e', hc'⟩ := hR.reads.cells (by omega)
    cases e'
    exact ⟨_, hc' 0 hn0⟩
  obtain ⟨v0, hg0⟩ := hg0
  have hn1 : (0 : Int) < (n : Int) := by omega
  have hR3 : RowC (w2.setCell ⟨g, 0, none⟩ (.complex .f32 1065353216 0)) w.heap.size g n n ((List.replicate n zero).set 0 one) := hR.stored 0 one
  have hb3 : Below w.heap.size w (w2.setCell ⟨g, 0, none⟩ (.complex .f32 1065353216 0)) := hb2.setCell hbb _
  go_wp2_with fail
  clear hf hg0 hR hb2
  generalize w2.setCell ⟨g, 0, none⟩ (.complex .f32 1065353216 0) = w3 at *
  go_loopw [5] (fun i wr => ∃ (j : Nat) (out : List C), 1 ≤ j ∧ j ≤ n ∧ i = .int .i64 (j : Int) ∧ stepsF (fun k out => (expMixF a out k k 1).bind fun s => (partF s (k : Int)).bind fun c => some (out.set k c)) (n - j) j out = some r ∧ RowC wr w.heap.size g n n out ∧ Below w.heap.size w wr) (fun i _ => n - (intOf i).toNat)
  case atStart => exact ⟨1, _, by omega, by omega, rfl, h, hR3, hb3⟩
  case round =>
    clear hR3 hb3 h o1 o2
    obtain ⟨j, out, hj1, hj2, rfl, hrec, hR, hb⟩ := hrel
    by_cases hlt : j < n
    · have e1 : (j : Int) < (n : Int) := by omega
      rw [show n - j = (n - (j + 1)) + 1 by omega] at hrec
      obtain ⟨out', hst, hrec⟩ := stepsF_succ hrec
      simp only [Option.bind_eq_some_iff] at hst
      obtain ⟨s, hs, t, ht, hout⟩ := hst
      cases hout
      have hAr := hA.below hb
      unfold expMixF at hs
      obtain ⟨wo, rfl⟩ : ∃ wo : World, wo = wr := ⟨_, rfl⟩
      go_wp2_with fail
      go_loopw [6, 7] (fun acc i wi => ∃ (m : Nat) (x : C), m ≤ j ∧ i = .int .i64 ((m + 1 : Nat) : Int) ∧ acc = cv x ∧ stepsF (fun i acc => (scaleF (a.getD i zero) (floatOfInt .f32 (i : Int))).bind fun t => (mulF t (out.getD (j - i) zero)).bind fun p => plusF acc p) (j - m) (1 + m) x = some s ∧ Drawn wo wi) (fun _ i _ => j + 1 - (intOf i).toNat)
      case atStart => exact ⟨0, (0, 0), by omega, rfl, rfl, hs, Drawn.refl _⟩
      case round =>
        obtain ⟨m, x, hm, rfl, rfl, hrec2, hD⟩ := hrel
        by_cases hlt2 : m < j
        · have e2 : ((m + 1 : Nat) : Int) ≤ (j : Int) := by omega
          rw [show j - m = (j - (m + 1)) + 1 by omega] at hrec2
          obtain ⟨x', hst, hrec2⟩ := stepsF_succ hrec2
          simp only [Option.bind_eq_some_iff] at hst
          obtain ⟨t1, ht1, p1, hp1, hx1⟩ := hst
          obtain ⟨ad', e', hc⟩ := (hAr.drawn hD).cells (by omega)
          cases e'
          have c1 := hc (m + 1) (by omega)
          clear hc
          rw [Addr.add_succ'] at c1
          obtain ⟨ad', e', hc⟩ := (hR.reads.drawn hD).cells (by omega)
          cases e'
          have c2 := hc (j - (m + 1)) (by omega)
          clear hc
          rw [Addr.add_lit, Nat.zero_add] at c2
          rw [Nat.add_comm 1 m] at ht1 hp1
          generalize a.getD (m + 1) zero = y at c1 ht1
          generalize out.getD (j - (m + 1)) zero = z at c2 hp1
          have b1 : (m : Int) + 1 < (n : Int) := by omega
          have b2 : (j : Int) - ((m : Int) + 1) < (n : Int) := by omega
          have b3 : (0 : Int) ≤ (j : Int) - ((m : Int) + 1) := by omega
          go_wp2
          go_quiet (first | (go_at_call 108; exact Calls.quiet_of_same (scale_any _ _ _ _ ht1)) | (go_at_call 88; exact Calls.quiet_of_same (mul_any _ _ _ _ hp1)) | (go_at_call 103; exact Calls.quiet_of_same (plus_any _ _ _ _ hx1)))
          go_wp2
          go_roundw
          case rel => exact ⟨m + 1, x', by omega, by go_num, rfl, by rw [show 1 + (m + 1) = 1 + m + 1 by omega]; exact hrec2, hD.step nq⟩
          case measure => simp [intOf]; omega
        · have e2 : ¬ ((m + 1 : Nat) : Int) ≤ (j : Int) := by omega
          obtain rfl : m = j := by omega
          rw [Nat.sub_self] at hrec2
          obtain rfl := stepsF_zero hrec2
          have hR5 := hR.below (hD.below _)
          have hb5 := hb.trans (hD.below _)
          have hf := hR5.frozen m
          have hg0 : ∃ v, wr.cell? ⟨g, m, none⟩ = some v := by
            obtain ⟨ad', e', hc'⟩ := hR5.reads.cells (by omega)
            cases e'
            have := hc' m (by omega)
            rw [Addr.add_lit, Nat.zero_add] at this
            exact ⟨_, this⟩
          obtain ⟨v0, hg0⟩ := hg0
          go_wp2_with fail
          refine Calls.same (part_any x _ t _ ht) ?_
          unfold cv
          have hR4 : RowC (wr.setCell ⟨g, m, none⟩ (.complex .f32 t.1 t.2)) w.heap.size g n n (out.set m t) := hR5.stored m t
          have hb4 : Below w.heap.size w (wr.setCell ⟨g, m, none⟩ (.complex .f32 t.1 t.2)) := hb5.setCell hR5.base _
          go_wp2
          go_roundw
          case rel => exact ⟨m + 1, _, by omega, by omega, by go_num, hrec, hR4, hb4⟩
          case measure => simp [intOf]; omega
    · have e1 : ¬ (j : Int) < (n : Int) := by omega
      obtain rfl : j = n := by omega
      rw [Nat.sub_self] at hrec
      obtain rfl := stepsF_zero hrec
      go_wp2_with fail
      refine Calls.below (checkedSeries_any out _ _ _ _ hR.reads hr) ?_
      rintro w5 hb5
      go_wp2
      go_ret2
      exact ⟨some ⟨g, 0, none⟩, _, (by rw [hR.len]; rfl), by rw [hR.len]; exact (hR.below hb5).toOwn, below_seq hb hb5⟩
end Go.Proofs.Ytdpogmibahaklaa
