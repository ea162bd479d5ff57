/- The program's RootSeries returns what the plain function of bits says. -/
import Derived.Test.YtdpogmibahaklaaW3
set_option linter.unusedVariables false
set_option linter.unusedSimpArgs false
namespace Go.Proofs.Ytdpogmibahaklaa
open Go.RowKit

/-- Is it 1? -/
def isO (x : C) : Bool := (Ieee.single.order x.1 1065353216 == some .eq) && (Ieee.single.order x.2 0 == some .eq)

set_option maxRecDepth 100000 in
set_option maxHeartbeats 1000000 in
theorem root_any (a : List C) (A : Option Addr) (n c : Nat) (r : List C) (w : World) (hA : ReadsC w A n a) (hx : SerC a) (h0 : isO (a.getD 0 zero) = true) (h : rootF a = some r) (hr : SerC r) :
    Calls Try.prog 27 #[.slice A n c] w (MadeC w r) := by
  have hl := hA.len
  have hm1 := hx.least
  have hm2 := hx.most
  have hn0 : 0 < n := by omega
  have hn16 : n ≤ 16 := by omega
  obtain ⟨i0, hi, hz0, hz1, hz2⟩ := info_parts Try.info26
  unfold rootF at h
  rw [hl] at h
  clear hl
  go_enter Try.func27, Try.ntmps27
  go_wp2_with fail
  refine Calls.below (isSeries_any a _ _ _ _ hA hx) ?_
  intro w1 hb1
  have hbb := hb1.size
  have hA1 := hA.below hb1
  obtain ⟨ad, rfl, hc⟩ := hA1.cells (by omega)
  have c0 := hc 0 hn0
  rw [Addr.add_zero'] at c0
  clear hc hA1
  obtain ⟨o1, o2⟩ : FloatKind.f32.format.order (a.getD 0 zero).1 1065353216 = some Ordering.eq ∧ FloatKind.f32.format.order (a.getD 0 zero).2 0 = some Ordering.eq := by
    have h00 : (FloatKind.f32.format.order (a.getD 0 zero).1 1065353216 == some Ordering.eq && FloatKind.f32.format.order (a.getD 0 zero).2 0 == some Ordering.eq) = true := h0
    simpa using h00
  generalize ha0 : a.getD 0 zero = a0 at c0 h0 o1 o2
  unfold cv at c0
  go_wp2_with (at_make; refine wpList_make_full _ rfl (.tmp 16) (.tmp 16) 24 rfl w.heap.size 26 i0 _ 1 Try.underlying24 hi hz0 hz1 .i64 .i64 _ _ n rfl rfl rfl rfl ?m1 ?m2 ?m3 ?_)
  case m1 => rw [hz2]; omega
  case m2 => unfold maxLen; omega
  case m3 => exact hbb
  intro w2 hown hgrow
  have hR := rowC_of_made hown hbb
  have hb2 : Below w.heap.size w w2 := hb1.grown hgrow hbb (by intro k hk; cases hk)
  clear hown hgrow hb1 c0
  generalize w1.heap.size = g at *
  have hf := hR.frozen 0
  have hg0 : ∃ v, w2.cell? ⟨g, 0, none⟩ = some v := by
    obtain ⟨ad', e', hc'⟩ := hR.reads.cells (by omega)
    cases e'
    exact ⟨_, hc' 0 hn0⟩
  obtain ⟨v0, hg0⟩ := hg0
  have hn1 : (0 : Int) < (n : Int) := by omega
  have hR3 : RowC (w2.setCell ⟨g, 0, none⟩ (.complex .f32 1065353216 0)) w.heap.size g n n ((List.replicate n zero).set 0 one) := hR.stored 0 one
  have hb3 : Below w.heap.size w (w2.setCell ⟨g, 0, none⟩ (.complex .f32 1065353216 0)) := hb2.setCell hbb _
  go_wp2_with fail
  clear hf hg0 hR hb2
  generalize w2.setCell ⟨g, 0, none⟩ (.complex .f32 1065353216 0) = w3 at *
  go_loopw [5] (fun i wr => ∃ (j : Nat) (out : List C), 1 ≤ j ∧ j ≤ n ∧ i = .int .i64 (j : Int) ∧ stepsF (fun k out => (mixF out out k (k - 1) 1).bind fun s => (minusF (a.getD k zero) s).bind fun d => (scaleF d 1056964608).bind fun c => some (out.set k c)) (n - j) j out = some r ∧ RowC wr w.heap.size g n n out ∧ Below w.heap.size w wr) (fun i _ => n - (intOf i).toNat)
  case atStart => exact ⟨1, _, by omega, by omega, rfl, h, hR3, hb3⟩
  case round =>
    clear hR3 hb3 h o1 o2
    obtain ⟨j, out, hj1, hj2, rfl, hrec, hR, hb⟩ := hrel
    by_cases hlt : j < n
    · have e1 : (j : Int) < (n : Int) := by omega
      rw [show n - j = (n - (j + 1)) + 1 by omega] at hrec
      obtain ⟨out', hst, hrec⟩ := stepsF_succ hrec
      simp only [Option.bind_eq_some_iff] at hst
      obtain ⟨s, hs, d, hd, t, ht, hout⟩ := hst
      cases hout
      have hAr := hA.below hb
      obtain ⟨ad', e', hc⟩ := hAr.cells (by omega)
      cases e'
      have c1 := hc j (by omega)
      clear hc
      generalize a.getD j zero = y at c1 hd
      unfold cv at c1
      have hf := hR.frozen j
      have hg0 : ∃ v, wr.cell? ⟨g, j, none⟩ = some v := by
        obtain ⟨ad', e', hc'⟩ := hR.reads.cells (by omega)
        cases e'
        have := hc' j hlt
        rw [Addr.add_lit, Nat.zero_add] at this
        exact ⟨_, this⟩
      obtain ⟨v0, hg0⟩ := hg0
      have hmix : ∀ wx, Drawn wr wx → Calls Try.prog 90 #[.slice (some ⟨g, 0, none⟩) n n, .slice (some ⟨g, 0, none⟩) n n, .int .i64 (j : Int), .int .i64 1, .int .i64 ((j : Int) - 1)] wx fun e w' => e = .returned (cv s) ∧ Drawn wx w' :=
        fun wx hd => mixed_any out out _ _ n n n n j 1 (j - 1) _ _ _ s wx (hR.reads.drawn hd) (hR.reads.drawn hd) rfl rfl (by omega) (by omega) (by omega) (by omega) hs (by omega)
      have hw : IntKind.i64.wrap ((j : Int) - 1) = (j : Int) - 1 := IntWalk.i64_in _ (by omega)
      have Hmix := Lib.hid hmix
      clear hmix
      go_wp2_with fail
      go_region_with (first
        | (go_at_call 90; refine Calls.drawn (Hmix.out _ (Drawn.one _)) ?_; rintro w4 hD; have c1' := (Drawn.cell ((Drawn.one _).trans hD) (ad.add j)).trans c1; have hg1' := (Drawn.cell ((Drawn.one _).trans hD) ⟨g, j, none⟩).trans hg0; have hf' := (Drawn.frozen ((Drawn.one _).trans hD) ⟨g, j, none⟩).trans hf)
        | (go_at_call 85; refine Calls.same (minus_any y s d _ hd) ?_)
        | (go_at_call 108; refine Calls.same (scale_any d _ t _ ht) ?_; unfold cv))
      all_goals
        have hD2 : Drawn wr w4 := (Drawn.one _).trans hD
        have hR4 : RowC (w4.setCell ⟨g, j, none⟩ (.complex .f32 t.1 t.2)) w.heap.size g n n (out.set j t) := (hR.below (hD2.below _)).stored j t
        have hb4 : Below w.heap.size w (w4.setCell ⟨g, j, none⟩ (.complex .f32 t.1 t.2)) := (hb.trans (hD2.below _)).setCell hR.base _
        clear c1' hg1' hf' c1 hg0 hf hD hD2 hw
        go_wp2
        go_roundw
        case rel => exact ⟨j + 1, _, by omega, by omega, by go_num, hrec, hR4, hb4⟩
        case measure => simp [intOf]; omega
    · have e1 : ¬ (j : Int) < (n : Int) := by omega
      obtain rfl : j = n := by omega
      rw [Nat.sub_self] at hrec
      obtain rfl := stepsF_zero hrec
      go_wp2_with fail
      refine Calls.below (checkedSeries_any out _ _ _ _ hR.reads hr) ?_
      rintro w5 hb5
      go_wp2
      go_ret2
      exact ⟨some ⟨g, 0, none⟩, _, (by rw [hR.len]; rfl), by rw [hR.len]; exact (hR.below hb5).toOwn, below_seq hb hb5⟩
end Go.Proofs.Ytdpogmibahaklaa
