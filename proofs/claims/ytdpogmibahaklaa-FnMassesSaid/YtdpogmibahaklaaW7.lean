/- The program's composition of series returns what the plain function of bits says. -/
import Derived.Test.YtdpogmibahaklaaW5
set_option linter.unusedVariables false
set_option linter.unusedSimpArgs false
namespace Go.Proofs.Ytdpogmibahaklaa
open Go.RowKit

theorem OwnC.row {w : World} {B n c : Nat} {A : Option Addr} {xs : List C} (h : OwnC w B (.slice A n c) xs) (hn : 0 < xs.length) : ∃ g, A = some ⟨g, 0, none⟩ ∧ n = xs.length ∧ RowC w B g n c xs := by
  obtain ⟨g, cap, hv, hB, _, _⟩ := h.form hn
  cases hv
  exact ⟨g, rfl, rfl, rfl, hB, h.out⟩

theorem RowC.drew {w : World} {B g n c : Nat} {xs : List C} (h : RowC w B g n c xs) : RowC w.drew B g n c xs := ⟨h.len, h.base, h.own.drew⟩
theorem OwnC.reads {w : World} {B n c : Nat} {A : Option Addr} {xs : List C} (h : OwnC w B (.slice A n c) xs) (hl : xs.length = n) : ReadsC w A n xs := by
  subst hl
  obtain ⟨A', c', hv, hr⟩ := h.slice
  cases hv
  exact hr

set_option maxRecDepth 100000 in
set_option maxHeartbeats 1000000 in
theorem compose_in_any (a b : List C) (A B : Option Addr) (n c d : Nat) (r : List C) (w : World) (hA : ReadsC w A n a) (hB : ReadsC w B n b) (hn0 : 0 < n) (hn16 : n ≤ 16) (h : composeF a b = some r) :
    Calls Try.prog 110 #[.slice A n c, .slice B n d] w fun e w' => ∃ A c, e = .returned (.slice A r.length c) ∧ OwnC w' w.heap.size (.slice A r.length c) r ∧ Below w.heap.size w w' := by
  have hl := hA.len
  obtain ⟨i0, hi, hz0, hz1, hz2⟩ := info_parts Try.info26
  unfold composeF at h
  rw [hl] at h
  clear hl
  obtain ⟨ad, rfl, hc⟩ := hA.cells (by omega)
  have c0 := hc (n - 1) (by omega)
  clear hc
  go_enter Try.func110, Try.ntmps110
  go_wp2_with (at_make; refine wpList_make_full _ rfl (.tmp 10) (.tmp 10) 24 rfl w.heap.size 26 i0 _ 1 Try.underlying24 hi hz0 hz1 .i64 .i64 _ _ n rfl rfl rfl rfl ?m1 ?m2 ?m3 ?_)
  case m1 => rw [hz2]; omega
  case m2 => unfold maxLen; omega
  case m3 => exact Nat.le_refl _
  intro w2 hown hgrow
  have hR := rowC_of_made hown (Nat.le_refl _)
  have hb2 : Below w.heap.size w w2 := (Below.refl _ _).grown hgrow (Nat.le_refl _) (by intro k hk; cases hk)
  have c1 : w2.cell? (ad.add (n - 1)) = some (cv (a.getD (n - 1) zero)) := cell_below hb2 c0
  clear hown hgrow c0
  have hg : w.heap.size ≤ w.heap.size := Nat.le_refl _
  generalize hgd : w.heap.size = g at hR
  have Hgd := Lib.hid hgd
  clear hgd
  have hf := hR.frozen 0
  have hg0 : ∃ v, w2.cell? ⟨g, 0, none⟩ = some v := by
    obtain ⟨ad', e', hc'⟩ := hR.reads.cells (by omega)
    cases e'
    exact ⟨_, hc' 0 hn0⟩
  obtain ⟨v0, hg0⟩ := hg0
  have hn1 : (0 : Int) < (n : Int) := by omega
  have hn2 : (0 : Int) ≤ (n : Int) - 1 := by omega
  have hn3 : (n : Int) - 1 < (n : Int) := by omega
  generalize a.getD (n - 1) zero = an at c1 h
  unfold cv at c1
  go_wp2_with fail
  have hR3 : RowC (w2.setCell ⟨g, 0, none⟩ (.complex .f32 an.1 an.2)) g g n n ((List.replicate n zero).set 0 an) := hR.stored 0 an
  have hb3 : Below w.heap.size w (w2.setCell ⟨g, 0, none⟩ (.complex .f32 an.1 an.2)) := hb2.setCell (by show w.heap.size ≤ g; rw [Hgd.out]; exact Nat.le_refl _) _
  clear hf hg0 hR hb2 c1
  generalize w2.setCell ⟨g, 0, none⟩ (.complex .f32 an.1 an.2) = w3 at *
  have hO3 := hR3.toOwn
  have hl3 := hR3.len
  clear hR3
  generalize (List.replicate n zero).set 0 an = out0 at *
  go_loopw [6, 7] (fun v i wr => ∃ (R : Nat) (x : Int) (A6 : Option Addr) (c6 : Nat) (out : List C), R ≤ n - 1 ∧ i = .int .i64 x ∧ x = (R : Int) - 1 ∧ v = .slice A6 n c6 ∧ out.length = n ∧
      stepsF (fun j out => (mulSF out b n).bind fun m => (plusF (m.getD 0 zero) (a.getD (n - 2 - j) zero)).bind fun c => some (m.set 0 c)) R (n - 1 - R) out = some r ∧ OwnC wr g (.slice A6 n c6) out ∧ Below w.heap.size w wr) (fun _ i _ => (intOf i + 1).toNat)
  case atStart => exact ⟨n - 1, (n : Int) - 2, _, _, out0, by omega, rfl, by omega, rfl, hl3, by rw [Nat.sub_self]; exact h, hO3, hb3⟩
  case round =>
    clear hO3 hb3 h hl3
    obtain ⟨R, x, A6, c6, out, hR1, rfl, hx, rfl, hlen, hrec, hO, hb⟩ := hrel
    by_cases hlt : 0 < R
    · obtain ⟨R', rfl⟩ : ∃ R', R = R' + 1 := ⟨R - 1, by omega⟩
      obtain rfl : x = (R' : Int) := by omega
      clear hx
      obtain ⟨out', hst, hrec⟩ := stepsF_succ hrec
      simp only [Option.bind_eq_some_iff] at hst
      obtain ⟨m, hm, s, hs, hout⟩ := hst
      cases hout
      have hml := mulSF_len hm
      rw [show n - 2 - (n - 1 - (R' + 1)) = R' by omega] at hs
      rw [show n - 1 - (R' + 1) + 1 = n - 1 - R' by omega] at hrec
      have hRd := hO.reads hlen
      have hAr := hA.below hb
      have hBr := hB.below hb
      have Hlen := Lib.hid hlen
      have Hml := Lib.hid hml
      clear hlen hml
      have e1 : (0 : Int) ≤ (R' : Int) := by omega
      go_wp2_with fail
      refine (mulS_any out b A6 B n c6 d m _ hRd hBr hn16 hm).mono ?_
      rintro e w4 ⟨A8, c8, rfl, hO4, hb4⟩
      obtain ⟨g8, rfl, _, hRow⟩ := hO4.row (by rw [Hml.out]; exact hn0)
      rw [Hml.out] at hRow
      rw [Hml.out]
      have hb5 := below_then hb hb4 hb.size
      have hg8 : g ≤ g8 := Nat.le_trans (by rw [← Hgd.out]; exact hb.size) hRow.base
      clear hO4
      obtain ⟨ad', e', hc⟩ := (hAr.below hb4).cells (by omega)
      cases e'
      have c1 := hc R' (by omega)
      clear hc
      obtain ⟨ad', e', hc⟩ := hRow.reads.cells (by omega)
      cases e'
      have c2 := hc 0 hn0
      clear hc
      rw [Addr.add_zero'] at c2
      generalize a.getD R' zero = y at c1 hs
      generalize m.getD 0 zero = m0 at c2 hs
      unfold cv at c1 c2
      have hf := hRow.frozen 0
      have hn4 : (R' : Int) < (n : Int) := by omega
      go_wp2_with fail
      go_region_with (go_at_call 103; refine Calls.same (plus_any m0 y s _ hs) ?_; unfold cv)
      all_goals
        have hR9 : RowC (w4.setCell ⟨g8, 0, none⟩ (.complex .f32 s.1 s.2)).drew wr.heap.size g8 n c8 (m.set 0 s) := (hRow.stored 0 s).drew
        have hb9 : Below w.heap.size w (w4.setCell ⟨g8, 0, none⟩ (.complex .f32 s.1 s.2)).drew := below_drew (hb5.setCell (by show w.heap.size ≤ g8; rw [Hgd.out]; exact hg8) _)
        have hO9 := hR9.toOwn.mono (show g ≤ wr.heap.size by rw [← Hgd.out]; exact hb.size)
        have hl9 := hR9.len
        clear hR9 hRow c1 c2 hf
        go_wp2
        go_roundw
        case rel => exact ⟨R', (R' : Int) - 1, _, _, m.set 0 s, by omega, rfl, rfl, rfl, hl9, hrec, hO9, hb9⟩
        case measure => simp [intOf]
    · have e1 : ¬ (0 : Int) ≤ x := by omega
      obtain rfl : R = 0 := by omega
      obtain rfl := stepsF_zero hrec
      have Hlen := Lib.hid hlen
      clear hlen
      go_wp2
      go_ret
      refine ⟨A6, c6, by rw [Hlen.out]; rfl, ?_, hb⟩
      rw [Hlen.out]
      exact hO.mono (by rw [Hgd.out]; exact Nat.le_refl _)

set_option maxRecDepth 100000 in
set_option maxHeartbeats 400000 in
theorem compose_any (a b : List C) (A B : Option Addr) (n c d : Nat) (r : List C) (w : World) (hA : ReadsC w A n a) (hB : ReadsC w B n b) (ha : SerC a) (hb : SerC b) (h0 : isZ (b.getD 0 zero) = true) (h : composeF a b = some r) (hr : SerC r) :
    Calls Try.prog 34 #[.slice A n c, .slice B n d] w (MadeC w r) := by
  have hn0 : 0 < n := by have := hA.len; have := ha.least; omega
  have hn16 : n ≤ 16 := by have := hA.len; have := ha.most; omega
  obtain ⟨o1, o2⟩ : FloatKind.f32.format.order (b.getD 0 zero).1 0 = some Ordering.eq ∧ FloatKind.f32.format.order (b.getD 0 zero).2 0 = some Ordering.eq := by
    have h00 : (FloatKind.f32.format.order (b.getD 0 zero).1 0 == some Ordering.eq && FloatKind.f32.format.order (b.getD 0 zero).2 0 == some Ordering.eq) = true := h0
    simpa using h00
  go_enter Try.func34, Try.ntmps34
  go_wp2_with fail
  refine Calls.below (areSeries_any a b _ _ _ _ _ _ hA hB ha hb) ?_
  intro w1 hb1
  have hA1 := hA.below hb1
  have hB1 := hB.below hb1
  obtain ⟨bd, rfl, hc⟩ := hB1.cells (by omega)
  have c0 := hc 0 hn0
  rw [Addr.add_zero'] at c0
  clear hc
  have hn1 : (0 : Int) < (n : Int) := by omega
  generalize hb0 : b.getD 0 zero = b0 at c0 o1 o2
  have Hb0 := Lib.hid hb0
  clear hb0
  unfold cv at c0
  go_wp2_with fail
  refine (compose_in_any a b A _ n c d r _ hA1 hB1 hn0 hn16 h).mono ?_
  rintro e w2 ⟨A', c', rfl, hO, hb2⟩
  have hRd := hO.reads rfl
  go_wp2_with fail
  refine Calls.below (checkedSeries_any r _ _ _ _ hRd hr) ?_
  intro w3 hb3
  go_wp2
  go_ret2
  exact made_of_own ((hO.mono hb1.size).below hb3) rfl (below_seq (below_seq hb1 hb2) hb3)
end Go.Proofs.Ytdpogmibahaklaa
