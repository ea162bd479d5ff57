/- The program's logarithms and powers of series return what the plain functions of bits say. -/
import Derived.Test.YtdpogmibahaklaaW5
set_option linter.unusedVariables false
set_option linter.unusedSimpArgs false
namespace Go.Proofs.Ytdpogmibahaklaa
open Go.RowKit

/-- What LogSeries comes to, step by step. -/
structure LogC (a r : List C) (sl iv q : List C) : Prop where
  ser : SerC a
  one : isO (a.getD 0 zero) = true
  nz : isZ (a.getD 0 zero) = false
  hsl : slopeF a = some sl
  ssl : SerC sl
  hiv : invF a = some iv
  siv : SerC iv
  hq : mulSF sl iv a.length = some q
  sq : SerC q
  hr : riseF q = some r
  sr : SerC r

set_option maxRecDepth 100000 in
set_option maxHeartbeats 400000 in
theorem log_any (a : List C) (A : Option Addr) (n c : Nat) (r sl iv q : List C) (w : World) (hA : ReadsC w A n a) (h : LogC a r sl iv q) :
    Calls Try.prog 26 #[.slice A n c] w (MadeC w r) := by
  have hl := hA.len
  have hn0 : 0 < n := by have := h.ser.least; omega
  have l1 : sl.length = n := by rw [slopeF_len h.hsl, hl]
  have l2 : iv.length = n := by rw [invF_len h.hiv, hl]
  have hq := h.hq
  rw [hl] at hq
  have l3 : q.length = n := mulSF_len hq
  have L1 := Lib.hid l1
  have L2 := Lib.hid l2
  have L3 := Lib.hid l3
  clear hl l1 l2 l3
  obtain ⟨o1, o2⟩ : FloatKind.f32.format.order (a.getD 0 zero).1 1065353216 = some Ordering.eq ∧ FloatKind.f32.format.order (a.getD 0 zero).2 0 = some Ordering.eq := by
    have h00 : (FloatKind.f32.format.order (a.getD 0 zero).1 1065353216 == some Ordering.eq && FloatKind.f32.format.order (a.getD 0 zero).2 0 == some Ordering.eq) = true := h.one
    simpa using h00
  go_enter Try.func26, Try.ntmps26
  go_wp2_with fail
  refine Calls.below (isSeries_any a _ _ _ _ hA h.ser) ?_
  intro w1 hb1
  have hA1 := hA.below hb1
  obtain ⟨ad, rfl, hc⟩ := hA1.cells (by omega)
  have c0 := hc 0 hn0
  rw [Addr.add_zero'] at c0
  clear hc
  have hn1 : (0 : Int) < (n : Int) := by omega
  generalize ha0 : a.getD 0 zero = a0 at c0 o1 o2
  have Ha0 := Lib.hid ha0
  clear ha0
  unfold cv at c0
  go_wp2_with fail
  refine (slope_any a _ n c sl _ hA1 h.ser h.hsl h.ssl).mono ?_
  rintro e w2 ⟨A2, c2, rfl, hO2, hb2⟩
  obtain ⟨A2', c2', hv, hR2⟩ := hO2.slice
  cases hv
  rw [L1.out] at hR2 ⊢
  go_wp2_with fail
  refine (div_series_any sl a A2 _ n c2 c iv q _ hR2 (hA1.below hb2) h.ssl h.ser h.nz h.hiv L2.out h.siv hq h.sq).mono ?_
  rintro e w3 ⟨A3, c3, rfl, hO3, hb3⟩
  obtain ⟨A3', c3', hv, hR3⟩ := hO3.slice
  cases hv
  go_wp2_with fail
  refine (rise_any q A3 _ c3 r _ hR3 h.sq h.hr h.sr).mono ?_
  rintro e w4 ⟨A4, c4, rfl, hO4, hb4⟩
  go_wp2
  go_ret2
  exact made_of_own (hO4.mono (Nat.le_trans hb1.size (Nat.le_trans hb2.size hb3.size))) rfl (below_seq (below_seq (below_seq hb1 hb2) hb3) hb4)

theorem reads_one (w : World) (x : C) : ReadsC (w.alloc (Obj.cells #[Value.complex .f32 x.1 x.2] 26)) (some ⟨w.heap.size, 0, none⟩) 1 [x] :=
  ⟨rfl, by omega, fun _ => ⟨_, rfl, fun j hj => by
    obtain rfl : j = 0 := by omega
    exact cell_one_new w _ _ 0 _ rfl⟩⟩

set_option maxRecDepth 100000 in
set_option maxHeartbeats 400000 in
theorem power_series_any (a : List C) (A : Option Addr) (n c : Nat) (p : C) (r l sl iv q t : List C) (w : World) (hA : ReadsC w A n a) (h : LogC a l sl iv q) (hp : FinC p)
    (ht : timesAllF p l = some t) (st : SerC t) (hz : isZ (t.getD 0 zero) = true) (hr : expF t = some r) (sr : SerC r) :
    Calls Try.prog 31 #[.slice A n c, cv p] w (MadeC w r) := by
  obtain ⟨i0, hi, hz0, hz1, hz2⟩ := info_parts Try.info26
  have hlm := h.sr.most
  have hll := timesAllF_len ht
  unfold timesAllF at ht
  go_enter Try.func31, Try.ntmps31
  go_wp2_with fail
  refine (log_any a A n c l sl iv q _ hA h).mono ?_
  rintro e w1 ⟨A1, c1, rfl, hO1, hb1⟩
  obtain ⟨A1', c1', hv, hR1⟩ := hO1.slice
  cases hv
  unfold cv
  go_wp2_with fail
  refine Calls.below (allFinite_any [p] _ _ _ _ (reads_one w1 p) (by simpa using hp)) ?_
  intro w2 hb2
  have hb2' : Below w1.heap.size w1 w2 := ((Below.refl _ _).alloc (Nat.le_refl _) _).trans (hb2.mono (by simp))
  clear hb2
  have hR2 := hR1.below hb2'
  have hb3 := below_seq hb1 hb2'
  clear hR1 hO1 hb1 hb2'
  generalize hm : l.length = m at *
  have Hm := Lib.hid hm
  have Hll := Lib.hid hll
  clear hm hll
  go_wp2_with fail
  have hO : OwnC (w2.alloc (Obj.cells #[] 26)) w2.heap.size (.slice (some ⟨w2.heap.size, 0, none⟩) 0 0) [] := ⟨World.ownsRow_lit w2 #[] 0 (Nat.le_refl _) (by unfold maxLen; omega) rfl⟩
  have hb0 : Below w2.heap.size w2 (w2.alloc (Obj.cells #[] 26)) := (Below.refl _ _).alloc (Nat.le_refl _) _
  generalize w2.alloc (Obj.cells #[] 26) = w3 at *
  go_loopw [8, 10, 27] (fun v _ i wr => ∃ (j : Nat) (out : List C), j ≤ m ∧ out.length = j ∧ i = .int .i64 (j : Int) ∧ stepsF (fun k out => (mulF p (l.getD k zero)).bind fun c => some (out ++ [c])) (m - j) j out = some t ∧ OwnC wr w2.heap.size v out ∧ Below w2.heap.size w2 wr) (fun _ _ i _ => m - (intOf i).toNat)
  case atStart => exact ⟨0, [], by omega, rfl, rfl, ht, hO, hb0⟩
  case round =>
    clear hO hb0 ht
    obtain ⟨j, out, hj, hlen, rfl, hrec, hO, hb⟩ := hrel
    by_cases hlt : j < m
    · have e1 : (j : Int) < (m : Int) := by omega
      rw [show m - j = (m - (j + 1)) + 1 by omega] at hrec
      obtain ⟨out', hst, hrec⟩ := stepsF_succ hrec
      simp only [Option.bind_eq_some_iff] at hst
      obtain ⟨s, hs, hout⟩ := hst
      cases hout
      obtain ⟨ad, rfl, hc⟩ := (hR2.below hb).cells (by omega)
      have c0 := hc j hlt
      clear hc
      generalize l.getD j zero = y at c0 hs
      unfold cv at c0
      have Hlen := Lib.hid hlen
      clear hlen
      go_wp2_with fail
      refine Calls.same (mul_any p y s _ hs) ?_
      unfold cv
      go_wp2_with (at_builtin; refine wpList_append_own _ rfl (.tmp 31) (.tmp 35) 24 rfl w2.heap.size 26 i0 _ 1 8 Try.underlying24 hi hz0 hz1 hz2 rfl (by decide) _ out.length (out.map cv) rfl (hO.out.alloc _) ⟨wr.heap.size, 0, none⟩ 1 1 [cv s] rfl rfl ?c1 ?c2 ?c3 ?c4 ?c5 ?_)
      case c1 => exact cell_one_new _ _ _
      case c2 => intro u hu; simp at hu; subst hu; rfl
      case c3 => have := Hlen.out; have := Hm.out; unfold maxLen; omega
      case c4 => have := Hlen.out; have := Hm.out; omega
      case c5 => have := hb.size; simp; omega
      intro v' w5 hown hgrow _
      have hO5 := OwnC.appended hown
      have hb5 := hO.grown hb (by have := hb.size; omega) _ hgrow
      have hl5 : (out ++ [s]).length = j + 1 := by rw [List.length_append, Hlen.out]; rfl
      clear hown hgrow
      go_wp2
      go_roundw
      case rel => exact ⟨j + 1, out ++ [s], by omega, hl5, by go_num, hrec, hO5, hb5⟩
      case measure => simp [intOf]; omega
    · have e1 : ¬ (j : Int) < (m : Int) := by omega
      obtain rfl : j = m := by omega
      rw [Nat.sub_self] at hrec
      obtain rfl := stepsF_zero hrec
      obtain ⟨A', c', hv, hR⟩ := hO.slice
      have Hv := Lib.hid hv
      clear hv hlen
      go_wp2_with fail
      rw [Hv.out]
      refine (exp_any out A' _ c' r _ hR st hz hr sr).mono ?_
      rintro e w6 ⟨A6, c6, rfl, hO6, hb6⟩
      go_wp2
      go_ret2
      have hbr := below_seq hb3 hb
      exact made_of_own (hO6.mono hbr.size) rfl (below_seq hbr hb6)
end Go.Proofs.Ytdpogmibahaklaa
