/- The program's TurnSeries returns what the plain function of bits says. -/
import Derived.Test.YtdpogmibahaklaaW7
set_option linter.unusedVariables false
set_option linter.unusedSimpArgs false
namespace Go.Proofs.Ytdpogmibahaklaa
open Go.RowKit

/-- Something holds at each step of the turning, and the steps' series are lawful. -/
def TurnI (a : List C) (n : Nat) : Prop :=
  ∃ I : Nat → List C → Prop, (∀ q, quotF one (a.getD 1 zero) = some q → I 2 ((List.replicate n zero).set 1 q)) ∧
    (∀ j out out', 2 ≤ j → j < n → I j out → turnStepF a j out = some out' → I (j + 1) out') ∧
    (∀ j out, 2 ≤ j → j ≤ n → I j out → SerC out ∧ isZ (out.getD 0 zero) = true ∧ ∀ m, composeF a out = some m → SerC m)

set_option maxRecDepth 100000 in
set_option maxHeartbeats 1000000 in
theorem turn_any (a : List C) (A : Option Addr) (n c : Nat) (r : List C) (w : World) (hA : ReadsC w A n a) (hx : SerC a) (h2n : 2 ≤ n) (h0 : isZ (a.getD 0 zero) = true) (h1 : isZ (a.getD 1 zero) = false) (h : turnF a = some r)
    (hout : TurnI a n) (hr : SerC r) :
    Calls Try.prog 33 #[.slice A n c] w (MadeC w r) := by
  have hl := hA.len
  have hm2 := hx.most
  have hn0 : 0 < n := by omega
  have hn16 : n ≤ 16 := by omega
  obtain ⟨i0, hi, hz0, hz1, hz2⟩ := info_parts Try.info26
  simp only [turnF, Option.bind_eq_some_iff] at h
  obtain ⟨q, hq, h⟩ := h
  rw [hl] at h
  clear hl
  obtain ⟨o1, o2⟩ : FloatKind.f32.format.order (a.getD 0 zero).1 0 = some Ordering.eq ∧ FloatKind.f32.format.order (a.getD 0 zero).2 0 = some Ordering.eq := by
    have h00 : (FloatKind.f32.format.order (a.getD 0 zero).1 0 == some Ordering.eq && FloatKind.f32.format.order (a.getD 0 zero).2 0 == some Ordering.eq) = true := h0
    simpa using h00
  have e0 : (FloatKind.f32.format.order (a.getD 1 zero).1 0 == some Ordering.eq && FloatKind.f32.format.order (a.getD 1 zero).2 0 == some Ordering.eq) = false := h1
  obtain ⟨I, hI0, hI1, hout⟩ := hout
  have HI0 := hI0 q hq
  have Hstep := Lib.hid hI1
  have Hout := Lib.hid hout
  clear hout h0 h1 hI0 hI1
  go_enter Try.func33, Try.ntmps33
  go_wp2_with fail
  refine Calls.below (isSeries_any a _ _ _ _ hA hx) ?_
  intro w1 hb1
  have hbb := hb1.size
  have hA1 := hA.below hb1
  obtain ⟨ad, rfl, hc⟩ := hA1.cells (by omega)
  have c0 := hc 0 hn0
  rw [Addr.add_zero'] at c0
  have c1 := hc 1 (by omega)
  rw [show (1 : Nat) = 0 + 1 from rfl, Addr.add_succ', Nat.zero_add] at c1
  clear hc
  have hn1 : (0 : Int) < (n : Int) := by omega
  have hn2 : (1 : Int) < (n : Int) := by omega
  have hn3 : (2 : Int) ≤ (n : Int) := by omega
  generalize ha0 : a.getD 0 zero = a0 at c0 o1 o2
  have Ha0 := Lib.hid ha0
  clear ha0
  generalize ha1 : a.getD 1 zero = a1 at c1 e0 hq
  have Ha1 := Lib.hid ha1
  clear ha1
  unfold cv at c0 c1
  go_wp2_with (at_make; refine wpList_make_full _ rfl (.tmp 29) (.tmp 29) 24 rfl w.heap.size 26 i0 _ 1 Try.underlying24 hi hz0 hz1 .i64 .i64 _ _ n rfl rfl rfl rfl ?m1 ?m2 ?m3 ?_)
  case m1 => rw [hz2]; omega
  case m2 => unfold maxLen; omega
  case m3 => exact hbb
  intro w2 hown hgrow
  have hR := rowC_of_made hown hbb
  have hb2 : Below w.heap.size w w2 := hb1.grown hgrow hbb (by intro k hk; cases hk)
  have hb12 : Below w1.heap.size w1 w2 := ⟨hgrow.os, hgrow.tape, hgrow.output, hgrow.size, fun i hi => hgrow.block i hi (by simp)⟩
  have c2 := cell_below hb12 c1
  clear hown hgrow hb1 c0 c1 hb12 hA1
  generalize w1.heap.size = g at *
  have hf := hR.frozen 1
  have hg0 : ∃ v, w2.cell? ⟨g, 1, none⟩ = some v := by
    obtain ⟨ad', e', hc'⟩ := hR.reads.cells (by omega)
    cases e'
    have := hc' 1 (by omega)
    rw [Addr.add_lit, Nat.zero_add] at this
    exact ⟨_, this⟩
  obtain ⟨v0, hg0⟩ := hg0
  go_wp2_with fail
  refine Calls.same (quot_any one a1 q _ hq) ?_
  unfold cv
  have hR3 : RowC (w2.setCell ⟨g, 1, none⟩ (.complex .f32 q.1 q.2)) w.heap.size g n n ((List.replicate n zero).set 1 q) := hR.stored 1 q
  have hb3 : Below w.heap.size w (w2.setCell ⟨g, 1, none⟩ (.complex .f32 q.1 q.2)) := hb2.setCell hbb _
  go_wp2_with fail
  clear hf hg0 hR hb2 c2 o1 o2 e0
  generalize w2.setCell ⟨g, 1, none⟩ (.complex .f32 q.1 q.2) = w3 at *
  go_loopw [5] (fun i wr => ∃ (j : Nat) (out : List C), 2 ≤ j ∧ j ≤ n ∧ i = .int .i64 (j : Int) ∧ stepsF (turnStepF a) (n - j) j out = some r ∧ I j out ∧ RowC wr w.heap.size g n n out ∧ Below w.heap.size w wr) (fun i _ => n - (intOf i).toNat)
  case atStart => exact ⟨2, _, by omega, by omega, rfl, h, HI0, hR3, hb3⟩
  case round =>
    clear hR3 hb3 h HI0
    obtain ⟨j, out, hj1, hj2, rfl, hrec, hI, hR, hb⟩ := hrel
    by_cases hlt : j < n
    · have e1 : (j : Int) < (n : Int) := by omega
      obtain ⟨so, zo, hm0⟩ := Hout.out j out hj1 hj2 hI
      rw [show n - j = (n - (j + 1)) + 1 by omega] at hrec
      obtain ⟨out', hst, hrec⟩ := stepsF_succ hrec
      have hI' := Hstep.out j out out' hj1 hlt hI hst
      clear hI
      simp only [turnStepF, Option.bind_eq_some_iff] at hst
      obtain ⟨m, hm, d, hd, q', hq', hout⟩ := hst
      cases hout
      have sm := hm0 m hm
      clear hm0
      have hml := composeF_len hm
      rw [hA.len] at hml
      have Hml := Lib.hid hml
      clear hml
      rw [Ha1.out] at hq'
      have hAr := hA.below hb
      go_wp2_with fail
      refine (compose_any a out _ _ n c n m _ hAr hR.reads hx so zo hm sm).mono ?_
      rintro e w4 ⟨A4, c4, rfl, hO4, hb4⟩
      rw [Hml.out] at hO4 ⊢
      have hR4 := hO4.reads Hml.out
      have hRo := hR.below hb4
      have hb5 := below_then hb hb4 hb.size
      clear hO4
      obtain ⟨md, rfl, hc⟩ := hR4.cells (by omega)
      have c1 := hc j hlt
      clear hc
      obtain ⟨ad', e', hc⟩ := (hAr.below hb4).cells (by omega)
      cases e'
      have c2 := hc 1 (by omega)
      rw [show (1 : Nat) = 0 + 1 from rfl, Addr.add_succ', Nat.zero_add] at c2
      clear hc
      have ha1 : a.getD (0 + 1) zero = a1 := Ha1.out
      rw [ha1] at c2
      clear ha1
      generalize m.getD j zero = y at c1 hd
      unfold cv at c1 c2
      have hf := hRo.frozen j
      have hg0 : ∃ v, w4.cell? ⟨g, j, none⟩ = some v := by
        obtain ⟨ad', e', hc'⟩ := hRo.reads.cells (by omega)
        cases e'
        have := hc' j hlt
        rw [Addr.add_lit, Nat.zero_add] at this
        exact ⟨_, this⟩
      obtain ⟨v0, hg0⟩ := hg0
      go_wp2_with fail
      go_region_with (first
        | (go_at_call 85; refine Calls.same (minus_any zero y d _ hd) ?_)
        | (go_at_call 87; refine Calls.same (quot_any d a1 q' _ hq') ?_; unfold cv))
      all_goals
        have hR9 : RowC (w4.setCell ⟨g, j, none⟩ (.complex .f32 q'.1 q'.2)).drew w.heap.size g n n (out.set j q') := (hRo.stored j q').drew
        have hb9 : Below w.heap.size w (w4.setCell ⟨g, j, none⟩ (.complex .f32 q'.1 q'.2)).drew := below_drew (hb5.setCell hR.base _)
        clear c1 c2 hg0 hf
        go_wp2
        go_roundw
        case rel => exact ⟨j + 1, _, by omega, by omega, by go_num, hrec, hI', hR9, hb9⟩
        case measure => simp [intOf]; omega
    · have e1 : ¬ (j : Int) < (n : Int) := by omega
      obtain rfl : j = n := by omega
      rw [Nat.sub_self] at hrec
      obtain rfl := stepsF_zero hrec
      go_wp2_with fail
      refine Calls.below (checkedSeries_any out _ _ _ _ hR.reads hr) ?_
      rintro w5 hb5
      go_wp2
      go_ret2
      exact ⟨some ⟨g, 0, none⟩, _, (by rw [hR.len]; rfl), by rw [hR.len]; exact (hR.below hb5).toOwn, below_seq hb hb5⟩
end Go.Proofs.Ytdpogmibahaklaa
