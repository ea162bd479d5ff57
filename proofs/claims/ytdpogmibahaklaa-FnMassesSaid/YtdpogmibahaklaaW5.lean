/- The program's functions that multiply, divide and take logarithms of series return what the plain functions of bits say. -/
import Derived.Test.YtdpogmibahaklaaW4a
import Derived.Test.YtdpogmibahaklaaW4b
import Derived.Test.YtdpogmibahaklaaW4c
import Derived.Test.YtdpogmibahaklaaW4d
set_option linter.unusedVariables false
set_option linter.unusedSimpArgs false
namespace Go.Proofs.Ytdpogmibahaklaa
open Go.RowKit

theorem OwnC.appended {w : World} {B : Nat} {v : Value} {xs : List C} {x : C} (h : w.ownsRow B 26 1 v (xs.length + 1) (xs.map cv ++ [cv x])) : OwnC w B v (xs ++ [x]) :=
  ⟨by rw [List.length_append, List.map_append]; exact h⟩
theorem OwnC.grown {w w1 : World} {B : Nat} {v : Value} {xs : List C} (h : OwnC w B v xs) {w0 : World} (hb : Below B w0 w) (hB : B ≤ w.heap.size) (o : Obj) (hg : (w.alloc o).grownBy w1 v.ownBlock) : Below B w0 w1 :=
  (hb.alloc hB o).grown hg (by simp; omega) (fun k hk => (h.out.lt k hk).1)

set_option maxRecDepth 100000 in
set_option maxHeartbeats 400000 in
theorem mulS_any (a b : List C) (A B : Option Addr) (n c d : Nat) (r : List C) (w : World) (hA : ReadsC w A n a) (hB : ReadsC w B n b) (hn16 : n ≤ 16) (h : mulSF a b n = some r) :
    Calls Try.prog 107 #[.slice A n c, .slice B n d] w fun e w' => ∃ A c, e = .returned (.slice A r.length c) ∧ OwnC w' w.heap.size (.slice A r.length c) r ∧ Below w.heap.size w w' := by
  obtain ⟨i0, hi, hz0, hz1, hz2⟩ := info_parts Try.info26
  unfold mulSF at h
  go_enter Try.func107, Try.ntmps107
  go_wp2_with fail
  have hO : OwnC (w.alloc (Obj.cells #[] 26)) w.heap.size (.slice (some ⟨w.heap.size, 0, none⟩) 0 0) [] := ⟨World.ownsRow_lit w #[] 0 (Nat.le_refl _) (by unfold maxLen; omega) rfl⟩
  have hb0 : Below w.heap.size w (w.alloc (Obj.cells #[] 26)) := (Below.refl _ _).alloc (Nat.le_refl _) _
  generalize w.alloc (Obj.cells #[] 26) = w0 at *
  go_loopw [5, 6, 10] (fun v _ i wr => ∃ (j : Nat) (out : List C), j ≤ n ∧ out.length = j ∧ i = .int .i64 (j : Int) ∧ stepsF (fun k out => (mixF a b k (k + 1) 0).bind fun c => some (out ++ [c])) (n - j) j out = some r ∧ OwnC wr w.heap.size v out ∧ Below w.heap.size w wr) (fun _ _ i _ => n - (intOf i).toNat)
  case atStart => exact ⟨0, [], by omega, rfl, rfl, h, hO, hb0⟩
  case round =>
    clear hO hb0 h
    obtain ⟨j, out, hj, hlen, rfl, hrec, hO, hb⟩ := hrel
    by_cases hlt : j < n
    · have e1 : (j : Int) < (n : Int) := by omega
      rw [show n - j = (n - (j + 1)) + 1 by omega] at hrec
      obtain ⟨out', hst, hrec⟩ := stepsF_succ hrec
      simp only [Option.bind_eq_some_iff] at hst
      obtain ⟨s, hs, hout⟩ := hst
      cases hout
      have hAr := hA.below hb
      have hBr := hB.below hb
      have Hlen := Lib.hid hlen
      clear hlen
      go_wp2_with fail
      refine Calls.drawn (mixed_any a b _ _ n n c d j 0 (j + 1) _ _ _ s _ hAr hBr rfl rfl (by omega) (by omega) (by omega) (by omega) hs (by omega)) ?_
      intro w4 hD
      have hO4 := hO.below (hD.below _)
      have hb4 := hb.trans (hD.below _)
      unfold cv
      go_wp2_with (at_builtin; refine wpList_append_own _ rfl (.tmp 13) (.tmp 19) 24 rfl w.heap.size 26 i0 _ 1 8 Try.underlying24 hi hz0 hz1 hz2 rfl (by decide) _ out.length (out.map cv) rfl (hO4.out.alloc _) ⟨w4.heap.size, 0, none⟩ 1 1 [cv s] rfl rfl ?c1 ?c2 ?c3 ?c4 ?c5 ?_)
      case c1 => exact cell_one_new _ _ _
      case c2 => intro u hu; simp at hu; subst hu; rfl
      case c3 => have := Hlen.out; unfold maxLen; omega
      case c4 => have := Hlen.out; omega
      case c5 => have := hb4.size; simp; omega
      intro v' w5 hown hgrow _
      have hO5 := OwnC.appended hown
      have hb5 := hO4.grown hb4 (by have := hb4.size; omega) _ hgrow
      have hl5 : (out ++ [s]).length = j + 1 := by rw [List.length_append, Hlen.out]; rfl
      clear hown hgrow
      go_wp2
      go_roundw
      case rel => exact ⟨j + 1, out ++ [s], by omega, hl5, by go_num, hrec, hO5, hb5⟩
      case measure => simp [intOf]; omega
    · have e1 : ¬ (j : Int) < (n : Int) := by omega
      obtain rfl : j = n := by omega
      rw [Nat.sub_self] at hrec
      obtain rfl := stepsF_zero hrec
      obtain ⟨A', c', hv, _⟩ := hO.slice
      have Hv := Lib.hid hv
      clear hv hlen
      go_wp2
      go_ret
      refine ⟨A', c', congrArg Ending.returned Hv.out, ?_, hb⟩
      rw [← Hv.out]
      exact hO

theorem made_of_own {w w1 : World} {A : Option Addr} {n c : Nat} {r : List C} (h : OwnC w1 w.heap.size (.slice A n c) r) (hn : r.length = n) (hb : Below w.heap.size w w1) :
    MadeC w r (.returned (.tuple #[.slice A n c, .bool true])) w1 := by
  subst hn
  exact ⟨A, c, rfl, h, hb⟩

set_option maxRecDepth 100000 in
theorem mul_series_any (a b : List C) (A B : Option Addr) (n c d : Nat) (r : List C) (w : World) (hA : ReadsC w A n a) (hB : ReadsC w B n b) (ha : SerC a) (hb : SerC b) (h : mulSF a b n = some r) (hr : SerC r) :
    Calls Try.prog 24 #[.slice A n c, .slice B n d] w (MadeC w r) := by
  have hn16 : n ≤ 16 := by have := hA.len; have := ha.most; omega
  go_enter Try.func24, Try.ntmps24
  go_wp2_with fail
  refine Calls.below (areSeries_any a b _ _ _ _ _ _ hA hB ha hb) ?_
  intro w1 hb1
  go_wp2_with fail
  refine (mulS_any a b A B n c d r _ (hA.below hb1) (hB.below hb1) hn16 h).mono ?_
  rintro e w2 ⟨A', c', rfl, hO, hb2⟩
  obtain ⟨A2, c2, hv, hRd⟩ := hO.slice
  cases hv
  go_wp2_with fail
  refine Calls.below (checkedSeries_any r _ _ _ _ hRd hr) ?_
  intro w3 hb3
  go_wp2
  go_ret2
  exact made_of_own ((hO.mono hb1.size).below hb3) rfl (below_seq (below_seq hb1 hb2) hb3)

set_option maxRecDepth 100000 in
theorem div_series_any (a b : List C) (A B : Option Addr) (n c d : Nat) (i r : List C) (w : World) (hA : ReadsC w A n a) (hB : ReadsC w B n b) (ha : SerC a) (hb : SerC b) (h0 : isZ (b.getD 0 zero) = false)
    (hi : invF b = some i) (hil : i.length = n) (his : SerC i) (h : mulSF a i n = some r) (hr : SerC r) :
    Calls Try.prog 30 #[.slice A n c, .slice B n d] w (MadeC w r) := by
  go_enter Try.func30, Try.ntmps30
  go_wp2_with fail
  refine (inverse_any b B n d i _ hB hb h0 hi his).mono ?_
  rintro e w1 ⟨A', c', rfl, hO, hb1⟩
  obtain ⟨A2, c2, hv, hRd⟩ := hO.slice
  cases hv
  rw [hil] at hRd ⊢
  go_wp2_with fail
  refine (mul_series_any a i A A' n c _ r _ (hA.below hb1) hRd ha his h hr).mono ?_
  rintro e w2 ⟨A3, c3, rfl, hO2, hb2⟩
  go_wp2
  go_ret2
  exact made_of_own (hO2.mono hb1.size) rfl (below_seq hb1 hb2)
end Go.Proofs.Ytdpogmibahaklaa
