/- The program's weights at points of a half circle return what the plain functions of bits say. -/
import Derived.Test.YtdpogmibahaklaaM5
set_option linter.unusedVariables false
set_option linter.unusedSimpArgs false
namespace Go.Proofs.Ytdpogmibahaklaa
open Go.RowKit

theorem OwnF.drawn {w w1 : World} {B : Nat} {v : Value} {xs : List Nat} (h : OwnF w B v xs) (hd : Drawn w w1) : OwnF w1 B v xs := h.below (hd.below _)

set_option maxRecDepth 100000 in
set_option maxHeartbeats 1000000 in
theorem fit_any (vs : List Nat) (A : Option Addr) (n c : Nat) (r : List Nat) (w : World) (hA : ReadsF w A n vs) (n1 : 1 ≤ n) (n2 : n ≤ 16) (hw : ∀ y ∈ vs, finB y = some true)
    (hok : ∀ j k, j < n → k < n → SeenOk n (j * (2 * k + 1))) (h : fitF vs = some r) (hr : ∀ y ∈ r, finB y = some true) :
    Calls Try.prog 52 #[.slice A n c] w (MadeF2 w r) := by
  obtain ⟨i0, hi, hz0, hz1, hz2⟩ := info_parts Try.info36
  have hl := hA.len
  unfold fitF at h
  rw [hl] at h
  have HK := Lib.hid hok
  have Hl := Lib.hid hl
  have a1 : ¬ (n : Int) < 1 := by omega
  have a2 : ¬ (17 : Int) < n := by omega
  clear hok hl
  go_enter Try.func52, Try.ntmps52
  go_wp2_with fail
  refine Calls.same (areFinite_any vs _ _ _ _ hA hw) ?_
  go_wp2_with fail
  have hO : OwnF (w.alloc (Obj.cells #[] 36)) w.heap.size (.slice (some ⟨w.heap.size, 0, none⟩) 0 0) [] := ⟨World.ownsRow_lit w _ 0 (Nat.le_refl _) (by unfold maxLen; omega) rfl⟩
  have hb0 : Below w.heap.size w (w.alloc (Obj.cells #[] 36)) := (Below.refl _ _).alloc (Nat.le_refl _) _
  generalize w.alloc (Obj.cells #[] 36) = w0 at *
  clear hw
  go_loopw [5, 6, 7, 8, 9, 10, 26] (fun v _ _ _ _ _ i wr => ∃ (j : Nat) (out : List Nat), j ≤ n ∧ out.length = j ∧ i = .int .i64 (j : Int) ∧
    stepsF (fun j out => (fitAllF vs j).bind fun all => (o32 .quo 1073741824 (floatOfInt .f32 (n : Int))).bind fun b2 =>
    (if j = 0 then o32 .quo 1065353216 (floatOfInt .f32 (n : Int)) else some b2).bind fun b => (o32 .mul all b).bind fun c => some (out ++ [c])) (n - j) j out = some r ∧ OwnF wr w.heap.size v out ∧ Below w.heap.size w wr) (fun _ _ _ _ _ _ i _ => n - (intOf i).toNat)
  case atStart => exact ⟨0, [], by omega, rfl, rfl, h, hO, hb0⟩
  case round =>
    clear hO hb0 h
    obtain ⟨j, out, hj, hlen, rfl, hrec, hO, hb⟩ := hrel
    by_cases hlt : j < n
    · have e1 : (j : Int) < (n : Int) := by omega
      obtain ⟨s', hst, hrec⟩ := stepsF_at hrec hlt
      simp only [Option.bind_eq_some_iff] at hst
      obtain ⟨all, hall, b2, hb2, b, hbb, t, ht, hout⟩ := hst
      cases hout
      have Hlen := Lib.hid hlen
      clear hlen
      unfold fitAllF at hall
      rw [Hl.out] at hall
      go_wp2_with fail
      go_loopw [7, 31] (fun a i wq => ∃ (k x : Nat), k ≤ n ∧ i = .int .i64 (k : Int) ∧ a = .float .f32 x ∧
        stepsF (fun k all => (seenF n (j * (2 * k + 1))).bind fun s => (o32 .mul (vs.getD k 0) s).bind fun t => o32 .add all t) (n - k) k x = some all ∧ Drawn wr wq) (fun _ i _ => n - (intOf i).toNat)
      case atStart => exact ⟨0, 0, by omega, rfl, rfl, hall, Drawn.refl _⟩
      case round =>
        clear hall
        obtain ⟨k, x, hk, rfl, rfl, hal, hD⟩ := hrel
        by_cases hkt : k < n
        · have e2 : (k : Int) < (n : Int) := by omega
          obtain ⟨x', hst, hal⟩ := stepsF_at hal hkt
          simp only [seenF, argF, Option.bind_eq_some_iff] at hst
          obtain ⟨s, ⟨y, ⟨q, hq, hy⟩, hs⟩, u, hu, hx'⟩ := hst
          have hok := HK.out j k hlt hkt
          have ha : argF n (j * (2 * k + 1)) = some y := by simp only [argF, hq, Option.bind_some, hy]
          have k1 := hok.fin y ha
          have k2 := fun z => hok.small y z ha
          have m1 : j * (2 * k + 1) ≤ 16 * 33 := Nat.mul_le_mul (by omega) (by omega)
          have m2 : ((j * (2 * k + 1) : Nat) : Int) = (j : Int) * (2 * (k : Int) + 1) := by push_cast; rfl
          have m3 : (j : Int) * (2 * (k : Int) + 1) ≤ 528 := by rw [← m2]; omega
          have m4 : 0 ≤ (j : Int) * (2 * (k : Int) + 1) := by rw [← m2]; omega
          rw [m2, show ((4 * n : Nat) : Int) = 4 * (n : Int) by omega] at hq
          clear m1 m2 ha hok
          obtain ⟨ad, rfl, hc⟩ := ((hA.below hb).drawn hD).cells (by omega)
          have c0 := hc k (by omega)
          clear hc
          generalize vs.getD k 0 = y0 at c0 hu
          unfold fv at c0
          have f1 := @run_o32 _ _ _ _ hq
          have f2 := @run_o32 _ _ _ _ hy
          have f3 := @run_o32 _ _ _ _ hu
          have f4 := @run_o32 _ _ _ _ hx'
          clear hq hy hu hx'
          go_wp2_with (simp only [f1, f2, f3, f4])
          refine Calls.drawn (sineTurns_any y s _ k1 k2 hs) ?_
          intro w4 hD4
          go_wp2_with (simp only [f1, f2, f3, f4])
          go_roundw
          case rel => exact ⟨k + 1, x', by omega, by go_num, rfl, hal, hD.trans hD4⟩
          case measure => simp [intOf]; omega
        · have e2 : ¬ (k : Int) < (n : Int) := by omega
          have e3 := stepsF_end hal (by omega)
          subst e3
          have f1 := @run_o32 _ _ _ _ hb2
          have f3 := @run_o32 _ _ _ _ ht
          have hO4 := hO.drawn hD
          have hb4 := hb.trans (hD.below _)
          by_cases hj0 : j = 0
          · rw [if_pos hj0] at hbb
            have f2 := @run_o32 _ _ _ _ hbb
            subst hj0
            clear hb2 ht hbb
            go_wp2_with (first | (at_builtin; refine wpList_append_own _ rfl (.tmp 61) (.tmp 65) 51 rfl w.heap.size 36 i0 _ 1 4 Try.underlying51 hi hz0 hz1 hz2 rfl (by decide) _ out.length (out.map fv) rfl (hO4.out.alloc _) ⟨wr.heap.size, 0, none⟩ 1 1 [fv t] rfl rfl ?c1 ?c2 ?c3 ?c4 ?c5 ?_) | simp only [f1, f2, f3])
            case c1 => exact fun j u h => h
            case c2 => exact rfl
            case c3 => have := Hlen.out; unfold maxLen; omega
            case c4 => have := Hlen.out; omega
            case c5 => have := hb4.size; omega
            intro v' w5 hown hgrow _
            have hO5 := OwnF.appended hown
            have hb5 := hO4.grown hb4 (by have := hb4.size; omega) _ hgrow
            have hl5 : (out ++ [t]).length = 0 + 1 := by rw [List.length_append, Hlen.out]; rfl
            clear hown hgrow
            go_wp2
            go_roundw
            case rel => exact ⟨0 + 1, out ++ [t], by omega, hl5, by go_num, hrec, hO5, hb5⟩
            case measure => simp [intOf]; omega
          · rw [if_neg hj0] at hbb
            cases hbb
            have f2 := True.intro
            have e5 : ¬ (j : Int) = 0 := by omega
            clear hj0 hb2 ht
            go_wp2_with (first | (at_builtin; refine wpList_append_own _ rfl (.tmp 61) (.tmp 65) 51 rfl w.heap.size 36 i0 _ 1 4 Try.underlying51 hi hz0 hz1 hz2 rfl (by decide) _ out.length (out.map fv) rfl (hO4.out.alloc _) ⟨wr.heap.size, 0, none⟩ 1 1 [fv t] rfl rfl ?c1 ?c2 ?c3 ?c4 ?c5 ?_) | simp only [f1, f2, f3])
            case c1 => exact fun j u h => h
            case c2 => exact rfl
            case c3 => have := Hlen.out; unfold maxLen; omega
            case c4 => have := Hlen.out; omega
            case c5 => have := hb4.size; omega
            intro v' w5 hown hgrow _
            have hO5 := OwnF.appended hown
            have hb5 := hO4.grown hb4 (by have := hb4.size; omega) _ hgrow
            have hl5 : (out ++ [t]).length = j + 1 := by rw [List.length_append, Hlen.out]; rfl
            clear hown hgrow
            go_wp2
            go_roundw
            case rel => exact ⟨j + 1, out ++ [t], by omega, hl5, by go_num, hrec, hO5, hb5⟩
            case measure => simp [intOf]; omega
    · have e1 : ¬ (j : Int) < (n : Int) := by omega
      have e2 := stepsF_end hrec (by omega)
      subst e2
      obtain ⟨A', c', hv, hR⟩ := hO.slice
      have Hv := Lib.hid hv
      subst hv
      clear hlen
      go_wp2_with fail
      refine Calls.same (areFinite_any out _ _ _ _ hR hr) ?_
      go_wp2
      go_ret2
      exact ⟨A', c', rfl, hO, hb⟩
end Go.Proofs.Ytdpogmibahaklaa
