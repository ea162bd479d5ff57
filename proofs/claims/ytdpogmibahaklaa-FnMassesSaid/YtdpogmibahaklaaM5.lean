/- The program's sums of families, and its points, return what the plain functions of bits say. -/
import Derived.Test.YtdpogmibahaklaaM4
set_option linter.unusedVariables false
set_option linter.unusedSimpArgs false
namespace Go.Proofs.Ytdpogmibahaklaa
open Go.RowKit

theorem ReadsF.drawn {w w' : World} {A : Option Addr} {n : Nat} {xs : List Nat} (h : ReadsF w A n xs) (hd : Drawn w w') : ReadsF w' A n xs :=
  ⟨h.1, h.2, fun hn => by
    obtain ⟨ad, e, hc⟩ := h.3 hn
    exact ⟨ad, e, fun j hj => (hd.cell _).trans (hc j hj)⟩⟩

set_option maxRecDepth 100000 in
set_option maxHeartbeats 400000 in
theorem familySum_any (kind x : Nat) (ws : List Nat) (A : Option Addr) (n c r : Nat) (w : World) (hk : kind ≤ 4) (hA : ReadsF w A n ws) (n1 : 1 ≤ n) (n2 : n ≤ 16) (hx : finB x = some true) (hw : ∀ y ∈ ws, finB y = some true)
    (h : famSumF kind ws x = some r) (hr : finB r = some true) :
    Calls Try.prog 47 #[.int .i64 (kind : Int), .slice A n c, .float .f32 x] w fun e w' => e = .returned (.tuple #[.float .f32 r, .bool true]) ∧ Drawn w w' := by
  have hl := hA.len
  simp only [famSumF, Option.map_eq_some_iff] at h
  obtain ⟨⟨r', vE⟩, h, rfl⟩ := h
  rw [hl] at h
  have a1 : ¬ (n : Int) < 1 := by omega
  have a2 : ¬ (17 : Int) < n := by omega
  go_enter Try.func47, Try.ntmps47
  go_wp2_with fail
  refine Calls.same (within_any _ _ _ _ (by omega) (by omega)) ?_
  go_wp2_with fail
  refine Calls.same (areFinite_any ws _ _ _ _ hA hw) ?_
  go_wp2_with fail
  refine Calls.same (isFinite_any _ _ hx) ?_
  go_wp2_with fail
  clear hw
  go_loopw [8, 9, 10] (fun U V i wr => ∃ (R : Nat) (X : Int) (u v : Nat), R ≤ n ∧ i = .int .i64 X ∧ X = (R : Int) - 1 ∧ U = .float .f32 u ∧ V = .float .f32 v ∧
      stepsF (fun j => sumStepF kind x ws (n - 1 - j)) R (n - R) (u, v) = some (r', vE) ∧ Drawn w wr) (fun _ _ i _ => (intOf i + 1).toNat)
  case atStart => exact ⟨n, (n : Int) - 1, 0, 0, by omega, rfl, rfl, rfl, rfl, by rw [Nat.sub_self]; exact h, Drawn.refl _⟩
  case round =>
    clear h
    obtain ⟨R, X, u, v, hR1, rfl, hX, rfl, rfl, hrec, hD⟩ := hrel
    by_cases hlt : 0 < R
    · obtain ⟨R', rfl⟩ : ∃ R', R = R' + 1 := ⟨R - 1, by omega⟩
      obtain rfl : X = (R' : Int) := by omega
      clear hX
      obtain ⟨s, hst, hrec⟩ := stepsF_succ hrec
      rw [show n - 1 - (n - (R' + 1)) = R' by omega] at hst
      rw [show n - (R' + 1) + 1 = n - R' by omega] at hrec
      simp only [sumStepF, Option.bind_eq_some_iff] at hst
      obtain ⟨q, hq, q', hq', m, hm, p, hp, t, ht, e, he, g, hg, d, hd, hs⟩ := hst
      cases hs
      obtain ⟨ad', rfl, hc⟩ := (hA.drawn hD).cells (by omega)
      have c1 := hc R' (by omega)
      clear hc
      generalize ws.getD R' 0 = y at c1 he
      unfold fv at c1
      have e1 : (0 : Int) ≤ (R' : Int) := by omega
      have hn4 : (R' : Int) < (n : Int) := by omega
      have f1 := @run_o32 _ _ _ _ hm
      have f2 := @run_o32 _ _ _ _ hp
      have f3 := @run_o32 _ _ _ _ ht
      have f4 := @run_o32 _ _ _ _ he
      have f5 := @run_o32 _ _ _ _ hg
      have f6 := @run_o32 _ _ _ _ hd
      clear hm hp ht he hg hd
      go_wp2_with fail
      refine Calls.same (rule_any kind R' q _ hk hq) ?_
      go_wp2_with fail
      refine Calls.same (rule_any kind (R' + 1) q' _ hk hq') ?_
      go_wp2_with (simp only [f1, f2, f3, f4, f5, f6])
      go_roundw
      case rel => exact ⟨R', (R' : Int) - 1, d, u, by omega, rfl, rfl, rfl, rfl, hrec, hD⟩
      case measure => simp [intOf]
    · have e1 : ¬ (0 : Int) ≤ X := by omega
      obtain rfl : R = 0 := by omega
      have e2 := stepsF_zero hrec
      cases e2
      go_wp2_with fail
      refine Calls.same (checked_any _ _ hr) ?_
      go_wp2
      go_ret2
      exact ⟨rfl, hD⟩

/-- Where a point is seen: a number that is finite and not huge. -/
structure SeenOk (n top : Nat) : Prop where
  fin : ∀ y, argF n top = some y → finB y = some true
  small : ∀ y z, argF n top = some y → wide y = some z → FloatKind.f64.format.order (absF z) 4841369599423283200 = some .lt

set_option maxRecDepth 100000 in
set_option maxHeartbeats 400000 in
theorem roundPoints_any (n : Nat) (r : List Nat) (w : World) (hn : n ≤ 16) (hok : ∀ k, k < n → SeenOk n (2 * k + 1)) (h : pointsF n = some r) :
    Calls Try.prog 124 #[.int .i64 (n : Int)] w (MadeF w r) := by
  obtain ⟨i0, hi, hz0, hz1, hz2⟩ := info_parts Try.info36
  unfold pointsF at h
  have HK := Lib.hid hok
  clear hok
  go_enter Try.func124, Try.ntmps124
  go_wp2_with fail
  have hO : OwnF (w.alloc (Obj.cells #[] 36)) w.heap.size (.slice (some ⟨w.heap.size, 0, none⟩) 0 0) [] := ⟨World.ownsRow_lit w _ 0 (Nat.le_refl _) (by unfold maxLen; omega) rfl⟩
  have hb0 : Below w.heap.size w (w.alloc (Obj.cells #[] 36)) := (Below.refl _ _).alloc (Nat.le_refl _) _
  generalize w.alloc (Obj.cells #[] 36) = w0 at *
  go_loopw [3, 4, 7] (fun v _ i wr => ∃ (j : Nat) (out : List Nat), j ≤ n ∧ out.length = j ∧ i = .int .i64 (j : Int) ∧ stepsF (fun k out => (seenF n (2 * k + 1)).bind fun s => some (out ++ [s])) (n - j) j out = some r ∧ OwnF wr w.heap.size v out ∧ Below w.heap.size w wr) (fun _ _ i _ => n - (intOf i).toNat)
  case atStart => exact ⟨0, [], by omega, rfl, rfl, h, hO, hb0⟩
  case round =>
    clear hO hb0 h
    obtain ⟨j, out, hj, hlen, rfl, hrec, hO, hb⟩ := hrel
    by_cases hlt : j < n
    · have e1 : (j : Int) < (n : Int) := by omega
      obtain ⟨s', hst, hrec⟩ := stepsF_at hrec hlt
      simp only [seenF, argF, Option.bind_eq_some_iff] at hst
      obtain ⟨s, ⟨y, ⟨q, hq, hy⟩, hs⟩, hout⟩ := hst
      cases hout
      have hok := HK.out j hlt
      have ha : argF n (2 * j + 1) = some y := by simp only [argF, hq, Option.bind_some, hy]
      have k1 := hok.fin y ha
      have k2 := fun z => hok.small y z ha
      rw [show ((2 * j + 1 : Nat) : Int) = 2 * (j : Int) + 1 by omega, show ((4 * n : Nat) : Int) = 4 * (n : Int) by omega] at hq
      have f1 := @run_o32 _ _ _ _ hq
      have f2 := @run_o32 _ _ _ _ hy
      have Hlen := Lib.hid hlen
      clear hlen hq hy ha hok
      go_wp2_with (simp only [f1, f2])
      refine Calls.drawn (sineTurns_any y s _ k1 k2 hs) ?_
      intro w4 hD
      have hO4 := hO.below (hD.below _)
      have hb4 := hb.trans (hD.below _)
      go_wp2_with (at_builtin; refine wpList_append_own _ rfl (.tmp 10) (.tmp 21) 51 rfl w.heap.size 36 i0 _ 1 4 Try.underlying51 hi hz0 hz1 hz2 rfl (by decide) _ out.length (out.map fv) rfl (hO4.out.alloc _) ⟨w4.heap.size, 0, none⟩ 1 1 [fv s] rfl rfl ?c1 ?c2 ?c3 ?c4 ?c5 ?_)
      case c1 => exact cell_one_new _ _ _
      case c2 => intro u hu; simp at hu; subst hu; rfl
      case c3 => have := Hlen.out; unfold maxLen; omega
      case c4 => have := Hlen.out; omega
      case c5 => have := hb4.size; simp; omega
      intro v' w5 hown hgrow _
      have hO5 := OwnF.appended hown
      have hb5 := hO4.grown hb4 (by have := hb4.size; omega) _ hgrow
      have hl5 : (out ++ [s]).length = j + 1 := by rw [List.length_append, Hlen.out]; rfl
      clear hown hgrow
      go_wp2
      go_roundw
      case rel => exact ⟨j + 1, out ++ [s], by omega, hl5, by go_num, hrec, hO5, hb5⟩
      case measure => simp [intOf]; omega
    · have e1 : ¬ (j : Int) < (n : Int) := by omega
      have e2 := stepsF_end hrec (by omega)
      subst e2
      obtain ⟨A', c', hv, _⟩ := hO.slice
      have Hv := Lib.hid hv
      clear hv hlen
      go_wp2
      go_ret
      refine ⟨A', c', congrArg Ending.returned Hv.out, ?_, hb⟩
      rw [← Hv.out]
      exact hO
theorem points_any (n : Nat) (r : List Nat) (w : World) (hn0 : 1 ≤ n) (hn : n ≤ 16) (hok : ∀ k, k < n → SeenOk n (2 * k + 1)) (h : pointsF n = some r) :
    Calls Try.prog 51 #[.int .i64 (n : Int)] w (MadeF2 w r) := by
  go_enter Try.func51, Try.ntmps51
  go_wp2_with fail
  refine Calls.same (within_any _ _ _ _ (by omega) (by omega)) ?_
  go_wp2_with fail
  refine (roundPoints_any n r _ hn hok h).mono ?_
  rintro e w1 ⟨A, c, rfl, hO, hb⟩
  go_wp2
  go_ret2
  exact ⟨A, c, rfl, hO, hb⟩
end Go.Proofs.Ytdpogmibahaklaa
