/- The program's sine returns what the plain function of bits says. -/
import Derived.Test.YtdpogmibahaklaaM0
import Derived.Test.YtdpogmibahaklaaW13
set_option linter.unusedVariables false
set_option linter.unusedSimpArgs false
namespace Go.Proofs.Ytdpogmibahaklaa
open Go.RowKit

theorem run_o32 {op : BinOp} {x y r : Nat} (h : o32 op x y = some r) (t : TypeId) (w : World) : (binOp op t (.float .f32 x) (.float .f32 y)).run Try.prog w = .ok (.float .f32 r) w := run_fop h t w
theorem run_o64 {op : BinOp} {x y r : Nat} (h : o64 op x y = some r) (t : TypeId) (w : World) : (binOp op t (.float .f64 x) (.float .f64 y)).run Try.prog w = .ok (.float .f64 r) w := run_fop h t w

set_option maxRecDepth 100000 in
set_option maxHeartbeats 400000 in
theorem rule_any (kind n : Nat) (r : Nat × Nat × Nat) (w : World) (hk : kind ≤ 4) (h : ruleF kind n = some r) :
    Calls Try.prog 122 #[.int .i64 (kind : Int), .int .i64 (n : Int)] w fun e w' => e = .returned (.tuple #[.float .f32 r.1, .float .f32 r.2.1, .float .f32 r.2.2]) ∧ w' = w := by
  unfold ruleF at h
  have hk' : kind = 0 ∨ kind = 1 ∨ kind = 2 ∨ kind = 3 ∨ kind = 4 := by omega
  rcases hk' with rfl | rfl | rfl | rfl | rfl
  · by_cases h0 : n = 0
    · subst h0
      cases h
      go_enter Try.func122, Try.ntmps122
      go_wp2_with fail
      go_ret3
      exact ⟨rfl, rfl⟩
    · simp only [if_neg h0] at h
      cases h
      have h0' : ¬ (n : Int) = 0 := by omega
      go_enter Try.func122, Try.ntmps122
      go_wp2_with fail
      go_ret3
      exact ⟨rfl, rfl⟩
  · cases h
    go_enter Try.func122, Try.ntmps122
    go_wp2_with fail
    go_ret3
    exact ⟨rfl, rfl⟩
  · simp only [if_neg (show ¬ (2 = 0) by decide), if_neg (show ¬ (2 = 1) by decide), if_neg (show ¬ (2 = 3) by decide), if_true, Option.bind_eq_some_iff] at h
    obtain ⟨d, hd, e, he, g, hg, m, hm, c, hc, h⟩ := h
    cases h
    have f1 := @run_o32 _ _ _ _ hd
    have f2 := @run_o32 _ _ _ _ he
    have f3 := @run_o32 _ _ _ _ hg
    have f4 := @run_o32 _ _ _ _ hm
    have f5 := @run_o32 _ _ _ _ hc
    clear hd he hg hm hc
    go_enter Try.func122, Try.ntmps122
    go_wp2_with (simp only [f1, f2, f3, f4, f5])
    go_ret3
    exact ⟨rfl, rfl⟩
  · cases h
    go_enter Try.func122, Try.ntmps122
    go_wp2_with fail
    go_ret3
    exact ⟨rfl, rfl⟩
  · simp only [if_neg (show ¬ (4 = 0) by decide), if_neg (show ¬ (4 = 1) by decide), if_neg (show ¬ (4 = 3) by decide), if_neg (show ¬ (4 = 2) by decide), Option.bind_eq_some_iff] at h
    obtain ⟨d, hd, e, he, g, hg, m, hm, c, hc, a, ha, h⟩ := h
    cases h
    have f1 := @run_o32 _ _ _ _ hd
    have f2 := @run_o32 _ _ _ _ he
    have f3 := @run_o32 _ _ _ _ hg
    have f4 := @run_o32 _ _ _ _ hm
    have f5 := @run_o32 _ _ _ _ hc
    have f6 := @run_o32 _ _ _ _ ha
    clear hd he hg hm hc ha
    go_enter Try.func122, Try.ntmps122
    go_wp2_with (simp only [f1, f2, f3, f4, f5, f6])
    go_ret3
    exact ⟨rfl, rfl⟩

theorem run_bits64 (x : Nat) (w : World) : (callFunc 187 #[.float .f64 x]).run Try.prog w = .ok (.value (.int .u64 (x : Int))) w := by
  rw [run_callFunc_extern Try.func187 (by kernel_rfl) (by kernel_rfl) (by kernel_rfl) (e := Extern.MathFloatBits.float64bits) (by kernel_rfl)]
  rfl
theorem run_from64 (x : Int) (w : World) : (callFunc 182 #[.int .u64 x]).run Try.prog w = .ok (.value (.float .f64 x.toNat)) w := by
  rw [run_callFunc_extern Try.func182 (by kernel_rfl) (by kernel_rfl) (by kernel_rfl) (e := Extern.MathFloatBits.float64frombits) (by kernel_rfl)]
  rfl
theorem integral_of {x r : Nat} (h : truncF x = some r) : Extern.MathFloor.toIntegral "math.archTrunc" .zero #[.float .f64 x] = pure (.float .f64 r) := by
  unfold truncF at h
  show (match FloatKind.f64.decode x with
    | .nan s t =>
      if FloatKind.f64.format.quiet t = t then pure (.float .f64 x) else do
      let kept ← choose (.extern "math.Floor,Ceil,Trunc,RoundToEven.signallingNaN kept" 2)
      pure (.float .f64 (if kept == 1 then x else FloatKind.f64.encode (.nan s (FloatKind.f64.format.quiet t))))
    | d => pure (.float .f64 (FloatKind.f64.encode (d.integral .zero))) : Sem Value) = _
  cases hd : FloatKind.f64.decode x <;> rw [hd] at h <;> cases h <;> rfl
theorem run_trunc {x r : Nat} (h : truncF x = some r) (w : World) : (callFunc 189 #[.float .f64 x]).run Try.prog w = .ok (.value (.float .f64 r)) w := by
  rw [run_callFunc_extern Try.func189 (by kernel_rfl) (by kernel_rfl) (by kernel_rfl) (e := Extern.MathFloor.toIntegral "math.archTrunc" .zero) (by kernel_rfl), integral_of h]
  rfl

theorem trunc_any (x r : Nat) (w : World) (h : truncF x = some r) :
    Calls Try.prog 188 #[.float .f64 x] w fun e w' => e = .returned (.float .f64 r) ∧ w' = w := by
  have f1 := fun w => run_trunc h w
  go_enter Try.func188, Try.ntmps188
  go_wp2_with (simp only [f1])
  go_ret
  exact ⟨rfl, rfl⟩

/-- The absolute value. -/
def absF (x : Nat) : Nat := (bits .andNot .u64 (x : Int) 9223372036854775808).toNat
theorem abs_any (x : Nat) (w : World) :
    Calls Try.prog 183 #[.float .f64 x] w fun e w' => e = .returned (.float .f64 (absF x)) ∧ w' = w := by
  have f1 := fun w => run_bits64 x w
  have f2 := fun w => run_from64 (bits .andNot .u64 (x : Int) 9223372036854775808) w
  go_enter Try.func183, Try.ntmps183
  go_wp2_with (simp only [f1, f2])
  go_ret
  exact ⟨rfl, rfl⟩
theorem notHuge_any (x : Nat) (w : World) (h : FloatKind.f64.format.order (absF x) 4841369599423283200 = some .lt) :
    Calls Try.prog 169 #[.float .f64 x] w fun e w' => e = .returned (.bool false) ∧ w' = w := by
  go_enter Try.func169, Try.ntmps169
  go_wp2_with fail
  refine Calls.same (abs_any x _) ?_
  go_wp2_with (simp only [h])
  go_ret
  exact ⟨by simp [h], rfl⟩

theorem partTurn_any (x r : Nat) (w : World) (h : partTurnF x = some r) :
    Calls Try.prog 184 #[.float .f64 x] w fun e w' => e = .returned (.float .f64 r) ∧ w' = w := by
  simp only [partTurnF, Option.bind_eq_some_iff] at h
  obtain ⟨t, ht, f, hf, h⟩ := h
  have ht0 : FloatKind.f64.format.order t 0 = Ieee.double.order t 0 := rfl
  have hf0 : FloatKind.f64.format.order f 0 = Ieee.double.order f 0 := rfl
  go_enter Try.func184, Try.ntmps184
  go_wp2_with fail
  refine Calls.same (trunc_any x t _ ht) ?_
  by_cases hz : (Ieee.double.order t 0 == some .eq) = true
  · rw [if_pos hz] at hf
    have g1 := @run_o64 _ _ _ _ hf
    by_cases hl : (Ieee.double.order f 0 == some .lt) = true
    · rw [if_pos hl] at h
      have g2 := @run_o64 _ _ _ _ h
      go_wp2_with (simp only [g1, g2, ht0, hf0, hz, hl])
      go_ret
      exact ⟨rfl, rfl⟩
    · rw [if_neg hl] at h
      cases h
      go_wp2_with (simp only [g1, ht0, hf0, hz, hl])
      go_ret
      exact ⟨rfl, rfl⟩
  · rw [if_neg hz] at hf
    have g1 := @run_o64 _ _ _ _ hf
    by_cases hl : (Ieee.double.order f 0 == some .lt) = true
    · rw [if_pos hl] at h
      have g2 := @run_o64 _ _ _ _ h
      go_wp2_with (simp only [g1, g2, ht0, hf0, hz, hl])
      go_ret
      exact ⟨rfl, rfl⟩
    · rw [if_neg hl] at h
      cases h
      go_wp2_with (simp only [g1, ht0, hf0, hz, hl])
      go_ret
      exact ⟨rfl, rfl⟩
end Go.Proofs.Ytdpogmibahaklaa

namespace Go.Proofs.Ytdpogmibahaklaa
open Go.RowKit

theorem k64_ge : ∀ j, j < 8 → (((FloatKind.f64.format.order (k64 (8 - j)) 4607182418800017408 == some Ordering.gt) || (FloatKind.f64.format.order (k64 (8 - j)) 4607182418800017408 == some Ordering.eq)) = true) := by decide +kernel
theorem k64_end : ((FloatKind.f64.format.order (k64 0) 4607182418800017408 == some Ordering.gt) || (FloatKind.f64.format.order (k64 0) 4607182418800017408 == some Ordering.eq)) = false := by decide +kernel
theorem k64_pred : ∀ j, j < 8 → o64 .sub (k64 (8 - j)) 4607182418800017408 = some (k64 (7 - j)) := by decide +kernel

theorem k64_down : ∀ j, j < 8 → k64 (7 - j) < k64 (8 - j) := by decide +kernel
/-- The bits of a number. -/
def bitsOf : Value → Nat
  | .float _ b => b
  | _ => 0

set_option maxRecDepth 100000 in
set_option maxHeartbeats 1000000 in
theorem sine_any (x r : Nat) (w : World) (h : sineF x = some r) :
    Calls Try.prog 170 #[.float .f64 x] w fun e w' => e = .returned (.float .f64 r) ∧ Drawn w w' := by
  have hn : ∀ (b : Nat), Op.unary .neg (.float .f64 b) = pure (.float .f64 (Op.negFloat .f64 b)) := fun _ => rfl
  simp only [sineF, Option.bind_eq_some_iff] at h
  obtain ⟨f, hf, g, hg, q, hq, h⟩ := h
  unfold sineEndF at h
  simp only [Option.bind_eq_some_iff] at h
  obtain ⟨z, hz, u, hu, p, hp, s, hs, h⟩ := h
  generalize c1 : geB f 4602678819172646912 = b1 at *
  generalize c2 : gtB g 4598175219545276416 = b2 at *
  have e1 : ((FloatKind.f64.format.order f 4602678819172646912 == some Ordering.gt) || (FloatKind.f64.format.order f 4602678819172646912 == some Ordering.eq)) = b1 := c1
  have e2 : (FloatKind.f64.format.order g 4598175219545276416 == some Ordering.gt) = b2 := c2
  clear c1 c2
  have g3 := @run_o64 _ _ _ _ hz
  have g4 := @run_o64 _ _ _ _ hu
  have g5 := @run_o64 _ _ _ _ hs
  have HP := Lib.hid hp
  clear hz hu hs hp
  cases b1 <;> cases b2 <;> simp only [if_true, if_neg Bool.false_ne_true] at hg hq h <;> cases h <;>
  (first | (injection hg with hg; subst hg; have g1 := True.intro) | have g1 := @run_o64 _ _ _ _ hg) <;>
  (first | (injection hq with hq; subst hq; have g2 := True.intro) | have g2 := @run_o64 _ _ _ _ hq) <;>
  (go_enter Try.func170, Try.ntmps170
   go_wp2_with fail
   refine Calls.same (partTurn_any x f _ hf) ?_
   go_wp2_with (simp only [g1, g2, g3, g4, g5])
   go_loopw [7, 8] (fun P K wr => ∃ (j a : Nat), j ≤ 8 ∧ P = .float .f64 a ∧ K = .float .f64 (k64 (8 - j)) ∧ stepsF (fun j p => sineStepF u (8 - j) p) (8 - j) j a = some p ∧ Drawn w wr) (fun _ K _ => bitsOf K)
   case atStart => exact ⟨0, _, by omega, rfl, rfl, HP.out, Drawn.refl _⟩
   case round =>
     obtain ⟨j, a, hj, rfl, rfl, hrec, hD⟩ := hrel
     by_cases hlt : j < 8
     · obtain ⟨s', hst, hrec⟩ := stepsF_at hrec hlt
       simp only [sineStepF, Option.bind_eq_some_iff] at hst
       obtain ⟨t1, h1, t2, h2, t3, h3, t4, h4, t5, h5, h6⟩ := hst
       have i0 := k64_ge j hlt
       have i1 := @run_o64 _ _ _ _ h1
       have i2 := @run_o64 _ _ _ _ h2
       have i3 := @run_o64 _ _ _ _ h3
       have i4 := @run_o64 _ _ _ _ h4
       have i5 := @run_o64 _ _ _ _ h5
       have i6 := @run_o64 _ _ _ _ h6
       have i8 := @run_o64 _ _ _ _ (k64_pred j hlt)
       clear h1 h2 h3 h4 h5 h6
       go_wp2_with (simp only [i1, i2, i3, i4, i5, i6, i8])
       go_roundw
       case rel => exact ⟨j + 1, s', by omega, rfl, by rw [show 8 - (j + 1) = 7 - j by omega], hrec, hD⟩
       case measure => exact k64_down j hlt
     · obtain rfl : j = 8 := by omega
       obtain rfl := stepsF_zero hrec
       have i0 := k64_end
       go_wp2_with (simp only [g5, hn])
       go_ret
       exact ⟨rfl, hD⟩)

theorem sineTurns_any (x r : Nat) (w : World) (hx : finB x = some true) (hy : ∀ y, wide x = some y → FloatKind.f64.format.order (absF y) 4841369599423283200 = some .lt) (h : sineTurnsF x = some r) :
    Calls Try.prog 125 #[.float .f32 x] w fun e w' => e = .returned (.float .f32 r) ∧ Drawn w w' := by
  simp only [sineTurnsF, Option.bind_eq_some_iff] at h
  obtain ⟨y, hyx, s, hs, hr⟩ := h
  have hy' := hy y hyx
  have g1 := @run_wide _ _ hyx
  have g2 := @run_narrow _ _ hr
  clear hy hyx hr
  go_enter Try.func125, Try.ntmps125
  go_wp2_with fail
  refine Calls.same (isFinite_any x _ hx) ?_
  go_wp2_with (simp only [g1])
  refine Calls.same (notHuge_any y _ hy') ?_
  go_wp2_with (simp only [g1])
  refine Calls.drawn (sine_any y s _ hs) ?_
  intro w1 hD
  go_wp2_with (simp only [g2])
  go_ret
  exact ⟨rfl, hD⟩
end Go.Proofs.Ytdpogmibahaklaa
