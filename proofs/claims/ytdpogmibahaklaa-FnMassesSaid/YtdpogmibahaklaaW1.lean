/- The program's functions on single numbers return what the plain functions of bits say. -/
import Derived.Test.YtdpogmibahaklaaW
import Derived.Laws.Externs
set_option linter.unusedVariables false
set_option linter.unusedSimpArgs false
namespace Go.Proofs.Ytdpogmibahaklaa
open Go.RowKit

theorem run_wide {x r : Nat} (h : wide x = some r) (w : World) : (convert 36 35 (.float .f32 x)).run Try.prog w = .ok (.float .f64 r) w :=
  run_convert_float_float w 36 35 .f32 .f64 x r (by rw [Try.underlying36]; rfl) Try.underlying35 h
theorem run_narrow {x r : Nat} (h : narrow x = some r) (w : World) : (convert 35 36 (.float .f64 x)).run Try.prog w = .ok (.float .f32 r) w :=
  run_convert_float_float w 35 36 .f64 .f32 x r (by rw [Try.underlying35]; rfl) Try.underlying36 h
theorem run_fop {op : BinOp} {k : FloatKind} {x y r : Nat} (h : floatBits op k x y = some r) (t : TypeId) (w : World) : (binOp op t (.float k x) (.float k y)).run Try.prog w = .ok (.float k r) w :=
  run_float_arith w op t k x y r h

theorem times_any (x y : C) (r : Nat × Nat) (w : World) (h : timesF x y = some r) :
    Calls Try.prog 149 #[cv x, cv y] w fun e w' => e = .returned (.tuple #[.float .f64 r.1, .float .f64 r.2]) ∧ w' = w := by
  obtain ⟨x1, x2⟩ := x
  obtain ⟨y1, y2⟩ := y
  simp only [timesF, Option.bind_eq_some_iff] at h
  obtain ⟨a, ha, b, hb, c, hc, d, hd, ac, hac, bd, hbd, re, hre, ad, had, bc, hbc, im, him, h⟩ := h
  cases h
  have ha' := @run_wide _ _ ha
  have hb' := @run_wide _ _ hb
  have hc' := @run_wide _ _ hc
  have hd' := @run_wide _ _ hd
  have f1 := run_fop hac
  have f2 := run_fop hbd
  have f3 := run_fop hre
  have f4 := run_fop had
  have f5 := run_fop hbc
  have f6 := run_fop him
  clear ha hb hc hd hac hbd hre had hbc him
  unfold cv
  go_enter Try.func149, Try.ntmps149
  go_wp2_with (simp only [ha', hb', hc', hd', f1, f2, f3, f4, f5, f6])
  go_ret2
  exact ⟨rfl, rfl⟩

theorem mul_any (x y r : C) (w : World) (h : mulF x y = some r) :
    Calls Try.prog 88 #[cv x, cv y] w fun e w' => e = .returned (cv r) ∧ w' = w := by
  simp only [mulF, Option.bind_eq_some_iff] at h
  obtain ⟨p, hp, a, ha, b, hb, h⟩ := h
  cases h
  have ha' := @run_narrow _ _ ha
  have hb' := @run_narrow _ _ hb
  clear ha hb
  go_enter Try.func88, Try.ntmps88
  go_wp2_with (first | (go_at_call 149; refine (times_any _ _ _ _ hp).mono ?_; rintro e w' ⟨rfl, rfl⟩) | simp only [ha', hb'])
  go_ret
  exact ⟨rfl, rfl⟩

theorem plus_any (x y r : C) (w : World) (h : plusF x y = some r) :
    Calls Try.prog 103 #[cv x, cv y] w fun e w' => e = .returned (cv r) ∧ w' = w := by
  simp only [plusF, Option.bind_eq_some_iff] at h
  obtain ⟨a, ha, b, hb, h⟩ := h
  cases h
  have f1 := run_fop ha
  have f2 := run_fop hb
  clear ha hb
  unfold cv
  go_enter Try.func103, Try.ntmps103
  go_wp2_with (simp only [f1, f2])
  go_ret
  exact ⟨rfl, rfl⟩

theorem minus_any (x y r : C) (w : World) (h : minusF x y = some r) :
    Calls Try.prog 85 #[cv x, cv y] w fun e w' => e = .returned (cv r) ∧ w' = w := by
  simp only [minusF, Option.bind_eq_some_iff] at h
  obtain ⟨a, ha, b, hb, h⟩ := h
  cases h
  have f1 := run_fop ha
  have f2 := run_fop hb
  clear ha hb
  unfold cv
  go_enter Try.func85, Try.ntmps85
  go_wp2_with (simp only [f1, f2])
  go_ret
  exact ⟨rfl, rfl⟩

theorem scale_any (x : C) (k : Nat) (r : C) (w : World) (h : scaleF x k = some r) :
    Calls Try.prog 108 #[cv x, .float .f32 k] w fun e w' => e = .returned (cv r) ∧ w' = w := by
  simp only [scaleF, Option.bind_eq_some_iff] at h
  obtain ⟨a, ha, b, hb, h⟩ := h
  cases h
  have f1 := run_fop ha
  have f2 := run_fop hb
  clear ha hb
  unfold cv
  go_enter Try.func108, Try.ntmps108
  go_wp2_with (simp only [f1, f2])
  go_ret
  exact ⟨rfl, rfl⟩

theorem part_any (x : C) (k : Int) (r : C) (w : World) (h : partF x k = some r) :
    Calls Try.prog 109 #[cv x, .int .i64 k] w fun e w' => e = .returned (cv r) ∧ w' = w := by
  simp only [partF, Option.bind_eq_some_iff] at h
  obtain ⟨a, ha, b, hb, h⟩ := h
  cases h
  have f1 := run_fop ha
  have f2 := run_fop hb
  clear ha hb
  unfold cv
  go_enter Try.func109, Try.ntmps109
  go_wp2_with (simp only [f1, f2])
  go_ret
  exact ⟨rfl, rfl⟩

theorem conj_any (x : C) (w : World) :
    Calls Try.prog 150 #[cv x] w fun e w' => e = .returned (cv (conjF x)) ∧ w' = w := by
  have hn : ∀ (b : Nat), Op.unary .neg (.float .f32 b) = pure (.float .f32 (Op.negFloat .f32 b)) := fun _ => rfl
  unfold cv
  go_enter Try.func150, Try.ntmps150
  go_wp2_with (simp only [hn])
  go_ret
  exact ⟨rfl, rfl⟩

theorem power_any (x : C) (r : Nat) (w : World) (h : powerF x = some r) :
    Calls Try.prog 148 #[cv x] w fun e w' => e = .returned (.float .f64 r) ∧ w' = w := by
  simp only [powerF, Option.bind_eq_some_iff] at h
  obtain ⟨a, ha, b, hb, aa, haa, bb, hbb, hr⟩ := h
  have ha' := @run_wide _ _ ha
  have hb' := @run_wide _ _ hb
  have f1 := run_fop haa
  have f2 := run_fop hbb
  have f3 := run_fop hr
  clear ha hb haa hbb hr
  unfold cv
  go_enter Try.func148, Try.ntmps148
  go_wp2_with (simp only [ha', hb', f1, f2, f3])
  go_ret
  exact ⟨rfl, rfl⟩

theorem quot_any (x y r : C) (w : World) (h : quotF x y = some r) :
    Calls Try.prog 87 #[cv x, cv y] w fun e w' => e = .returned (cv r) ∧ w' = w := by
  simp only [quotF, Option.bind_eq_some_iff] at h
  obtain ⟨n, hn, p, hp, a, ha, re, hre, b, hb, im, him, h⟩ := h
  cases h
  have f1 := run_fop ha
  have f2 := run_fop hb
  have f3 := @run_narrow _ _ hre
  have f4 := @run_narrow _ _ him
  clear ha hb hre him
  go_enter Try.func87, Try.ntmps87
  go_wp2_with (first | (go_at_call 150; refine (conj_any _ _).mono ?_; rintro e w' ⟨rfl, rfl⟩) | (go_at_call 149; refine (times_any _ _ _ _ hn).mono ?_; rintro e w' ⟨rfl, rfl⟩) | (go_at_call 148; refine (power_any _ _ _ hp).mono ?_; rintro e w' ⟨rfl, rfl⟩) | simp only [f1, f2, f3, f4])
  go_ret
  exact ⟨rfl, rfl⟩

theorem powerWide_any (x : C) (r : Nat) (w : World) (h : powerF x = some r) :
    Calls Try.prog 163 #[cv x] w fun e w' => e = .returned (.float .f64 r) ∧ w' = w := by
  simp only [powerF, Option.bind_eq_some_iff] at h
  obtain ⟨a, ha, b, hb, aa, haa, bb, hbb, hr⟩ := h
  have ha' := @run_wide _ _ ha
  have hb' := @run_wide _ _ hb
  have f1 := run_fop haa
  have f2 := run_fop hbb
  have f3 := run_fop hr
  clear ha hb haa hbb hr
  unfold cv
  go_enter Try.func163, Try.ntmps163
  go_wp2_with (simp only [ha', hb', f1, f2, f3])
  go_ret
  exact ⟨rfl, rfl⟩

theorem run_sqrt {x r : Nat} (h : Ieee.double.sqrt x = some r) (w : World) : (callFunc 177 #[.float .f64 x]).run Try.prog w = .ok (.value (.float .f64 r)) w := by
  rw [run_callFunc_extern Try.func177 (by kernel_rfl) (by kernel_rfl) (by kernel_rfl) (e := Extern.MathSqrt.sqrt) (by kernel_rfl)]
  have h' : FloatKind.f64.format.sqrt x = some r := h
  have : (Extern.MathSqrt.sqrt #[Value.float FloatKind.f64 x]) = (pure (Value.float FloatKind.f64 r) : Sem Value) := by
    show (match FloatKind.f64.format.sqrt x with | some r => (pure (Value.float FloatKind.f64 r) : Sem Value) | none => _) = _
    rw [h']
  rw [this]
  rfl

theorem sqrt_any (x r : Nat) (w : World) (h : Ieee.double.sqrt x = some r) :
    Calls Try.prog 147 #[.float .f64 x] w fun e w' => e = .returned (.float .f64 r) ∧ w' = w := by
  have hr := fun w => run_sqrt h w
  clear h
  go_enter Try.func147, Try.ntmps147
  go_wp2_with (simp only [hr])
  go_ret
  exact ⟨rfl, rfl⟩

theorem lnarrow_any (x r : Nat) (w : World) (h : narrow x = some r) :
    Calls Try.prog 162 #[.float .f64 x] w fun e w' => e = .returned (.float .f32 r) ∧ w' = w := by
  have hr := @run_narrow _ _ h
  clear h
  go_enter Try.func162, Try.ntmps162
  go_wp2_with (simp only [hr])
  go_ret
  exact ⟨rfl, rfl⟩

theorem l01Long_any (x : C) (r : Nat) (w : World) (h : longF x = some r) :
    Calls Try.prog 97 #[cv x] w fun e w' => e = .returned (.float .f32 r) ∧ w' = w := by
  simp only [longF, Option.bind_eq_some_iff] at h
  obtain ⟨p, hp, s, hs, hr⟩ := h
  go_enter Try.func97, Try.ntmps97
  go_wp2_with (first | (go_at_call 163; refine (powerWide_any _ _ _ hp).mono ?_; rintro e w' ⟨rfl, rfl⟩) | (go_at_call 147; refine (sqrt_any _ _ _ hs).mono ?_; rintro e w' ⟨rfl, rfl⟩) | (go_at_call 162; refine (lnarrow_any _ _ _ hr).mono ?_; rintro e w' ⟨rfl, rfl⟩))
  go_ret
  exact ⟨rfl, rfl⟩

theorem longOf_any (x : C) (r : Nat) (w : World) (h : longF x = some r) :
    Calls Try.prog 16 #[cv x] w fun e w' => e = .returned (.float .f32 r) ∧ w' = w := by
  go_enter Try.func16, Try.ntmps16
  go_wp2_with (go_at_call 97; refine (l01Long_any _ _ _ h).mono ?_; rintro e w' ⟨rfl, rfl⟩)
  go_ret
  exact ⟨rfl, rfl⟩

end Go.Proofs.Ytdpogmibahaklaa
