/- The program's SeriesShared, and the reference's comparison of numbers, return what the plain functions of bits say. -/
import Derived.Test.YtdpogmibahaklaaW9
set_option linter.unusedVariables false
set_option linter.unusedSimpArgs false
namespace Go.Proofs.Ytdpogmibahaklaa
open Go.RowKit

/-- The values at points, one after another. -/
def sharedF (a ps : List C) : Option (List C) := stepsF (fun k out => (nestF a (ps.getD k zero)).bind fun c => some (out ++ [c])) ps.length 0 []

set_option maxRecDepth 100000 in
set_option maxHeartbeats 400000 in
theorem seriesShared_any (a ps : List C) (A B : Option Addr) (n c m d : Nat) (k : Int) (r : List C) (w : World) (hA : ReadsC w A n a) (hB : ReadsC w B m ps) (ha : SerC a) (hm : m ≤ 256) (h1 : 1 ≤ k) (h2 : k ≤ 8)
    (hp : ∀ p ∈ ps, FinC p ∧ ∀ v, nestF a p = some v → FinC v) (h : sharedF a ps = some r) :
    Calls Try.prog 36 #[.slice A n c, .slice B m d, .int .i64 k] w (MadeC w r) := by
  obtain ⟨i0, hi, hz0, hz1, hz2⟩ := info_parts Try.info26
  have hl := hB.len
  unfold sharedF at h
  rw [hl] at h
  have hps : ∀ j, j < m → FinC (ps.getD j zero) ∧ ∀ v, nestF a (ps.getD j zero) = some v → FinC v := by
    intro j hj
    refine hp _ ?_
    rw [List.getD_eq_getElem?_getD, List.getElem?_eq_getElem (by omega)]
    exact List.getElem_mem _
  have Hps := Lib.hid hps
  clear hl hp hps
  have hm' : (m : Int) ≤ 256 := by omega
  go_enter Try.func36, Try.ntmps36
  go_wp2_with fail
  refine Calls.below (isSeries_any a _ _ _ _ hA ha) ?_
  intro w1 hb1
  go_wp2_with fail
  refine Calls.same (areWorkers_any k _ h1 h2) ?_
  go_wp2_with fail
  have hO : OwnC (w1.alloc (Obj.cells #[] 26)) w1.heap.size (.slice (some ⟨w1.heap.size, 0, none⟩) 0 0) [] := ⟨World.ownsRow_lit w1 #[] 0 (Nat.le_refl _) (by unfold maxLen; omega) rfl⟩
  have hb0 : Below w1.heap.size w1 (w1.alloc (Obj.cells #[] 26)) := (Below.refl _ _).alloc (Nat.le_refl _) _
  have hA1 := hA.below hb1
  have hB1 := hB.below hb1
  generalize w1.alloc (Obj.cells #[] 26) = w3 at *
  go_loopw [8, 10, 11, 12, 29] (fun v _ _ _ i wr => ∃ (j : Nat) (out : List C), j ≤ m ∧ out.length = j ∧ i = .int .i64 (j : Int) ∧ stepsF (fun k out => (nestF a (ps.getD k zero)).bind fun c => some (out ++ [c])) (m - j) j out = some r ∧ OwnC wr w1.heap.size v out ∧ Below w1.heap.size w1 wr) (fun _ _ _ _ i _ => m - (intOf i).toNat)
  case atStart => exact ⟨0, [], by omega, rfl, rfl, h, hO, hb0⟩
  case round =>
    clear hO hb0 h
    obtain ⟨j, out, hj, hlen, rfl, hrec, hO, hb⟩ := hrel
    by_cases hlt : j < m
    · have e1 : (j : Int) < (m : Int) := by omega
      rw [show m - j = (m - (j + 1)) + 1 by omega] at hrec
      obtain ⟨out', hst, hrec⟩ := stepsF_succ hrec
      simp only [Option.bind_eq_some_iff] at hst
      obtain ⟨s, hs, hout⟩ := hst
      cases hout
      have hBr := hB1.below hb
      obtain ⟨bd, rfl, hc⟩ := hBr.cells (by omega)
      have c0 := hc j hlt
      clear hc
      obtain ⟨fz, fs⟩ := Hps.out j hlt
      have fs' := fs s hs
      clear fs
      generalize ps.getD j zero = y at c0 hs fz
      unfold cv at c0
      have Hlen := Lib.hid hlen
      clear hlen
      go_wp2_with fail
      refine Calls.below (seriesAt_any a y A n c s _ (hA1.below hb) ha fz hs fs') ?_
      intro w4 hb4
      have hO4 := hO.below hb4
      have hb4' := below_then hb hb4 hb.size
      unfold cv
      go_wp2_with (at_builtin; refine wpList_append_own _ rfl (.tmp 41) (.tmp 43) 24 rfl w1.heap.size 26 i0 _ 1 8 Try.underlying24 hi hz0 hz1 hz2 rfl (by decide) _ out.length (out.map cv) rfl (hO4.out.alloc _) ⟨w4.heap.size, 0, none⟩ 1 1 [cv s] rfl rfl ?c1 ?c2 ?c3 ?c4 ?c5 ?_)
      case c1 => exact cell_one_new _ _ _
      case c2 => intro u hu; simp at hu; subst hu; rfl
      case c3 => have := Hlen.out; unfold maxLen; omega
      case c4 => have := Hlen.out; omega
      case c5 => have := hb4'.size; simp; omega
      intro v' w5 hown hgrow _
      have hO5 := OwnC.appended hown
      have hb5 := hO4.grown hb4' (by have := hb4'.size; omega) _ hgrow
      have hl5 : (out ++ [s]).length = j + 1 := by rw [List.length_append, Hlen.out]; rfl
      clear hown hgrow
      go_wp2
      go_roundw
      case rel => exact ⟨j + 1, out ++ [s], by omega, hl5, by go_num, hrec, hO5, hb5⟩
      case measure => simp [intOf]; omega
    · have e1 : ¬ (j : Int) < (m : Int) := by omega
      obtain rfl : j = m := by omega
      rw [Nat.sub_self] at hrec
      obtain rfl := stepsF_zero hrec
      obtain ⟨A', c', hv, hR⟩ := hO.slice
      have Hv := Lib.hid hv
      clear hv hlen
      go_wp2
      go_ret2
      refine ⟨A', c', congrArg (fun v => Ending.returned (.tuple #[v, .bool true])) Hv.out, ?_, below_seq hb1 hb⟩
      rw [← Hv.out]
      exact hO.mono hb1.size

theorem run_bits32 (x : Nat) (w : World) : (callFunc 186 #[.float .f32 x]).run Try.prog w = .ok (.value (.int .u32 (x : Int))) w := by
  rw [run_callFunc_extern Try.func186 (by kernel_rfl) (by kernel_rfl) (by kernel_rfl) (e := Extern.MathFloatBits.float32bits) (by kernel_rfl)]
  rfl

/-- A number that is equal to itself, of 32 bits. -/
structure Plain (x : Nat) : Prop where
  eq : Ieee.single.order x x = some .eq
  lt : x < 4294967296

theorem l01Bits_any (x : Nat) (w : World) (h : Plain x) :
    Calls Try.prog 181 #[.float .f32 x] w fun e w' => e = .returned (.int .i64 (x : Int)) ∧ w' = w := by
  have f2 : FloatKind.f32.format.order x x = some .eq := h.eq
  have hl : (x : Int) < 4294967296 := by have := h.lt; omega
  have hr := fun w => run_bits32 x w
  go_enter Try.func181, Try.ntmps181
  go_wp2_with (simp only [hr])
  go_ret
  exact ⟨rfl, rfl⟩

theorem l01Same_any (x : Nat) (w : World) (h : Plain x) :
    Calls Try.prog 165 #[.float .f32 x, .float .f32 x] w fun e w' => e = .returned (.bool true) ∧ w' = w := by
  go_enter Try.func165, Try.ntmps165
  go_wp2_with (go_at_call 181; refine (l01Bits_any x _ h).mono ?_; rintro e w' ⟨rfl, rfl⟩)
  go_ret
  exact ⟨by simp, rfl⟩

theorem l01CSame_any (x : C) (w : World) (h1 : Plain x.1) (h2 : Plain x.2) :
    Calls Try.prog 113 #[cv x, cv x] w fun e w' => e = .returned (.bool true) ∧ w' = w := by
  unfold cv
  go_enter Try.func113, Try.ntmps113
  go_wp2_with fail
  refine Calls.same (l01Same_any _ _ h1) ?_
  go_wp2_with fail
  refine Calls.same (l01Same_any _ _ h2) ?_
  go_wp2
  go_ret
  exact ⟨rfl, rfl⟩

theorem sameComplex_any (x : C) (w : World) (h1 : Plain x.1) (h2 : Plain x.2) :
    Calls Try.prog 37 #[cv x, cv x] w fun e w' => e = .returned (.bool true) ∧ w' = w := by
  go_enter Try.func37, Try.ntmps37
  go_wp2_with (go_at_call 113; refine (l01CSame_any x _ h1 h2).mono ?_; rintro e w' ⟨rfl, rfl⟩)
  go_ret
  exact ⟨rfl, rfl⟩
end Go.Proofs.Ytdpogmibahaklaa
