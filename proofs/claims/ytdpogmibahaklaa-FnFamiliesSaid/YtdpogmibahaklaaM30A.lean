/- Printed by tabn.py: the statement on families: the forms' distances, decided. -/
import Derived.Test.YtdpogmibahaklaaM29
set_option linter.unusedVariables false
set_option linter.unusedSimpArgs false
namespace Go.Proofs.Ytdpogmibahaklaa

set_option maxRecDepth 1000000
/-- All counts of weights at one point. -/
def toldAllB (kind v : Nat) : Bool :=
  match pointF v with
  | some x => (List.range 6).all fun c => toldB kind x (c + 1) (atsF kind x)
  | none => false
theorem td0x0 : toldAllB 0 0 = true := by kernel_rfl
theorem td0x1 : toldAllB 0 1 = true := by kernel_rfl
theorem td0x2 : toldAllB 0 2 = true := by kernel_rfl
theorem td0x3 : toldAllB 0 3 = true := by kernel_rfl
theorem td0x4 : toldAllB 0 4 = true := by kernel_rfl
theorem td0x5 : toldAllB 0 5 = true := by kernel_rfl
theorem td0x6 : toldAllB 0 6 = true := by kernel_rfl
theorem td0x7 : toldAllB 0 7 = true := by kernel_rfl
theorem td0x8 : toldAllB 0 8 = true := by kernel_rfl
theorem td0x9 : toldAllB 0 9 = true := by kernel_rfl
theorem td0x10 : toldAllB 0 10 = true := by kernel_rfl
theorem td0x11 : toldAllB 0 11 = true := by kernel_rfl
theorem td0x12 : toldAllB 0 12 = true := by kernel_rfl
theorem td0x13 : toldAllB 0 13 = true := by kernel_rfl
theorem td0x14 : toldAllB 0 14 = true := by kernel_rfl
theorem td0x15 : toldAllB 0 15 = true := by kernel_rfl
theorem td0x16 : toldAllB 0 16 = true := by kernel_rfl
theorem told0 : ∀ v, v < 17 → toldAllB 0 v = true
  | 0, _ => td0x0
  | 1, _ => td0x1
  | 2, _ => td0x2
  | 3, _ => td0x3
  | 4, _ => td0x4
  | 5, _ => td0x5
  | 6, _ => td0x6
  | 7, _ => td0x7
  | 8, _ => td0x8
  | 9, _ => td0x9
  | 10, _ => td0x10
  | 11, _ => td0x11
  | 12, _ => td0x12
  | 13, _ => td0x13
  | 14, _ => td0x14
  | 15, _ => td0x15
  | 16, _ => td0x16
  | n + 17, h => absurd h (by omega)
theorem td1x0 : toldAllB 1 0 = true := by kernel_rfl
theorem td1x1 : toldAllB 1 1 = true := by kernel_rfl
theorem td1x2 : toldAllB 1 2 = true := by kernel_rfl
theorem td1x3 : toldAllB 1 3 = true := by kernel_rfl
theorem td1x4 : toldAllB 1 4 = true := by kernel_rfl
theorem td1x5 : toldAllB 1 5 = true := by kernel_rfl
theorem td1x6 : toldAllB 1 6 = true := by kernel_rfl
theorem td1x7 : toldAllB 1 7 = true := by kernel_rfl
theorem td1x8 : toldAllB 1 8 = true := by kernel_rfl
theorem td1x9 : toldAllB 1 9 = true := by kernel_rfl
theorem td1x10 : toldAllB 1 10 = true := by kernel_rfl
theorem td1x11 : toldAllB 1 11 = true := by kernel_rfl
theorem td1x12 : toldAllB 1 12 = true := by kernel_rfl
theorem td1x13 : toldAllB 1 13 = true := by kernel_rfl
theorem td1x14 : toldAllB 1 14 = true := by kernel_rfl
theorem td1x15 : toldAllB 1 15 = true := by kernel_rfl
theorem td1x16 : toldAllB 1 16 = true := by kernel_rfl
theorem told1 : ∀ v, v < 17 → toldAllB 1 v = true
  | 0, _ => td1x0
  | 1, _ => td1x1
  | 2, _ => td1x2
  | 3, _ => td1x3
  | 4, _ => td1x4
  | 5, _ => td1x5
  | 6, _ => td1x6
  | 7, _ => td1x7
  | 8, _ => td1x8
  | 9, _ => td1x9
  | 10, _ => td1x10
  | 11, _ => td1x11
  | 12, _ => td1x12
  | 13, _ => td1x13
  | 14, _ => td1x14
  | 15, _ => td1x15
  | 16, _ => td1x16
  | n + 17, h => absurd h (by omega)
theorem td2x0 : toldAllB 2 0 = true := by kernel_rfl
theorem td2x1 : toldAllB 2 1 = true := by kernel_rfl
theorem td2x2 : toldAllB 2 2 = true := by kernel_rfl
theorem td2x3 : toldAllB 2 3 = true := by kernel_rfl
theorem td2x4 : toldAllB 2 4 = true := by kernel_rfl
theorem td2x5 : toldAllB 2 5 = true := by kernel_rfl
theorem td2x6 : toldAllB 2 6 = true := by kernel_rfl
theorem td2x7 : toldAllB 2 7 = true := by kernel_rfl
theorem td2x8 : toldAllB 2 8 = true := by kernel_rfl
theorem td2x9 : toldAllB 2 9 = true := by kernel_rfl
theorem td2x10 : toldAllB 2 10 = true := by kernel_rfl
theorem td2x11 : toldAllB 2 11 = true := by kernel_rfl
theorem td2x12 : toldAllB 2 12 = true := by kernel_rfl
theorem td2x13 : toldAllB 2 13 = true := by kernel_rfl
theorem td2x14 : toldAllB 2 14 = true := by kernel_rfl
theorem td2x15 : toldAllB 2 15 = true := by kernel_rfl
theorem td2x16 : toldAllB 2 16 = true := by kernel_rfl
theorem told2 : ∀ v, v < 17 → toldAllB 2 v = true
  | 0, _ => td2x0
  | 1, _ => td2x1
  | 2, _ => td2x2
  | 3, _ => td2x3
  | 4, _ => td2x4
  | 5, _ => td2x5
  | 6, _ => td2x6
  | 7, _ => td2x7
  | 8, _ => td2x8
  | 9, _ => td2x9
  | 10, _ => td2x10
  | 11, _ => td2x11
  | 12, _ => td2x12
  | 13, _ => td2x13
  | 14, _ => td2x14
  | 15, _ => td2x15
  | 16, _ => td2x16
  | n + 17, h => absurd h (by omega)
theorem td3x0 : toldAllB 3 0 = true := by kernel_rfl
theorem td3x1 : toldAllB 3 1 = true := by kernel_rfl
theorem td3x2 : toldAllB 3 2 = true := by kernel_rfl
theorem td3x3 : toldAllB 3 3 = true := by kernel_rfl
theorem td3x4 : toldAllB 3 4 = true := by kernel_rfl
theorem td3x5 : toldAllB 3 5 = true := by kernel_rfl
theorem td3x6 : toldAllB 3 6 = true := by kernel_rfl
theorem td3x7 : toldAllB 3 7 = true := by kernel_rfl
theorem td3x8 : toldAllB 3 8 = true := by kernel_rfl
theorem td3x9 : toldAllB 3 9 = true := by kernel_rfl
theorem td3x10 : toldAllB 3 10 = true := by kernel_rfl
theorem td3x11 : toldAllB 3 11 = true := by kernel_rfl
theorem td3x12 : toldAllB 3 12 = true := by kernel_rfl
theorem td3x13 : toldAllB 3 13 = true := by kernel_rfl
theorem td3x14 : toldAllB 3 14 = true := by kernel_rfl
theorem td3x15 : toldAllB 3 15 = true := by kernel_rfl
theorem td3x16 : toldAllB 3 16 = true := by kernel_rfl
theorem told3 : ∀ v, v < 17 → toldAllB 3 v = true
  | 0, _ => td3x0
  | 1, _ => td3x1
  | 2, _ => td3x2
  | 3, _ => td3x3
  | 4, _ => td3x4
  | 5, _ => td3x5
  | 6, _ => td3x6
  | 7, _ => td3x7
  | 8, _ => td3x8
  | 9, _ => td3x9
  | 10, _ => td3x10
  | 11, _ => td3x11
  | 12, _ => td3x12
  | 13, _ => td3x13
  | 14, _ => td3x14
  | 15, _ => td3x15
  | 16, _ => td3x16
  | n + 17, h => absurd h (by omega)
theorem td4x0 : toldAllB 4 0 = true := by kernel_rfl
theorem td4x1 : toldAllB 4 1 = true := by kernel_rfl
theorem td4x2 : toldAllB 4 2 = true := by kernel_rfl
theorem td4x3 : toldAllB 4 3 = true := by kernel_rfl
theorem td4x4 : toldAllB 4 4 = true := by kernel_rfl
theorem td4x5 : toldAllB 4 5 = true := by kernel_rfl
theorem td4x6 : toldAllB 4 6 = true := by kernel_rfl
theorem td4x7 : toldAllB 4 7 = true := by kernel_rfl
theorem td4x8 : toldAllB 4 8 = true := by kernel_rfl
theorem td4x9 : toldAllB 4 9 = true := by kernel_rfl
theorem td4x10 : toldAllB 4 10 = true := by kernel_rfl
theorem td4x11 : toldAllB 4 11 = true := by kernel_rfl
theorem td4x12 : toldAllB 4 12 = true := by kernel_rfl
theorem td4x13 : toldAllB 4 13 = true := by kernel_rfl
theorem td4x14 : toldAllB 4 14 = true := by kernel_rfl
theorem td4x15 : toldAllB 4 15 = true := by kernel_rfl
theorem td4x16 : toldAllB 4 16 = true := by kernel_rfl
theorem told4 : ∀ v, v < 17 → toldAllB 4 v = true
  | 0, _ => td4x0
  | 1, _ => td4x1
  | 2, _ => td4x2
  | 3, _ => td4x3
  | 4, _ => td4x4
  | 5, _ => td4x5
  | 6, _ => td4x6
  | 7, _ => td4x7
  | 8, _ => td4x8
  | 9, _ => td4x9
  | 10, _ => td4x10
  | 11, _ => td4x11
  | 12, _ => td4x12
  | 13, _ => td4x13
  | 14, _ => td4x14
  | 15, _ => td4x15
  | 16, _ => td4x16
  | n + 17, h => absurd h (by omega)
end Go.Proofs.Ytdpogmibahaklaa
