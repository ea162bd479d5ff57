/- Printed by tabn.py: the statement on families: the forms' distances, decided. -/
import Derived.Test.YtdpogmibahaklaaM29
set_option linter.unusedVariables false
set_option linter.unusedSimpArgs false
namespace Go.Proofs.Ytdpogmibahaklaa

set_option maxRecDepth 1000000
theorem bk0x0 : backB 0 1 = true := by kernel_rfl
theorem bk0x1 : backB 0 2 = true := by kernel_rfl
theorem bk0x2 : backB 0 3 = true := by kernel_rfl
theorem bk0x3 : backB 0 4 = true := by kernel_rfl
theorem bk0x4 : backB 0 5 = true := by kernel_rfl
theorem bk0x5 : backB 0 6 = true := by kernel_rfl
theorem back0 : ∀ c, c < 6 → backB 0 (c + 1) = true
  | 0, _ => bk0x0
  | 1, _ => bk0x1
  | 2, _ => bk0x2
  | 3, _ => bk0x3
  | 4, _ => bk0x4
  | 5, _ => bk0x5
  | n + 6, h => absurd h (by omega)
theorem bk1x0 : backB 1 1 = true := by kernel_rfl
theorem bk1x1 : backB 1 2 = true := by kernel_rfl
theorem bk1x2 : backB 1 3 = true := by kernel_rfl
theorem bk1x3 : backB 1 4 = true := by kernel_rfl
theorem bk1x4 : backB 1 5 = true := by kernel_rfl
theorem bk1x5 : backB 1 6 = true := by kernel_rfl
theorem back1 : ∀ c, c < 6 → backB 1 (c + 1) = true
  | 0, _ => bk1x0
  | 1, _ => bk1x1
  | 2, _ => bk1x2
  | 3, _ => bk1x3
  | 4, _ => bk1x4
  | 5, _ => bk1x5
  | n + 6, h => absurd h (by omega)
theorem bk2x0 : backB 2 1 = true := by kernel_rfl
theorem bk2x1 : backB 2 2 = true := by kernel_rfl
theorem bk2x2 : backB 2 3 = true := by kernel_rfl
theorem bk2x3 : backB 2 4 = true := by kernel_rfl
theorem bk2x4 : backB 2 5 = true := by kernel_rfl
theorem bk2x5 : backB 2 6 = true := by kernel_rfl
theorem back2 : ∀ c, c < 6 → backB 2 (c + 1) = true
  | 0, _ => bk2x0
  | 1, _ => bk2x1
  | 2, _ => bk2x2
  | 3, _ => bk2x3
  | 4, _ => bk2x4
  | 5, _ => bk2x5
  | n + 6, h => absurd h (by omega)
theorem bk3x0 : backB 3 1 = true := by kernel_rfl
theorem bk3x1 : backB 3 2 = true := by kernel_rfl
theorem bk3x2 : backB 3 3 = true := by kernel_rfl
theorem bk3x3 : backB 3 4 = true := by kernel_rfl
theorem bk3x4 : backB 3 5 = true := by kernel_rfl
theorem bk3x5 : backB 3 6 = true := by kernel_rfl
theorem back3 : ∀ c, c < 6 → backB 3 (c + 1) = true
  | 0, _ => bk3x0
  | 1, _ => bk3x1
  | 2, _ => bk3x2
  | 3, _ => bk3x3
  | 4, _ => bk3x4
  | 5, _ => bk3x5
  | n + 6, h => absurd h (by omega)
theorem bk4x0 : backB 4 1 = true := by kernel_rfl
theorem bk4x1 : backB 4 2 = true := by kernel_rfl
theorem bk4x2 : backB 4 3 = true := by kernel_rfl
theorem bk4x3 : backB 4 4 = true := by kernel_rfl
theorem bk4x4 : backB 4 5 = true := by kernel_rfl
theorem bk4x5 : backB 4 6 = true := by kernel_rfl
theorem back4 : ∀ c, c < 6 → backB 4 (c + 1) = true
  | 0, _ => bk4x0
  | 1, _ => bk4x1
  | 2, _ => bk4x2
  | 3, _ => bk4x3
  | 4, _ => bk4x4
  | 5, _ => bk4x5
  | n + 6, h => absurd h (by omega)
theorem ps0 : pointsB 1 = true := by kernel_rfl
theorem ps1 : pointsB 2 = true := by kernel_rfl
theorem ps2 : pointsB 3 = true := by kernel_rfl
theorem ps3 : pointsB 4 = true := by kernel_rfl
theorem ps4 : pointsB 5 = true := by kernel_rfl
theorem ps5 : pointsB 6 = true := by kernel_rfl
theorem points_all : ∀ c, c < 6 → pointsB (c + 1) = true
  | 0, _ => ps0
  | 1, _ => ps1
  | 2, _ => ps2
  | 3, _ => ps3
  | 4, _ => ps4
  | 5, _ => ps5
  | n + 6, h => absurd h (by omega)
end Go.Proofs.Ytdpogmibahaklaa
