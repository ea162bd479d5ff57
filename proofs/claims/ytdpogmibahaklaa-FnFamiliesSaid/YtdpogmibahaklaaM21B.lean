/- Printed by tabm.py: the statement on families: what is concrete in it, decided. -/
import Derived.Test.YtdpogmibahaklaaM20
set_option linter.unusedVariables false
set_option linter.unusedSimpArgs false
namespace Go.Proofs.Ytdpogmibahaklaa
open Go.RowKit

set_option maxRecDepth 1000000
theorem pt2x0 : pointC 2 0 = true := by kernel_rfl
theorem pt2x1 : pointC 2 1 = true := by kernel_rfl
theorem pt2x2 : pointC 2 2 = true := by kernel_rfl
theorem pt2x3 : pointC 2 3 = true := by kernel_rfl
theorem pt2x4 : pointC 2 4 = true := by kernel_rfl
theorem pt2x5 : pointC 2 5 = true := by kernel_rfl
theorem pt2x6 : pointC 2 6 = true := by kernel_rfl
theorem pt2x7 : pointC 2 7 = true := by kernel_rfl
theorem pt2x8 : pointC 2 8 = true := by kernel_rfl
theorem pt2x9 : pointC 2 9 = true := by kernel_rfl
theorem pt2x10 : pointC 2 10 = true := by kernel_rfl
theorem pt2x11 : pointC 2 11 = true := by kernel_rfl
theorem pt2x12 : pointC 2 12 = true := by kernel_rfl
theorem pt2x13 : pointC 2 13 = true := by kernel_rfl
theorem pt2x14 : pointC 2 14 = true := by kernel_rfl
theorem pt2x15 : pointC 2 15 = true := by kernel_rfl
theorem pt2x16 : pointC 2 16 = true := by kernel_rfl
theorem point2 : ∀ v, v < 17 → pointC 2 v = true
  | 0, _ => pt2x0
  | 1, _ => pt2x1
  | 2, _ => pt2x2
  | 3, _ => pt2x3
  | 4, _ => pt2x4
  | 5, _ => pt2x5
  | 6, _ => pt2x6
  | 7, _ => pt2x7
  | 8, _ => pt2x8
  | 9, _ => pt2x9
  | 10, _ => pt2x10
  | 11, _ => pt2x11
  | 12, _ => pt2x12
  | 13, _ => pt2x13
  | 14, _ => pt2x14
  | 15, _ => pt2x15
  | 16, _ => pt2x16
  | n + 17, h => absurd h (by omega)
theorem pt3x0 : pointC 3 0 = true := by kernel_rfl
theorem pt3x1 : pointC 3 1 = true := by kernel_rfl
theorem pt3x2 : pointC 3 2 = true := by kernel_rfl
theorem pt3x3 : pointC 3 3 = true := by kernel_rfl
theorem pt3x4 : pointC 3 4 = true := by kernel_rfl
theorem pt3x5 : pointC 3 5 = true := by kernel_rfl
theorem pt3x6 : pointC 3 6 = true := by kernel_rfl
theorem pt3x7 : pointC 3 7 = true := by kernel_rfl
theorem pt3x8 : pointC 3 8 = true := by kernel_rfl
theorem pt3x9 : pointC 3 9 = true := by kernel_rfl
theorem pt3x10 : pointC 3 10 = true := by kernel_rfl
theorem pt3x11 : pointC 3 11 = true := by kernel_rfl
theorem pt3x12 : pointC 3 12 = true := by kernel_rfl
theorem pt3x13 : pointC 3 13 = true := by kernel_rfl
theorem pt3x14 : pointC 3 14 = true := by kernel_rfl
theorem pt3x15 : pointC 3 15 = true := by kernel_rfl
theorem pt3x16 : pointC 3 16 = true := by kernel_rfl
theorem point3 : ∀ v, v < 17 → pointC 3 v = true
  | 0, _ => pt3x0
  | 1, _ => pt3x1
  | 2, _ => pt3x2
  | 3, _ => pt3x3
  | 4, _ => pt3x4
  | 5, _ => pt3x5
  | 6, _ => pt3x6
  | 7, _ => pt3x7
  | 8, _ => pt3x8
  | 9, _ => pt3x9
  | 10, _ => pt3x10
  | 11, _ => pt3x11
  | 12, _ => pt3x12
  | 13, _ => pt3x13
  | 14, _ => pt3x14
  | 15, _ => pt3x15
  | 16, _ => pt3x16
  | n + 17, h => absurd h (by omega)
end Go.Proofs.Ytdpogmibahaklaa
