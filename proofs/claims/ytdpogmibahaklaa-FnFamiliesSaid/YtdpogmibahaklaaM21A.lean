/- Printed by tabm.py: the statement on families: what is concrete in it, decided. -/
import Derived.Test.YtdpogmibahaklaaM20
set_option linter.unusedVariables false
set_option linter.unusedSimpArgs false
namespace Go.Proofs.Ytdpogmibahaklaa
open Go.RowKit

set_option maxRecDepth 1000000
theorem pt0x0 : pointC 0 0 = true := by kernel_rfl
theorem pt0x1 : pointC 0 1 = true := by kernel_rfl
theorem pt0x2 : pointC 0 2 = true := by kernel_rfl
theorem pt0x3 : pointC 0 3 = true := by kernel_rfl
theorem pt0x4 : pointC 0 4 = true := by kernel_rfl
theorem pt0x5 : pointC 0 5 = true := by kernel_rfl
theorem pt0x6 : pointC 0 6 = true := by kernel_rfl
theorem pt0x7 : pointC 0 7 = true := by kernel_rfl
theorem pt0x8 : pointC 0 8 = true := by kernel_rfl
theorem pt0x9 : pointC 0 9 = true := by kernel_rfl
theorem pt0x10 : pointC 0 10 = true := by kernel_rfl
theorem pt0x11 : pointC 0 11 = true := by kernel_rfl
theorem pt0x12 : pointC 0 12 = true := by kernel_rfl
theorem pt0x13 : pointC 0 13 = true := by kernel_rfl
theorem pt0x14 : pointC 0 14 = true := by kernel_rfl
theorem pt0x15 : pointC 0 15 = true := by kernel_rfl
theorem pt0x16 : pointC 0 16 = true := by kernel_rfl
theorem point0 : ∀ v, v < 17 → pointC 0 v = true
  | 0, _ => pt0x0
  | 1, _ => pt0x1
  | 2, _ => pt0x2
  | 3, _ => pt0x3
  | 4, _ => pt0x4
  | 5, _ => pt0x5
  | 6, _ => pt0x6
  | 7, _ => pt0x7
  | 8, _ => pt0x8
  | 9, _ => pt0x9
  | 10, _ => pt0x10
  | 11, _ => pt0x11
  | 12, _ => pt0x12
  | 13, _ => pt0x13
  | 14, _ => pt0x14
  | 15, _ => pt0x15
  | 16, _ => pt0x16
  | n + 17, h => absurd h (by omega)
theorem pt1x0 : pointC 1 0 = true := by kernel_rfl
theorem pt1x1 : pointC 1 1 = true := by kernel_rfl
theorem pt1x2 : pointC 1 2 = true := by kernel_rfl
theorem pt1x3 : pointC 1 3 = true := by kernel_rfl
theorem pt1x4 : pointC 1 4 = true := by kernel_rfl
theorem pt1x5 : pointC 1 5 = true := by kernel_rfl
theorem pt1x6 : pointC 1 6 = true := by kernel_rfl
theorem pt1x7 : pointC 1 7 = true := by kernel_rfl
theorem pt1x8 : pointC 1 8 = true := by kernel_rfl
theorem pt1x9 : pointC 1 9 = true := by kernel_rfl
theorem pt1x10 : pointC 1 10 = true := by kernel_rfl
theorem pt1x11 : pointC 1 11 = true := by kernel_rfl
theorem pt1x12 : pointC 1 12 = true := by kernel_rfl
theorem pt1x13 : pointC 1 13 = true := by kernel_rfl
theorem pt1x14 : pointC 1 14 = true := by kernel_rfl
theorem pt1x15 : pointC 1 15 = true := by kernel_rfl
theorem pt1x16 : pointC 1 16 = true := by kernel_rfl
theorem point1 : ∀ v, v < 17 → pointC 1 v = true
  | 0, _ => pt1x0
  | 1, _ => pt1x1
  | 2, _ => pt1x2
  | 3, _ => pt1x3
  | 4, _ => pt1x4
  | 5, _ => pt1x5
  | 6, _ => pt1x6
  | 7, _ => pt1x7
  | 8, _ => pt1x8
  | 9, _ => pt1x9
  | 10, _ => pt1x10
  | 11, _ => pt1x11
  | 12, _ => pt1x12
  | 13, _ => pt1x13
  | 14, _ => pt1x14
  | 15, _ => pt1x15
  | 16, _ => pt1x16
  | n + 17, h => absurd h (by omega)
end Go.Proofs.Ytdpogmibahaklaa
