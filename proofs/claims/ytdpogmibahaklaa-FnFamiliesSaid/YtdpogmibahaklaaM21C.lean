/- Printed by tabm.py: the statement on families: what is concrete in it, decided. -/
import Derived.Test.YtdpogmibahaklaaM20
set_option linter.unusedVariables false
set_option linter.unusedSimpArgs false
namespace Go.Proofs.Ytdpogmibahaklaa
open Go.RowKit

set_option maxRecDepth 1000000
theorem pt4x0 : pointC 4 0 = true := by kernel_rfl
theorem pt4x1 : pointC 4 1 = true := by kernel_rfl
theorem pt4x2 : pointC 4 2 = true := by kernel_rfl
theorem pt4x3 : pointC 4 3 = true := by kernel_rfl
theorem pt4x4 : pointC 4 4 = true := by kernel_rfl
theorem pt4x5 : pointC 4 5 = true := by kernel_rfl
theorem pt4x6 : pointC 4 6 = true := by kernel_rfl
theorem pt4x7 : pointC 4 7 = true := by kernel_rfl
theorem pt4x8 : pointC 4 8 = true := by kernel_rfl
theorem pt4x9 : pointC 4 9 = true := by kernel_rfl
theorem pt4x10 : pointC 4 10 = true := by kernel_rfl
theorem pt4x11 : pointC 4 11 = true := by kernel_rfl
theorem pt4x12 : pointC 4 12 = true := by kernel_rfl
theorem pt4x13 : pointC 4 13 = true := by kernel_rfl
theorem pt4x14 : pointC 4 14 = true := by kernel_rfl
theorem pt4x15 : pointC 4 15 = true := by kernel_rfl
theorem pt4x16 : pointC 4 16 = true := by kernel_rfl
theorem point4 : ∀ v, v < 17 → pointC 4 v = true
  | 0, _ => pt4x0
  | 1, _ => pt4x1
  | 2, _ => pt4x2
  | 3, _ => pt4x3
  | 4, _ => pt4x4
  | 5, _ => pt4x5
  | 6, _ => pt4x6
  | 7, _ => pt4x7
  | 8, _ => pt4x8
  | 9, _ => pt4x9
  | 10, _ => pt4x10
  | 11, _ => pt4x11
  | 12, _ => pt4x12
  | 13, _ => pt4x13
  | 14, _ => pt4x14
  | 15, _ => pt4x15
  | 16, _ => pt4x16
  | n + 17, h => absurd h (by omega)
theorem weight_all : ((List.range 17).all weightB) = true := by kernel_rfl
theorem fam0 : ((List.range 6).all fun k => famB 0 k) = true := by kernel_rfl
theorem fam1 : ((List.range 6).all fun k => famB 1 k) = true := by kernel_rfl
theorem fam2 : ((List.range 6).all fun k => famB 2 k) = true := by kernel_rfl
theorem fam3 : ((List.range 6).all fun k => famB 3 k) = true := by kernel_rfl
theorem fam4 : ((List.range 6).all fun k => famB 4 k) = true := by kernel_rfl
end Go.Proofs.Ytdpogmibahaklaa
