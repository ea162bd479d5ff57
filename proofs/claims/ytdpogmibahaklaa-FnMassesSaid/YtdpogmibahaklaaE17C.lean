/- Printed by tabe.py: the statement on masses: its numbers, decided. -/
import Derived.Test.YtdpogmibahaklaaE16
set_option linter.unusedVariables false
set_option linter.unusedSimpArgs false
namespace Go.Proofs.Ytdpogmibahaklaa

set_option maxRecDepth 1000000
theorem ft12 : fit3B 12 = true := by kernel_rfl
theorem ft13 : fit3B 13 = true := by kernel_rfl
theorem ft14 : fit3B 14 = true := by kernel_rfl
theorem ft15 : fit3B 15 = true := by kernel_rfl
theorem ft16 : fit3B 16 = true := by kernel_rfl
end Go.Proofs.Ytdpogmibahaklaa
