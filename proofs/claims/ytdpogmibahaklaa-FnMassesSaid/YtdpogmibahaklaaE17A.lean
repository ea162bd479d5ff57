/- Printed by tabe.py: the statement on masses: its numbers, decided. -/
import Derived.Test.YtdpogmibahaklaaE16
set_option linter.unusedVariables false
set_option linter.unusedSimpArgs false
namespace Go.Proofs.Ytdpogmibahaklaa

set_option maxRecDepth 1000000
theorem ft0 : fit3B 0 = true := by kernel_rfl
theorem ft1 : fit3B 1 = true := by kernel_rfl
theorem ft2 : fit3B 2 = true := by kernel_rfl
theorem ft3 : fit3B 3 = true := by kernel_rfl
theorem ft4 : fit3B 4 = true := by kernel_rfl
theorem ft5 : fit3B 5 = true := by kernel_rfl
end Go.Proofs.Ytdpogmibahaklaa
