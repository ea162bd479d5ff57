/- Printed by tabe.py: the statement on masses: its numbers, decided. -/
import Derived.Test.YtdpogmibahaklaaE16
set_option linter.unusedVariables false
set_option linter.unusedSimpArgs false
namespace Go.Proofs.Ytdpogmibahaklaa

set_option maxRecDepth 1000000
theorem ft6 : fit3B 6 = true := by kernel_rfl
theorem ft7 : fit3B 7 = true := by kernel_rfl
theorem ft8 : fit3B 8 = true := by kernel_rfl
theorem ft9 : fit3B 9 = true := by kernel_rfl
theorem ft10 : fit3B 10 = true := by kernel_rfl
theorem ft11 : fit3B 11 = true := by kernel_rfl
end Go.Proofs.Ytdpogmibahaklaa
