/- Printed by tabe.py: the statement on masses: its numbers, decided. -/
import Derived.Test.YtdpogmibahaklaaE18
set_option linter.unusedVariables false
set_option linter.unusedSimpArgs false
namespace Go.Proofs.Ytdpogmibahaklaa

set_option maxRecDepth 1000000
theorem fit1_all : fit1B = true := by kernel_rfl
theorem fit2_all : fit2B = true := by kernel_rfl
def ex1 : List Nat := [2147483648]
def ew1 : List Nat := [1073741824]
theorem ev1 : evenF 1 = some (ex1, ew1) := by kernel_rfl
theorem ek1 : evenE 1 ex1 ew1 = true := by kernel_rfl
theorem em1x1 : massE 1 1 ex1 ew1 = true := by kernel_rfl
theorem em1x2 : massE 1 2 ex1 ew1 = true := by kernel_rfl
theorem em1 : ∀ c, 1 ≤ c → c ≤ 8 → c ≤ 2 * 1 → massE 1 c ex1 ew1 = true
  | 0, h, _, _ => absurd h (by omega)
  | 1, _, _, _ => em1x1
  | 2, _, _, _ => em1x2
  | k + 3, _, h, g => absurd h (by omega)
def ex2 : List Nat := [1058262330, 3205745978]
def ew2 : List Nat := [1065353217, 1065353217]
theorem ev2 : evenF 2 = some (ex2, ew2) := by kernel_rfl
theorem ek2 : evenE 2 ex2 ew2 = true := by kernel_rfl
theorem em2x1 : massE 2 1 ex2 ew2 = true := by kernel_rfl
theorem em2x2 : massE 2 2 ex2 ew2 = true := by kernel_rfl
theorem em2x3 : massE 2 3 ex2 ew2 = true := by kernel_rfl
theorem em2x4 : massE 2 4 ex2 ew2 = true := by kernel_rfl
theorem em2 : ∀ c, 1 ≤ c → c ≤ 8 → c ≤ 2 * 2 → massE 2 c ex2 ew2 = true
  | 0, h, _, _ => absurd h (by omega)
  | 1, _, _, _ => em2x1
  | 2, _, _, _ => em2x2
  | 3, _, _, _ => em2x3
  | 4, _, _, _ => em2x4
  | k + 5, _, h, g => absurd h (by omega)
def ex3 : List Nat := [1061571576, 2147483648, 3209055224]
def ew3 : List Nat := [1057896675, 1063489081, 1057896675]
theorem ev3 : evenF 3 = some (ex3, ew3) := by kernel_rfl
theorem ek3 : evenE 3 ex3 ew3 = true := by kernel_rfl
theorem em3x1 : massE 3 1 ex3 ew3 = true := by kernel_rfl
theorem em3x2 : massE 3 2 ex3 ew3 = true := by kernel_rfl
theorem em3x3 : massE 3 3 ex3 ew3 = true := by kernel_rfl
theorem em3x4 : massE 3 4 ex3 ew3 = true := by kernel_rfl
theorem em3x5 : massE 3 5 ex3 ew3 = true := by kernel_rfl
theorem em3x6 : massE 3 6 ex3 ew3 = true := by kernel_rfl
theorem em3 : ∀ c, 1 ≤ c → c ≤ 8 → c ≤ 2 * 3 → massE 3 c ex3 ew3 = true
  | 0, h, _, _ => absurd h (by omega)
  | 1, _, _, _ => em3x1
  | 2, _, _, _ => em3x2
  | 3, _, _, _ => em3x3
  | 4, _, _, _ => em3x4
  | 5, _, _, _ => em3x5
  | 6, _, _, _ => em3x6
  | k + 7, _, h, g => absurd h (by omega)
def ex4 : List Nat := [1063023470, 1051595263, 3199078911, 3210507119]
def ew4 : List Nat := [1051859463, 1059517179, 1059517179, 1051859456]
theorem ev4 : evenF 4 = some (ex4, ew4) := by kernel_rfl
theorem ek4 : evenE 4 ex4 ew4 = true := by kernel_rfl
theorem em4x1 : massE 4 1 ex4 ew4 = true := by kernel_rfl
theorem em4x2 : massE 4 2 ex4 ew4 = true := by kernel_rfl
theorem em4x3 : massE 4 3 ex4 ew4 = true := by kernel_rfl
theorem em4x4 : massE 4 4 ex4 ew4 = true := by kernel_rfl
theorem em4x5 : massE 4 5 ex4 ew4 = true := by kernel_rfl
theorem em4x6 : massE 4 6 ex4 ew4 = true := by kernel_rfl
theorem em4x7 : massE 4 7 ex4 ew4 = true := by kernel_rfl
theorem em4x8 : massE 4 8 ex4 ew4 = true := by kernel_rfl
theorem em4 : ∀ c, 1 ≤ c → c ≤ 8 → c ≤ 2 * 4 → massE 4 c ex4 ew4 = true
  | 0, h, _, _ => absurd h (by omega)
  | 1, _, _, _ => em4x1
  | 2, _, _, _ => em4x2
  | 3, _, _, _ => em4x3
  | 4, _, _, _ => em4x4
  | 5, _, _, _ => em4x5
  | 6, _, _, _ => em4x6
  | 7, _, _, _ => em4x7
  | 8, _, _, _ => em4x8
  | k + 9, _, h, g => absurd h (by omega)
def ex5 : List Nat := [1063779176, 1057610016, 2147483648, 3205093664, 3211262824]
def ew5 : List Nat := [1047698664, 1056247502, 1058120372, 1056247502, 1047698664]
theorem ev5 : evenF 5 = some (ex5, ew5) := by kernel_rfl
theorem ek5 : evenE 5 ex5 ew5 = true := by kernel_rfl
theorem em5x1 : massE 5 1 ex5 ew5 = true := by kernel_rfl
theorem em5x2 : massE 5 2 ex5 ew5 = true := by kernel_rfl
theorem em5x3 : massE 5 3 ex5 ew5 = true := by kernel_rfl
theorem em5x4 : massE 5 4 ex5 ew5 = true := by kernel_rfl
theorem em5x5 : massE 5 5 ex5 ew5 = true := by kernel_rfl
theorem em5x6 : massE 5 6 ex5 ew5 = true := by kernel_rfl
theorem em5x7 : massE 5 7 ex5 ew5 = true := by kernel_rfl
theorem em5x8 : massE 5 8 ex5 ew5 = true := by kernel_rfl
theorem em5 : ∀ c, 1 ≤ c → c ≤ 8 → c ≤ 2 * 5 → massE 5 c ex5 ew5 = true
  | 0, h, _, _ => absurd h (by omega)
  | 1, _, _, _ => em5x1
  | 2, _, _, _ => em5x2
  | 3, _, _, _ => em5x3
  | 4, _, _, _ => em5x4
  | 5, _, _, _ => em5x5
  | 6, _, _, _ => em5x6
  | 7, _, _, _ => em5x7
  | 8, _, _, _ => em5x8
  | k + 9, _, h, g => absurd h (by omega)
def ex6 : List Nat := [1064220243, 1059669252, 1047812246, 3195295894, 3207152900, 3211703891]
def ew6 : List Nat := [1043296169, 1052292542, 1055887979, 1055887979, 1052292542, 1043296169]
theorem ev6 : evenF 6 = some (ex6, ew6) := by kernel_rfl
theorem ek6 : evenE 6 ex6 ew6 = true := by kernel_rfl
theorem em6x1 : massE 6 1 ex6 ew6 = true := by kernel_rfl
theorem em6x2 : massE 6 2 ex6 ew6 = true := by kernel_rfl
theorem em6x3 : massE 6 3 ex6 ew6 = true := by kernel_rfl
theorem em6x4 : massE 6 4 ex6 ew6 = true := by kernel_rfl
theorem em6x5 : massE 6 5 ex6 ew6 = true := by kernel_rfl
theorem em6x6 : massE 6 6 ex6 ew6 = true := by kernel_rfl
theorem em6x7 : massE 6 7 ex6 ew6 = true := by kernel_rfl
theorem em6x8 : massE 6 8 ex6 ew6 = true := by kernel_rfl
theorem em6 : ∀ c, 1 ≤ c → c ≤ 8 → c ≤ 2 * 6 → massE 6 c ex6 ew6 = true
  | 0, h, _, _ => absurd h (by omega)
  | 1, _, _, _ => em6x1
  | 2, _, _, _ => em6x2
  | 3, _, _, _ => em6x3
  | 4, _, _, _ => em6x4
  | 5, _, _, _ => em6x5
  | 6, _, _, _ => em6x6
  | 7, _, _, _ => em6x7
  | 8, _, _, _ => em6x8
  | k + 9, _, h, g => absurd h (by omega)
def ex7 : List Nat := [1064499389, 1061016829, 1053805296, 2147483648, 3201288944, 3208500477, 3211983037]
def ew7 : List Nat := [1040488364, 1049572744, 1052999482, 1054211775, 1052999482, 1049572744, 1040488364]
theorem ev7 : evenF 7 = some (ex7, ew7) := by kernel_rfl
theorem ek7 : evenE 7 ex7 ew7 = true := by kernel_rfl
theorem em7x1 : massE 7 1 ex7 ew7 = true := by kernel_rfl
theorem em7x2 : massE 7 2 ex7 ew7 = true := by kernel_rfl
theorem em7x3 : massE 7 3 ex7 ew7 = true := by kernel_rfl
theorem em7x4 : massE 7 4 ex7 ew7 = true := by kernel_rfl
theorem em7x5 : massE 7 5 ex7 ew7 = true := by kernel_rfl
theorem em7x6 : massE 7 6 ex7 ew7 = true := by kernel_rfl
theorem em7x7 : massE 7 7 ex7 ew7 = true := by kernel_rfl
theorem em7x8 : massE 7 8 ex7 ew7 = true := by kernel_rfl
theorem em7 : ∀ c, 1 ≤ c → c ≤ 8 → c ≤ 2 * 7 → massE 7 c ex7 ew7 = true
  | 0, h, _, _ => absurd h (by omega)
  | 1, _, _, _ => em7x1
  | 2, _, _, _ => em7x2
  | 3, _, _, _ => em7x3
  | 4, _, _, _ => em7x4
  | 5, _, _, _ => em7x5
  | 6, _, _, _ => em7x6
  | 7, _, _, _ => em7x7
  | 8, _, _, _ => em7x8
  | k + 9, _, h, g => absurd h (by omega)
def ex8 : List Nat := [1064686990, 1061941846, 1057392971, 1044108874, 3191592522, 3204876619, 3209425494, 3212170638]
def ew8 : List Nat := [1036996855, 1046722520, 1050713640, 1052357041, 1052357041, 1050713640, 1046722520, 1036996855]
theorem ev8 : evenF 8 = some (ex8, ew8) := by kernel_rfl
theorem ek8 : evenE 8 ex8 ew8 = true := by kernel_rfl
theorem em8x1 : massE 8 1 ex8 ew8 = true := by kernel_rfl
theorem em8x2 : massE 8 2 ex8 ew8 = true := by kernel_rfl
theorem em8x3 : massE 8 3 ex8 ew8 = true := by kernel_rfl
theorem em8x4 : massE 8 4 ex8 ew8 = true := by kernel_rfl
theorem em8x5 : massE 8 5 ex8 ew8 = true := by kernel_rfl
theorem em8x6 : massE 8 6 ex8 ew8 = true := by kernel_rfl
theorem em8x7 : massE 8 7 ex8 ew8 = true := by kernel_rfl
theorem em8x8 : massE 8 8 ex8 ew8 = true := by kernel_rfl
theorem em8 : ∀ c, 1 ≤ c → c ≤ 8 → c ≤ 2 * 8 → massE 8 c ex8 ew8 = true
  | 0, h, _, _ => absurd h (by omega)
  | 1, _, _, _ => em8x1
  | 2, _, _, _ => em8x2
  | 3, _, _, _ => em8x3
  | 4, _, _, _ => em8x4
  | 5, _, _, _ => em8x5
  | 6, _, _, _ => em8x6
  | 7, _, _, _ => em8x7
  | 8, _, _, _ => em8x8
  | k + 9, _, h, g => absurd h (by omega)
end Go.Proofs.Ytdpogmibahaklaa
