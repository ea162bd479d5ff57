/- Words of 32 bits. -/
import Derived.Test.YtdpogmibahaklaaN20
set_option linter.unusedVariables false
set_option linter.unusedSimpArgs false
namespace Go.Proofs.Ytdpogmibahaklaa

theorem word_lt (neg : Bool) {rung : Nat} (h : rung < 2147483648) : Ieee.single.word neg rung < 4294967296 := by
  have hs : Ieee.single.signWeight = 2147483648 := by decide
  unfold Ieee.Format.word
  rw [hs]
  split <;> omega
theorem write_lt (d : Ieee.Datum) : Ieee.single.write d < 4294967296 := by
  have hi : Ieee.single.infRung = 2139095040 := by decide
  have hb : Ieee.single.binade = 8388608 := by decide
  cases d with
  | number s m e =>
    show Ieee.single.nearest s m e < _
    unfold Ieee.Format.nearest
    split
    · exact word_lt _ (by omega)
    · exact word_lt _ (Nat.lt_of_le_of_lt (Nat.min_le_right _ _) (by rw [hi]; omega))
  | infinity s => exact word_lt _ (by rw [hi]; omega)
  | nan s f => exact word_lt _ (by rw [hi, hb]; omega)
theorem add_lt {x y r : Nat} (h : floatBits .add .f32 x y = some r) : r < 4294967296 := by
  have h' : Ieee.single.add x y = some r := h
  unfold Ieee.Format.add at h'
  rw [Option.map_eq_some_iff] at h'
  obtain ⟨d, _, rfl⟩ := h'
  exact write_lt d
theorem plain_of {x : Nat} (h : fin .f32 x) (hl : x < 4294967296) : Plain x := by
  refine ⟨?_, hl⟩
  have ho : Ieee.single.order x x = _ := order_ok h h
  rw [ho, if_neg (Rat.lt_irrefl), if_pos rfl]
end Go.Proofs.Ytdpogmibahaklaa
