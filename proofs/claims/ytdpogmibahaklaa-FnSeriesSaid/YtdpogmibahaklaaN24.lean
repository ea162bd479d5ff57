/- What the statement asks of the draws' series. -/
import Derived.Test.YtdpogmibahaklaaN23
set_option linter.unusedVariables false
set_option linter.unusedSimpArgs false
namespace Go.Proofs.Ytdpogmibahaklaa

theorem serAll : SerAll := by
  intro n a b n2 n7 la lb qa qb a0 b0
  have ga := good_P n2 n7 la qa
  have gb := good_P n2 n7 lb qb
  refine ⟨ser1 n2 n7 la lb qa qb a0 b0, ?_, ser3 n2 la a0 ga⟩
  have h1 : 1 < b.length := by omega
  refine ser2' n2 n7 (by rw [List.length_set]; exact lb) ?_ ?_ ?_
  · rw [getD_set 0 h1, if_neg (by omega)]; exact b0
  · rw [getD_set 1 h1, if_pos rfl]
  · intro j hj
    by_cases e : j = 1
    · subst e; exact Good.set_eq h1 Fin_one ((Le.one.of_eq V_one.symm).mono (by decide +kernel))
    · exact (gb j hj).set_ne h1 e
end Go.Proofs.Ytdpogmibahaklaa
