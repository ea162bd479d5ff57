/- The statement on masses: all that its numbers must give. -/
import Derived.Test.YtdpogmibahaklaaE17A
import Derived.Test.YtdpogmibahaklaaE17B
import Derived.Test.YtdpogmibahaklaaE17C
import Derived.Test.YtdpogmibahaklaaE17D
set_option linter.unusedVariables false
set_option linter.unusedSimpArgs false
namespace Go.Proofs.Ytdpogmibahaklaa

theorem fit3_all : ∀ v, v < 17 → fit3B v = true
  | 0, _ => ft0
  | 1, _ => ft1
  | 2, _ => ft2
  | 3, _ => ft3
  | 4, _ => ft4
  | 5, _ => ft5
  | 6, _ => ft6
  | 7, _ => ft7
  | 8, _ => ft8
  | 9, _ => ft9
  | 10, _ => ft10
  | 11, _ => ft11
  | 12, _ => ft12
  | 13, _ => ft13
  | 14, _ => ft14
  | 15, _ => ft15
  | 16, _ => ft16
  | n + 17, h => absurd h (by omega)
theorem fitsOk : FitsOk := by
  intro d vs hd hl hv
  rcases (show d = 0 ∨ d = 1 ∨ d = 2 by omega) with rfl | rfl | rfl
  · match vs, hl with
    | [a], _ =>
      have ha := hv a (by simp)
      exact fitB_ok (by omega) hv (List.all_eq_true.1 fit1_all a (List.mem_range.2 ha))
  · match vs, hl with
    | [a, b], _ =>
      have ha := hv a (by simp)
      have hb := hv b (by simp)
      exact fitB_ok (by omega) hv (List.all_eq_true.1 (List.all_eq_true.1 fit2_all a (List.mem_range.2 ha)) b (List.mem_range.2 hb))
  · match vs, hl with
    | [a, b, c], _ =>
      have ha := hv a (by simp)
      have hb := hv b (by simp)
      have hc := hv c (by simp)
      have h := fit3_all a ha
      unfold fit3B at h
      exact fitQB_ok ha hb hc (List.all_eq_true.1 (List.all_eq_true.1 h b (List.mem_range.2 hb)) c (List.mem_range.2 hc))
theorem massAll : MassAll := by
  refine ⟨fitsOk, fun n n1 n8 => ?_⟩
  rcases (show n = 1 ∨ n = 2 ∨ n = 3 ∨ n = 4 ∨ n = 5 ∨ n = 6 ∨ n = 7 ∨ n = 8 by omega) with rfl | rfl | rfl | rfl | rfl | rfl | rfl | rfl
  · exact masses_of ev1 ek1 em1
  · exact masses_of ev2 ek2 em2
  · exact masses_of ev3 ek3 em3
  · exact masses_of ev4 ek4 em4
  · exact masses_of ev5 ek5 em5
  · exact masses_of ev6 ek6 em6
  · exact masses_of ev7 ek7 em7
  · exact masses_of ev8 ek8 em8
end Go.Proofs.Ytdpogmibahaklaa
