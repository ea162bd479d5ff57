/- The statement on families: all that its numbers must give. -/
import Derived.Test.YtdpogmibahaklaaM21A
import Derived.Test.YtdpogmibahaklaaM21B
import Derived.Test.YtdpogmibahaklaaM21C
import Derived.Test.YtdpogmibahaklaaM30A
import Derived.Test.YtdpogmibahaklaaM30B
set_option linter.unusedVariables false
set_option linter.unusedSimpArgs false
namespace Go.Proofs.Ytdpogmibahaklaa
open Go.RowKit

theorem point_all {kind v : Nat} (hk : kind ≤ 4) (hv : v < 17) : pointC kind v = true := by
  rcases (by omega : kind = 0 ∨ kind = 1 ∨ kind = 2 ∨ kind = 3 ∨ kind = 4) with rfl | rfl | rfl | rfl | rfl
  · exact point0 v hv
  · exact point1 v hv
  · exact point2 v hv
  · exact point3 v hv
  · exact point4 v hv
theorem fam_ok {kind k : Nat} (hk : kind ≤ 4) (h : k < 6) : ∃ f, FamOk kind k f := by
  refine famB_ok ?_
  rcases (by omega : kind = 0 ∨ kind = 1 ∨ kind = 2 ∨ kind = 3 ∨ kind = 4) with rfl | rfl | rfl | rfl | rfl
  · exact List.all_eq_true.1 fam0 k (List.mem_range.2 h)
  · exact List.all_eq_true.1 fam1 k (List.mem_range.2 h)
  · exact List.all_eq_true.1 fam2 k (List.mem_range.2 h)
  · exact List.all_eq_true.1 fam3 k (List.mem_range.2 h)
  · exact List.all_eq_true.1 fam4 k (List.mem_range.2 h)
theorem weight_ok {v : Nat} (hv : v < 17) : ∃ w, weightF v = some w ∧ finB w = some true := by
  have h := List.all_eq_true.1 weight_all v (List.mem_range.2 hv)
  unfold weightB at h
  cases hw : weightF v with
  | none => rw [hw] at h; cases h
  | some w => rw [hw] at h; exact ⟨w, rfl, finsB_iff.1 h⟩

/-- What is left of the statement: the draws' weights. -/
def FamNum : Prop := ∀ kind v x c (ws : List Nat), kind ≤ 4 → v < 17 → pointF v = some x → 1 ≤ c → c ≤ 6 → ws.length = c → (∀ w ∈ ws, ∃ v, v < 17 ∧ weightF v = some w) →
  ∃ sum size out back pts fit, stepsF (fun k s => sumSizeF (ws.getD k 0) ((atsF kind x).getD k 0) s) c 0 (0, 4607182418800017408) = some (sum, size) ∧
    ToldOk kind x ws sum size ∧ BackOk kind (ws.map fun w => (w, 0)) out back size ∧ PointsOk ws pts fit
theorem famAll_of (hnum : FamNum) : FamAll := by
  intro kind n v hk n1 n6 hv
  have h := point_all hk hv
  unfold pointC at h
  cases hx : pointF v with
  | none => rw [hx] at h; cases h
  | some x =>
    rw [hx] at h
    simp only [Bool.and_eq_true, List.all_eq_true, List.mem_range] at h
    obtain ⟨h1, h2⟩ := h
    have h3 := h1 (n - 1) (by omega)
    rw [show n - 1 + 1 = n by omega] at h3
    obtain ⟨y, row, f, hf⟩ := firstB_ok h3.1
    refine ⟨x, y, row, f, rfl, hf, fun k k1 kn => rulesB_ok h3.2 hf.hrow k1 kn, fun c c1 c6 => ⟨atsF kind x, fun k hkc => valOkB_ok (h2 k (by omega)) (by omega), fun v hv => weight_ok hv, fun ws hl hw => hnum kind v x c ws hk hv hx c1 c6 hl hw, fun k hkc => fam_ok hk (by omega)⟩⟩
end Go.Proofs.Ytdpogmibahaklaa

namespace Go.Proofs.Ytdpogmibahaklaa
open Go.RowKit

theorem told_all {kind v : Nat} (hk : kind ≤ 4) (hv : v < 17) : toldAllB kind v = true := by
  rcases (by omega : kind = 0 ∨ kind = 1 ∨ kind = 2 ∨ kind = 3 ∨ kind = 4) with rfl | rfl | rfl | rfl | rfl
  · exact told0 v hv
  · exact told1 v hv
  · exact told2 v hv
  · exact told3 v hv
  · exact told4 v hv
theorem back_all {kind c : Nat} (hk : kind ≤ 4) (hc : c < 6) : backB kind (c + 1) = true := by
  rcases (by omega : kind = 0 ∨ kind = 1 ∨ kind = 2 ∨ kind = 3 ∨ kind = 4) with rfl | rfl | rfl | rfl | rfl
  · exact back0 c hc
  · exact back1 c hc
  · exact back2 c hc
  · exact back3 c hc
  · exact back4 c hc
theorem famNum : FamNum := by
  intro kind v x c ws hk hv hx c1 c6 hl hw
  have h := told_all hk hv
  unfold toldAllB at h
  rw [hx] at h
  simp only [List.all_eq_true, List.mem_range] at h
  have h1 := h (c - 1) (by omega)
  rw [show c - 1 + 1 = c by omega] at h1
  have hW : Weights ws := hw
  obtain ⟨sum, size, e, fs, s1, s2, ht⟩ := told_ok hW hl c6 h1
  have hb := back_all hk (show c - 1 < 6 by omega)
  rw [show c - 1 + 1 = c by omega] at hb
  obtain ⟨out, back, hbo⟩ := back_ok hW hl c1 c6 hb fs s1 s2
  have hp := points_all (c - 1) (by omega)
  rw [show c - 1 + 1 = c by omega] at hp
  obtain ⟨pts, fit, hpo⟩ := points_ok hW hl hp
  exact ⟨sum, size, out, back, pts, fit, e, ht, hbo, hpo⟩
theorem famAll : FamAll := famAll_of famNum
end Go.Proofs.Ytdpogmibahaklaa
