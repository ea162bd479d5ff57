/- The program's functions on series return what the plain functions of bits say. -/
import Derived.Test.YtdpogmibahaklaaW2
import Derived.Test.YtdpogmibahaklaaFs
import Derived.Deep.RegionWith
set_option linter.unusedVariables false
set_option linter.unusedSimpArgs false
namespace Go.Proofs.Ytdpogmibahaklaa
open Go.RowKit

set_option maxHeartbeats 400000 in
theorem mixed_any (a b : List C) (A B : Option Addr) (na nb ca cb : Nat) (k fr n : Nat) (K Fr To : Int) (r : C) (w : World) (hA : ReadsC w A na a) (hB : ReadsC w B nb b)
    (hK : K = (k : Int)) (hF : Fr = (fr : Int)) (hT : To = (fr : Int) + (n : Int) - 1)
    (hn : fr + n ≤ na) (hk2 : fr + n ≤ k + 1) (hk3 : k < nb + fr) (h : mixF a b k n fr = some r) (hbig : k < 1000) :
    Calls Try.prog 90 #[.slice A na ca, .slice B nb cb, .int .i64 K, .int .i64 Fr, .int .i64 To] w fun e w' => e = .returned (cv r) ∧ Drawn w w' := by
  subst hK hF hT
  have hbn : na ≤ 9223372036854775807 := hA.2
  have hbm : nb ≤ 9223372036854775807 := hB.2
  unfold mixF at h
  go_enter Try.func90, Try.ntmps90
  go_wp2
  go_loopw [11, 12] (fun s i wr => ∃ (j : Nat) (acc : C), j ≤ n ∧ i = .int .i64 ((fr + j : Nat) : Int) ∧ s = cv acc ∧ stepsF (fun i acc => (mulF (a.getD i zero) (b.getD (k - i) zero)).bind fun p => plusF acc p) (n - j) (fr + j) acc = some r ∧ Drawn w wr) (fun _ i _ => fr + n - (intOf i).toNat)
  case atStart => exact ⟨0, (0, 0), by omega, rfl, rfl, h, Drawn.refl w⟩
  case round =>
    obtain ⟨j, acc, hj, rfl, rfl, hrec, hD⟩ := hrel
    by_cases hlt : j < n
    · obtain ⟨ad, rfl, hca⟩ := (hA.drawn hD).cells (by omega)
      obtain ⟨bd, rfl, hcb⟩ := (hB.drawn hD).cells (by omega)
      have h1 := hca (fr + j) (by omega)
      have h2 := hcb (k - (fr + j)) (by omega)
      rw [show n - j = (n - (j + 1)) + 1 by omega] at hrec
      obtain ⟨s, hps, hrec⟩ := stepsF_succ hrec
      simp only [Option.bind_eq_some_iff] at hps
      obtain ⟨p, hp, hs⟩ := hps
      clear hca hcb h
      generalize a.getD (fr + j) zero = x at h1 hp
      generalize b.getD (k - (fr + j)) zero = y at h2 hp
      have b1 : (fr : Int) + (j : Int) < (na : Int) := by omega
      have b2 : (k : Int) - ((fr : Int) + (j : Int)) < (nb : Int) := by omega
      have b3 : (0 : Int) ≤ (k : Int) - ((fr : Int) + (j : Int)) := by omega
      have e1 : ((fr + j : Nat) : Int) ≤ (fr : Int) + n - 1 := by omega
      go_wp2
      go_quiet (first | (go_at_call 88; exact Calls.quiet_of_same (mul_any _ _ _ _ hp)) | (go_at_call 103; exact Calls.quiet_of_same (plus_any _ _ _ _ hs)))
      go_wp2
      go_roundw
      case rel => exact ⟨j + 1, s, by omega, by go_num, rfl, hrec, hD.step nq⟩
      case measure => simp [intOf]; omega
    · have e1 : ¬ ((fr + j : Nat) : Int) ≤ (fr : Int) + n - 1 := by omega
      obtain rfl : j = n := by omega
      rw [Nat.sub_self] at hrec
      obtain rfl := stepsF_zero hrec
      go_wp2
      go_ret
      exact ⟨rfl, hD⟩

/-- A slice that the call has made, at a place that is known. -/
structure RowC (w : World) (B g n cap : Nat) (xs : List C) : Prop where
  len : xs.length = n
  base : B ≤ g
  own : w.ownsRow B 26 1 (.slice (some ⟨g, 0, none⟩) n cap) n (xs.map cv)
theorem RowC.lt {w : World} {B g n cap : Nat} {xs : List C} (h : RowC w B g n cap xs) : g < w.heap.size := (h.own.lt g rfl).2
theorem RowC.most {w : World} {B g n cap : Nat} {xs : List C} (h : RowC w B g n cap xs) : n ≤ 9223372036854775807 := by
  rcases h.own.2 with ⟨h0, _⟩ | ⟨g', cap', cur, _, _, _, h1, h2, _⟩
  · cases h0
  · simp only [maxLen] at h2
    omega
theorem RowC.reads {w : World} {B g n cap : Nat} {xs : List C} (h : RowC w B g n cap xs) : ReadsC w (some ⟨g, 0, none⟩) n xs :=
  ⟨h.len, h.most, fun hn => ⟨_, rfl, fun j hj => h.own.cells (g := g) rfl j _ (by simp [List.getElem?_eq_getElem (show j < xs.length by have := h.len; omega), List.getD_eq_getElem?_getD])⟩⟩
theorem RowC.frozen {w : World} {B g n cap : Nat} {xs : List C} (h : RowC w B g n cap xs) (j : Nat) : w.frozen? ⟨g, j, none⟩ = false := h.own.frozenAt j
theorem RowC.below {w w1 : World} {B g n cap : Nat} {xs : List C} (h : RowC w B g n cap xs) (hb : Below w.heap.size w w1) : RowC w1 B g n cap xs :=
  ⟨h.len, h.base, h.own.kept (row := none) ⟨hb.os, hb.tape, hb.output, hb.size, fun i hi _ => hb.block i hi⟩ (by simp [Value.ownBlock])⟩
theorem RowC.stored {w : World} {B g n cap : Nat} {xs : List C} (h : RowC w B g n cap xs) (j : Nat) (x : C) : RowC (w.setCell ⟨g, j, none⟩ (cv x)) B g n cap (xs.set j x) :=
  ⟨by rw [List.length_set]; exact h.len, h.base, by
    have := h.own.stored j (cv x)
    rw [List.map_set]
    exact this.1⟩
theorem RowC.toOwn {w : World} {B g n cap : Nat} {xs : List C} (h : RowC w B g n cap xs) : OwnC w B (.slice (some ⟨g, 0, none⟩) n cap) xs :=
  ⟨by have := h.own; rw [h.len]; exact this⟩

/-- What a function that makes a series hands back. -/
def MadeC (w : World) (r : List C) (e : Ending) (w' : World) : Prop :=
  ∃ A c, e = .returned (.tuple #[.slice A r.length c, .bool true]) ∧ OwnC w' w.heap.size (.slice A r.length c) r ∧ Below w.heap.size w w'

theorem rowC_of_made {w1 : World} {B g n : Nat} (h : w1.ownsRow B 26 1 (.slice (some ⟨g, 0, none⟩) n n) n (madeCells #[Value.complex .f32 0 0] n).toList) (hB : B ≤ g) :
    RowC w1 B g n n (List.replicate n zero) := by
  refine ⟨by simp, hB, ?_⟩
  have e : (madeCells #[Value.complex .f32 0 0] n).toList = (List.replicate n zero).map cv := by
    rw [toList_madeCells_one, List.map_replicate]
    rfl
  rw [← e]
  exact h

/-- Is it 0? -/
def isZ (x : C) : Bool := (Ieee.single.order x.1 0 == some .eq) && (Ieee.single.order x.2 0 == some .eq)

end Go.Proofs.Ytdpogmibahaklaa
