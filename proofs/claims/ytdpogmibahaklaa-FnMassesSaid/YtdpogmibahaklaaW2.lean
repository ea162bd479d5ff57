/- The program's tests on lists of numbers say yes where all parts are finite. -/
import Derived.Test.YtdpogmibahaklaaW1
set_option linter.unusedVariables false
set_option linter.unusedSimpArgs false
namespace Go.Proofs.Ytdpogmibahaklaa
open Go.RowKit

theorem isFinite_any (x : Nat) (w : World) (h : finB x = some true) :
    Calls Try.prog 115 #[.float .f32 x] w fun e w' => e = .returned (.bool true) ∧ w' = w := by
  simp only [finB, Option.map_eq_some_iff] at h
  obtain ⟨d, hd, ho⟩ := h
  have f1 := run_fop hd
  have f0 : Ieee.single.order d 0 = some .eq := by simpa using ho
  have f2 : FloatKind.f32.format.order d 0 = some .eq := f0
  clear hd ho f0
  go_enter Try.func115, Try.ntmps115
  go_wp2_with (simp only [f1, f2])
  go_ret
  exact ⟨by simp [f2], rfl⟩

theorem notFinite_any (x : Nat) (w : World) (h : finB x = some true) :
    Calls Try.prog 166 #[.float .f32 x] w fun e w' => e = .returned (.bool false) ∧ w' = w := by
  go_enter Try.func166, Try.ntmps166
  go_wp2_with (go_at_call 115; refine (isFinite_any _ _ h).mono ?_; rintro e w' ⟨rfl, rfl⟩)
  go_ret
  exact ⟨rfl, rfl⟩

set_option maxHeartbeats 400000 in
theorem indexF_any (xs : List Nat) (A : Option Addr) (n c : Nat) (w : World) (hA : ReadsF w A n xs) (hx : ∀ x ∈ xs, finB x = some true) :
    Calls Try.prog 171 #[.slice A n c, .func (.func 166) #[] #[]] w fun e w' => e = .returned (.int .i64 (-1)) ∧ w' = w := by
  have hm := hA.most
  have hl := hA.len
  go_enter Try.func171, Try.ntmps171
  go_wp2
  go_loop [5, 8] (fun i j => ∃ k : Nat, k ≤ n ∧ j = .int .i64 (k : Int)) (fun _ j => n - (intOf j).toNat)
  case atStart => exact ⟨0, by omega, rfl⟩
  case round =>
    obtain ⟨k, hk, rfl⟩ := hrel
    by_cases hlt : k < n
    · obtain ⟨ad, rfl, hc⟩ := hA.cells (by omega)
      have h1 := hc k hlt
      have h2 : finB (xs.getD k 0) = some true := hx _ (by
        rw [List.getD_eq_getElem?_getD, List.getElem?_eq_getElem (by omega)]
        exact List.getElem_mem _)
      have e1 : (k : Int) < (n : Int) := by omega
      clear hc
      unfold fv at h1
      generalize xs.getD k 0 = x at h1 h2
      go_wp2_with (go_at_call 166; refine (notFinite_any _ _ h2).mono ?_; rintro e w' ⟨rfl, rfl⟩)
      go_round
      case rel => exact ⟨k + 1, by omega, by go_num⟩
      case measure => simp [intOf]; omega
    · have e1 : ¬ (k : Int) < (n : Int) := by omega
      go_wp2
      go_ret
      exact ⟨rfl, rfl⟩

theorem containsF_any (xs : List Nat) (A : Option Addr) (n c : Nat) (w : World) (hA : ReadsF w A n xs) (hx : ∀ x ∈ xs, finB x = some true) :
    Calls Try.prog 129 #[.slice A n c, .func (.func 166) #[] #[]] w fun e w' => e = .returned (.bool false) ∧ w' = w := by
  go_enter Try.func129, Try.ntmps129
  go_wp2_with (go_at_call 171; refine (indexF_any xs _ _ _ _ hA hx).mono ?_; rintro e w' ⟨rfl, rfl⟩)
  go_ret
  exact ⟨rfl, rfl⟩

theorem areFinite_any (xs : List Nat) (A : Option Addr) (n c : Nat) (w : World) (hA : ReadsF w A n xs) (hx : ∀ x ∈ xs, finB x = some true) :
    Calls Try.prog 117 #[.slice A n c] w fun e w' => e = .returned (.bool true) ∧ w' = w := by
  go_enter Try.func117, Try.ntmps117
  go_wp2_with (go_at_call 129; refine (containsF_any xs _ _ _ _ hA hx).mono ?_; rintro e w' ⟨rfl, rfl⟩)
  go_ret
  exact ⟨rfl, rfl⟩

/-- Both parts are finite. -/
def FinC (x : C) : Prop := finB x.1 = some true ∧ finB x.2 = some true

theorem isFiniteComplex_any (x : C) (w : World) (h : FinC x) :
    Calls Try.prog 153 #[cv x] w fun e w' => e = .returned (.bool true) ∧ Below w.heap.size w w' := by
  obtain ⟨a, b⟩ := x
  unfold cv
  go_enter Try.func153, Try.ntmps153
  have hr : ReadsF (w.alloc (Obj.cells #[Value.float FloatKind.f32 a, Value.float FloatKind.f32 b] 36)) (some ⟨w.heap.size, 0, none⟩) 2 [a, b] := by
    refine ⟨rfl, by omega, fun _ => ⟨_, rfl, fun j hj => ?_⟩⟩
    match j, hj with
    | 0, _ => exact cell_two_new w _ _ _ 0 _ rfl
    | 1, _ => exact cell_two_new w _ _ _ 1 _ rfl
  have hx : ∀ x ∈ [a, b], finB x = some true := by
    intro x hx
    simp at hx
    rcases hx with rfl | rfl
    · exact h.1
    · exact h.2
  go_wp2_with (go_at_call 117; refine (areFinite_any [a, b] _ _ _ _ hr hx).mono ?_; rintro e w' ⟨rfl, rfl⟩)
  go_ret
  exact ⟨rfl, (Below.refl _ _).alloc (Nat.le_refl _) _⟩

theorem notFiniteC_any (x : C) (w : World) (h : FinC x) :
    Calls Try.prog 152 #[cv x] w fun e w' => e = .returned (.bool false) ∧ Below w.heap.size w w' := by
  go_enter Try.func152, Try.ntmps152
  go_wp2_with (go_at_call 153; refine (isFiniteComplex_any _ _ h).mono ?_; rintro e w' ⟨rfl, hb⟩)
  go_ret
  exact ⟨rfl, hb⟩

set_option maxHeartbeats 400000 in
theorem indexC_any (xs : List C) (A : Option Addr) (n c : Nat) (w : World) (hA : ReadsC w A n xs) (hx : ∀ x ∈ xs, FinC x) :
    Calls Try.prog 178 #[.slice A n c, .func (.func 152) #[] #[]] w fun e w' => e = .returned (.int .i64 (-1)) ∧ Below w.heap.size w w' := by
  have hm := hA.most
  go_enter Try.func178, Try.ntmps178
  go_wp2
  go_loopw [5, 8] (fun i j wr => ∃ k : Nat, k ≤ n ∧ j = .int .i64 (k : Int) ∧ Below w.heap.size w wr) (fun _ j _ => n - (intOf j).toNat)
  case atStart => exact ⟨0, by omega, rfl, Below.refl _ _⟩
  case round =>
    obtain ⟨k, hk, rfl, hb⟩ := hrel
    by_cases hlt : k < n
    · obtain ⟨ad, rfl, hc⟩ := (hA.below hb).cells (by omega)
      have h1 := hc k hlt
      have h2 : FinC (xs.getD k zero) := hx _ (by
        have := hA.len
        rw [List.getD_eq_getElem?_getD, List.getElem?_eq_getElem (by omega)]
        exact List.getElem_mem _)
      have e1 : (k : Int) < (n : Int) := by omega
      clear hc
      generalize xs.getD k zero = x at h1 h2
      go_wp2_with (go_at_call 152; refine (notFiniteC_any _ _ h2).mono ?_; rintro e w' ⟨rfl, hb2⟩)
      go_roundw
      case rel => exact ⟨k + 1, by omega, by go_num, below_seq hb hb2⟩
      case measure => simp [intOf]; omega
    · have e1 : ¬ (k : Int) < (n : Int) := by omega
      go_wp2
      go_ret
      exact ⟨rfl, hb⟩

theorem containsC_any (xs : List C) (A : Option Addr) (n c : Nat) (w : World) (hA : ReadsC w A n xs) (hx : ∀ x ∈ xs, FinC x) :
    Calls Try.prog 151 #[.slice A n c, .func (.func 152) #[] #[]] w fun e w' => e = .returned (.bool false) ∧ Below w.heap.size w w' := by
  go_enter Try.func151, Try.ntmps151
  go_wp2_with (go_at_call 178; refine (indexC_any xs _ _ _ _ hA hx).mono ?_; rintro e w' ⟨rfl, hb⟩)
  go_ret
  exact ⟨rfl, hb⟩

theorem allFinite_any (xs : List C) (A : Option Addr) (n c : Nat) (w : World) (hA : ReadsC w A n xs) (hx : ∀ x ∈ xs, FinC x) :
    Calls Try.prog 89 #[.slice A n c] w fun e w' => e = .returned (.bool true) ∧ Below w.heap.size w w' := by
  go_enter Try.func89, Try.ntmps89
  go_wp2_with (go_at_call 151; refine (containsC_any xs _ _ _ _ hA hx).mono ?_; rintro e w' ⟨rfl, hb⟩)
  go_ret
  exact ⟨rfl, hb⟩

/-- A series: 1 to 16 numbers with finite parts. -/
structure SerC (xs : List C) : Prop where
  least : 1 ≤ xs.length
  most : xs.length ≤ 16
  fin : ∀ x ∈ xs, FinC x

theorem isSeries_any (xs : List C) (A : Option Addr) (n c : Nat) (w : World) (hA : ReadsC w A n xs) (hx : SerC xs) :
    Calls Try.prog 32 #[.slice A n c] w fun e w' => e = .returned (.bool true) ∧ Below w.heap.size w w' := by
  have h1 : (1 : Int) ≤ (n : Int) := by have := hA.len; have := hx.least; omega
  have h2 : (n : Int) ≤ 16 := by have := hA.len; have := hx.most; omega
  go_enter Try.func32, Try.ntmps32
  go_wp2_with (go_at_call 89; refine (allFinite_any xs _ _ _ _ hA hx.fin).mono ?_; rintro e w' ⟨rfl, hb⟩)
  go_ret
  exact ⟨rfl, hb⟩

theorem checkedSeries_any (xs : List C) (A : Option Addr) (n c : Nat) (w : World) (hA : ReadsC w A n xs) (hx : SerC xs) :
    Calls Try.prog 105 #[.slice A n c] w fun e w' => e = .returned (.tuple #[.slice A n c, .bool true]) ∧ Below w.heap.size w w' := by
  go_enter Try.func105, Try.ntmps105
  go_wp2_with (go_at_call 32; refine (isSeries_any xs _ _ _ _ hA hx).mono ?_; rintro e w' ⟨rfl, hb⟩)
  go_ret2
  exact ⟨rfl, hb⟩

theorem areSeries_any (xs ys : List C) (A B : Option Addr) (n c d : Nat) (w : World) (hA : ReadsC w A n xs) (hB : ReadsC w B n ys) (hx : SerC xs) (hy : SerC ys) :
    Calls Try.prog 106 #[.slice A n c, .slice B n d] w fun e w' => e = .returned (.bool true) ∧ Below w.heap.size w w' := by
  go_enter Try.func106, Try.ntmps106
  go_wp2_with fail
  refine (isSeries_any xs _ _ _ _ hA hx).mono ?_
  rintro e w1 ⟨rfl, hb1⟩
  go_wp2_with fail
  refine (isSeries_any ys _ _ _ _ (hB.below hb1) hy).mono ?_
  rintro e w2 ⟨rfl, hb2⟩
  go_wp2
  go_ret
  exact ⟨rfl, below_seq hb1 hb2⟩
end Go.Proofs.Ytdpogmibahaklaa
