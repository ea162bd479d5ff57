/- The statement on families: the walk of its first part. -/
import Derived.Test.YtdpogmibahaklaaM18
import Derived.Shelf.SlSortCmp.QuietGrown
import Derived.Deep.Cut
set_option linter.unusedVariables false
set_option linter.unusedSimpArgs false
namespace Go.Proofs.Ytdpogmibahaklaa
open Go.RowKit

set_option maxRecDepth 100000 in
set_option maxHeartbeats 400000 in
theorem size_at (p : List C) (z : C) (A : Option Addr) (n c r : Nat) (w : World) (hA : ReadsC w A n p) (hn : n ≤ 16) (h : sizeF p z = some r) :
    Calls Try.prog 45 #[.agg #[.slice A n c], cv z] w fun e w' => e = .returned (.float .f64 r) ∧ w' = w.alloc (Obj.cells #[.slice A n c] 29) := by
  have hl := hA.len
  simp only [sizeF, Option.bind_eq_some_iff] at h
  obtain ⟨l, hlz, x, hx, h⟩ := h
  rw [hl] at h
  have g1 := @run_wide _ _ hx
  have hb0 := (Below.refl w.heap.size w).alloc (Nat.le_refl _) (Obj.cells #[.slice A n c] 29)
  have hbox : (w.alloc (Obj.cells #[.slice A n c] 29)).cell? ⟨w.heap.size, 0, none⟩ = some (.slice A n c) := by simp
  have hA1 := hA.below hb0
  have Hlz := Lib.hid hlz
  clear hlz hl
  go_enter Try.func45, Try.ntmps45
  go_wp2_with fail
  refine Calls.same (long64_any z l _ Hlz.out) ?_
  go_wp2_with (simp only [g1])
  generalize hw1 : w.alloc (Obj.cells #[.slice A n c] 29) = w1 at *
  have Hw1 := Lib.hid hw1
  clear hw1
  go_loop [6, 7] (fun s i => ∃ (R : Nat) (X : Int) (u : Nat), R ≤ n ∧ i = .int .i64 X ∧ X = (R : Int) - 1 ∧ s = .float .f64 u ∧
      stepsF (fun j s => (o64 .mul s x).bind fun m => (longSumF (p.getD (n - 1 - j) zero)).bind fun l => (wide l).bind fun y => o64 .add m y) R (n - R) u = some r) (fun _ i => (intOf i + 1).toNat)
  case atStart => exact ⟨n, (n : Int) - 1, 0, by omega, rfl, rfl, rfl, by rw [Nat.sub_self]; exact h⟩
  case round =>
    clear h
    obtain ⟨R, X, u, hR1, rfl, hX, rfl, hrec⟩ := hrel
    by_cases hlt : 0 < R
    · obtain ⟨R', rfl⟩ : ∃ R', R = R' + 1 := ⟨R - 1, by omega⟩
      obtain rfl : X = (R' : Int) := by omega
      clear hX
      obtain ⟨s, hst, hrec⟩ := stepsF_succ hrec
      rw [show n - 1 - (n - (R' + 1)) = R' by omega] at hst
      rw [show n - (R' + 1) + 1 = n - R' by omega] at hrec
      simp only [Option.bind_eq_some_iff] at hst
      obtain ⟨m, hm, l1, hl1, y1, hy1, hs⟩ := hst
      obtain ⟨ad', rfl, hc⟩ := hA1.cells (by omega)
      have c1 := hc R' (by omega)
      clear hc
      generalize p.getD R' zero = y at c1 hl1
      unfold cv at c1
      have e1 : (0 : Int) ≤ (R' : Int) := by omega
      have hn4 : (R' : Int) < (n : Int) := by omega
      have f1 := @run_o64 _ _ _ _ hm
      have f2 := @run_wide _ _ hy1
      have f3 := @run_o64 _ _ _ _ hs
      clear hm hy1 hs
      go_wp2_with (simp only [f1])
      refine Calls.same (long64_any y l1 _ hl1) ?_
      go_wp2_with (simp only [f1, f2, f3])
      go_round
      case rel => exact ⟨R', (R' : Int) - 1, s, by omega, rfl, rfl, rfl, hrec⟩
      case measure => simp [intOf]
    · have e1 : ¬ (0 : Int) ≤ X := by omega
      obtain rfl : R = 0 := by omega
      have e2 := stepsF_zero hrec
      subst e2
      go_wp2_with fail
      go_ret
      exact ⟨rfl, Hw1.out.symm⟩

theorem grown_same {P : Program} {f : FuncId} {args : Array Value} {w : World} {v : Value} (h : Calls P f args w fun e w' => e = .returned v ∧ w' = w) :
    Calls P f args w fun e w' => e = .returned v ∧ ∃ q os', w' = Go.Sort.grow (w.drewN q) os' :=
  h.mono fun _ _ ⟨he, hw⟩ => ⟨he, 0, #[], by rw [hw, Go.Sort.grow_empty]; rfl⟩
theorem grown_alloc {P : Program} {f : FuncId} {args : Array Value} {w : World} {v : Value} {o : Obj} (h : Calls P f args w fun e w' => e = .returned v ∧ w' = w.alloc o) :
    Calls P f args w fun e w' => e = .returned v ∧ ∃ q os', w' = Go.Sort.grow (w.drewN q) os' :=
  h.mono fun _ _ ⟨he, hw⟩ => ⟨he, 0, #[o], by rw [hw, Go.Sort.alloc_eq_grow]; rfl⟩
theorem below_grow (w : World) (n : Nat) (os : Array Obj) : Below w.heap.size w (Go.Sort.grow (w.drewN n) os) :=
  ((Drawn.step (Drawn.refl w) n).below w.heap.size).trans ⟨rfl, rfl, rfl, by simp, fun i hi => Go.Sort.heap_grow_old (w.drewN n) os (by simpa using hi)⟩

/-- The point that a byte chooses. -/
def pointF (v : Nat) : Option Nat := o32 .quo (floatOfInt .f32 ((v : Int) - 8)) 1090519040
/-- What is asked of the first values. -/
structure FirstOk (kind n x y : Nat) (row : List Nat) (f : List C) : Prop where
  hrow : rowF kind n x = some row
  fin : ∀ u ∈ row, finB u = some true
  hy : row.getD n 0 = y
  one : (FloatKind.f32.format.order (row.getD 0 0) 1065353216 == some Ordering.eq) = true
  fx : finB x = some true
  fz : FinC (x, 0)
  fy : finB y = some true
  eq : (FloatKind.f32.format.order y y == some Ordering.eq) = true
  fam : FamOk kind n f
  cmp : ∃ v a b g s t u, nestF f (x, 0) = some v ∧ FinC v ∧ wide v.1 = some a ∧ wide y = some b ∧ gapF a b = some g ∧ sizeF f (x, 0) = some s ∧ o64 .add 4607182418800017408 s = some t ∧ o64 .mul 4576918229304087675 t = some u ∧ (FloatKind.f64.format.order g u == some Ordering.gt) = false
/-- What the statement asks. -/
def FamAll : Prop := ∀ kind n v, kind ≤ 4 → 1 ≤ n → n ≤ 6 → v < 17 → ∃ x y row f, pointF v = some x ∧ FirstOk kind n x y row f ∧ (∀ k, 1 ≤ k → k < n → RuleOk kind x row k) ∧ (∀ c, 1 ≤ c → c ≤ 6 → ∃ vals, DrawsOk kind x c vals)

set_option maxRecDepth 1000000 in
set_option maxHeartbeats 4000000 in
theorem families_walk (hall : FamAll) (A B : Option Addr) (nc ac mc dc : Nat) (zs ys : List Int) (w : World) (hA : ReadsB w A nc zs) (hB : ReadsB w B mc ys) (hn : nc ≤ 48) (hm : mc ≤ 48) :
    Calls Try.prog 5 #[.slice A nc ac, .slice B mc dc] w fun e w' => e = .returned (.bool true) ∧ Below w.heap.size w w' := by
  have Hall := Lib.hid hall
  clear hall
  go_enter Try.func5, Try.ntmps5
  go_wp2_with fail
  refine Calls.same (r8Long_any A B nc ac mc dc _ hn hm) ?_
  go_wp2_with fail
  refine (r8At_any B mc dc ys 40 40 5 _ hB rfl (by omega) (by omega) (by omega)).mono ?_
  rintro e w' ⟨k, rfl, k0, k1, hw'⟩
  obtain rfl : w = w' := hw'.symm
  obtain ⟨kind, rfl⟩ := Int.eq_ofNat_of_zero_le k0
  clear hw'
  go_wp2_with fail
  refine (r8At_any B mc dc ys 41 41 6 _ hB rfl (by omega) (by omega) (by omega)).mono ?_
  rintro e w' ⟨p, rfl, p0, p1, hw'⟩
  obtain rfl : w = w' := hw'.symm
  obtain ⟨p, rfl⟩ := Int.eq_ofNat_of_zero_le p0
  clear hw'
  go_wp2_with fail
  generalize hN : (1 + (p : Int)) = N
  obtain ⟨n, rfl⟩ : ∃ n : Nat, N = (n : Int) := ⟨1 + p, by omega⟩
  have n1 : 1 ≤ n := by omega
  have n6 : n ≤ 6 := by omega
  have hk : kind ≤ 4 := by omega
  clear hN p0 p1 k0 k1
  refine (r8At_any B mc dc ys 42 42 17 _ hB rfl (by omega) (by omega) (by omega)).mono ?_
  rintro e w' ⟨v, rfl, v0, v1, hw'⟩
  obtain rfl : w = w' := hw'.symm
  obtain ⟨v, rfl⟩ := Int.eq_ofNat_of_zero_le v0
  clear hw'
  obtain ⟨x, y, row, f, hpx, hfi, hru, hdr⟩ := Hall.out kind n v hk n1 n6 (by omega)
  have hx := hfi.fx
  have hfy := hfi.fy
  have hrl := rowF_len hfi.hrow
  unfold pointF at hpx
  have fx := @run_o32 _ _ _ _ hpx
  have v17 : v < 17 := by omega
  clear v0 v1 hpx
  have Fi := Lib.hid hfi
  have Hru := Lib.hid hru
  have Hdr := Lib.hid hdr
  clear hfi hru hdr
  go_wp2_with (simp only [fx])
  refine (familyRowOk_any kind n x row _ hk (by omega) hx Fi.out.hrow Fi.out.fin).mono ?_
  rintro e w1 ⟨Ar, cr, rfl, hO1, hb1⟩
  obtain ⟨gr, cap1, hv1, _, _, _⟩ := hO1.form (by omega)
  cases hv1
  obtain ⟨A', c', hv1, hR1⟩ := hO1.slice
  cases hv1
  rw [hrl] at hR1 ⊢
  clear hO1 hrl
  go_wp2_with fail
  refine Calls.below (familyAt_any kind n x y row _ hk (by omega) hx Fi.out.hrow Fi.out.hy hfy) ?_
  intro w2 hb2
  have hR2 := hR1.below hb2
  have hb12 := below_seq hb1 hb2
  clear hR1 hb1 hb2
  go_wp2_with fail
  refine (familyPoly_any kind n f _ hk (by omega) Fi.out.fam.eq Fi.out.fam.ok Fi.out.fam.trim).mono ?_
  rintro e w3 ⟨fd, fc, rfl, hfd, hRf, hb3⟩
  rw [Fi.out.fam.len] at hRf ⊢
  have hal : Below w3.heap.size w3 (w3.alloc (Obj.cells #[.slice (some fd) (n + 1) fc] 29)) := (Below.refl _ _).alloc (Nat.le_refl _) _
  have hR4 := (hR2.below hb3).below hal
  have hRf4 := hRf.below hal
  have hb4 := below_seq (below_seq hb12 hb3) hal
  have hx4 : (w3.alloc (Obj.cells #[.slice (some fd) (n + 1) fc] 29)).cell? ⟨w3.heap.size, 0, none⟩ = some (.slice (some fd) (n + 1) fc) := by simp
  clear hR2 hb12 hb3 hRf hal
  obtain ⟨vv, a, b, g, s, t, u, hv, hvf, ha, hbb, hg, hs, ht, hu, hgt⟩ := Fi.out.cmp
  go_wp2_with fail
  generalize w3.alloc (Obj.cells #[.slice (some fd) (n + 1) fc] 29) = w4 at *
  have hpa := polyAt_any f (x, 0) vv (some fd) (n + 1) fc _ hRf4 Fi.out.fam.ok Fi.out.fz hv hvf
  unfold cv at hpa
  refine Calls.below hpa ?_
  intro w5 hb5
  have hR5 := hR4.below hb5
  have hRf5 := hRf4.below hb5
  have hx5 := cell_below hb5 hx4
  have hb6 := below_seq hb4 hb5
  clear hpa hR4 hRf4 hx4 hb4 hb5
  obtain ⟨ad', e', hc'⟩ := hR5.cells (by omega)
  cases e'
  have d0 := hc' 0 (by omega)
  have d1 := hc' n (by omega)
  rw [Addr.add_lit, Nat.zero_add] at d0 d1
  clear hc'
  have ho := Fi.out.one
  rw [Fi.out.hy] at d1
  generalize row.getD 0 0 = r0 at d0 ho
  unfold fv at d0 d1
  have he := Fi.out.eq
  have f1 := @run_wide _ _ ha
  have f2 := @run_wide _ _ hbb
  have f3 := @run_o64 _ _ _ _ ht
  have f4 := @run_o64 _ _ _ _ hu
  have hn1 : (n : Int) < (n : Int) + 1 := by omega
  have hn0 : (0 : Int) < (n : Int) + 1 := by omega
  have hsz := fun w hA => size_at f (x, 0) (some fd) (n + 1) fc s w hA (by omega) hs
  unfold cv at hsz
  have D0 : ∀ m os, (Go.Sort.grow (w5.drewN m) os).cell? ⟨gr, 0, none⟩ = some (.float .f32 r0) := cell_grown (World.block_lt_of_cell? w5 _ d0) d0
  have D1 : ∀ m os, (Go.Sort.grow (w5.drewN m) os).cell? ⟨gr, n, none⟩ = some (.float .f32 y) := cell_grown (World.block_lt_of_cell? w5 _ d1) d1
  have D2 : ∀ m os, (Go.Sort.grow (w5.drewN m) os).cell? ⟨w3.heap.size, 0, none⟩ = some (.slice (some fd) (n + 1) fc) := cell_grown (World.block_lt_of_cell? w5 _ hx5) hx5
  have hRg : ∀ m os, ReadsC (Go.Sort.grow (w5.drewN m) os) (some fd) (n + 1) f := fun m os => hRf5.below (below_grow w5 m os)
  clear ha hbb ht hu hv hvf hs d0 d1 hx5
  go_wp2_with fail
  have ho2 : (FloatKind.f32.format.order r0 1065353216 != some Ordering.eq) = false := by rw [bne, ho]; rfl
  have he2 : (FloatKind.f32.format.order y y != some Ordering.eq) = false := by rw [bne, he]; rfl
  have hwr : IntKind.i64.wrap ((n : Int) + 1) = (n : Int) + 1 := IntWalk.i64_in _ (by omega)
  have hmix : Try.prog.follows .mixedOrders = true := by kernel_rfl
  go_quiet_grown (first | (go_at_call 44; exact Calls.grown_of (grown_same (gap_any a b g _ hg))) | (go_at_call 45; exact Calls.grown_of (grown_alloc (hsz _ (hRg _ _)))) | simp only [f1, f2, f3, f4, ho2, he2, hgt, hwr])
  have hbg := below_grow w5 nq osq
  have hR9 : ReadsF (Go.Sort.grow (w5.drewN nq) osq) (some ⟨gr, 0, none⟩) (n + 1) row := hR5.below hbg
  have hb9 : Below w.heap.size w (Go.Sort.grow (w5.drewN nq) osq) := below_seq hb6 hbg
  have hS : Shown kind n x y := ⟨⟨hx, hfy, row, Fi.out.hrow, Fi.out.hy⟩, he⟩
  go_upto_region 12 with (fail)
  exact restRules hA hB hb9 hS hk n1 n6 hR9 hx Hdr.out Hru.out (by assumption) (by assumption)
end Go.Proofs.Ytdpogmibahaklaa
