/- The program's masses return what the plain functions of bits say. -/
import Derived.Test.YtdpogmibahaklaaM5
import Derived.Test.YtdpogmibahaklaaE0
import Derived.Maps.AppendAt
import Derived.Test.YtdpogmibahaklaaM9
set_option linter.unusedVariables false
set_option linter.unusedSimpArgs false
namespace Go.Proofs.Ytdpogmibahaklaa
open Go.RowKit

set_option maxRecDepth 100000 in
set_option maxHeartbeats 400000 in
theorem slopeN_any (n x : Nat) (s : Nat × Nat) (A1 A2 A3 : Addr) (w : World) (n1 : 1 ≤ n) (n8 : n ≤ 8) (c1 : w.cell? A1 = some (.int .i64 (n : Int))) (c2 : w.cell? A2 = some (.float .f32 x)) (c3 : w.cell? A3 = some (.float .f32 (f32n n)))
    (h : slopeNF n x = some s) :
    Calls Try.prog 126 #[.pointer (some A1), .pointer (some A2), .pointer (some A3)] w fun e w' => e = .returned (.tuple #[.float .f32 s.1, .float .f32 s.2]) ∧ Below w.heap.size w w' := by
  simp only [slopeNF, Option.bind_eq_some_iff] at h
  obtain ⟨row, hrow, a, ha, b, hb, c, hc, d, hd, f, hf, g, hg, hs⟩ := h
  cases hs
  have hl := rowF_len hrow
  generalize hy : row.getD n 0 = y at *
  generalize hz : row.getD (n - 1) 0 = z at *
  go_enter Try.func126, Try.ntmps126
  go_wp2_with fail
  refine (familyRow_any 2 n x row _ (by omega) (by omega) hrow).mono ?_
  rintro e w1 ⟨A, cp, rfl, hO, hbl⟩
  have k1 := cell_below hbl c1
  have k2 := cell_below hbl c2
  have k3 := cell_below hbl c3
  obtain ⟨A', c', hv, hR⟩ := hO.slice
  cases hv
  obtain ⟨ad, rfl, hcc⟩ := hR.cells (by omega)
  have p1 := hcc n (by omega)
  have p2 := hcc (n - 1) (by omega)
  have e1 : (n : Int) < (row.length : Int) := by omega
  have e2 : (n : Int) - 1 < (row.length : Int) := by omega
  have e3 : (0 : Int) ≤ (n : Int) - 1 := by omega
  rw [show (((n - 1 : Nat)) : Nat) = n - 1 from rfl] at p2
  have Hl := Lib.hid hl
  clear hcc hR c1 c2 c3 hl hO
  rw [hy] at p1
  rw [hz] at p2
  clear hy hz
  unfold fv at p1 p2
  have f1 := @run_o32 _ _ _ _ ha
  have f2 := @run_o32 _ _ _ _ hb
  have f3 := @run_o32 _ _ _ _ hc
  have f4 := @run_o32 _ _ _ _ hd
  have f5 := @run_o32 _ _ _ _ hf
  have f6 := @run_o32 _ _ _ _ hg
  clear ha hb hc hd hf hg hrow
  go_wp2_with fail
  go_quiet (fail)
  go_wp2_with fail
  go_quiet (simp only [f1, f2, f3, f4, f5, f6])
  go_wp2
  go_ret2
  exact ⟨rfl, hbl.trans ((((Drawn.refl _).step _).step _).below _)⟩

/-- What the nodes and weights must give. -/
structure EvenOk (n : Nat) (xs ws : List Nat) : Prop where
  eq : evenF n = some (xs, ws)
  fx : ∀ y ∈ xs, finB y = some true
  fw : ∀ y ∈ ws, finB y = some true
  arg : ∀ k y, k < n → nodeArgF n k = some y → finB y = some true ∧ ∀ z, wide y = some z → FloatKind.f64.format.order (absF z) 4841369599423283200 = some .lt

set_option maxRecDepth 100000 in
set_option maxHeartbeats 1000000 in
theorem even_any (n : Nat) (xs ws : List Nat) (w : World) (n1 : 1 ≤ n) (n8 : n ≤ 8) (hok : EvenOk n xs ws) :
    Calls Try.prog 54 #[.int .i64 (n : Int)] w fun e w' => ∃ A c A' c', e = .returned (.tuple #[.slice A xs.length c, .slice A' ws.length c', .bool true]) ∧
      ReadsF w' A xs.length xs ∧ ReadsF w' A' ws.length ws ∧ Below w.heap.size w w' := by
  obtain ⟨i0, hi, hz0, hz1, hz2⟩ := info_parts Try.info36
  obtain ⟨h, fx, fw, harg⟩ := hok
  unfold evenF at h
  have HK := Lib.hid harg
  have HF := Lib.hid (And.intro fx fw)
  clear harg fx fw
  have hmf : ∀ (fn : Fn) (first cap : Array Value) (w : World), (Instr.makeFunc fn first cap).run Try.prog w = .ok (.func fn first cap) w := fun _ _ _ _ => rfl
  go_enter Try.func54, Try.ntmps54
  go_wp2_with fail
  refine Calls.same (within_any _ _ _ _ (by omega) (by omega)) ?_
  go_wp2_with fail
  have hO1 : OwnF (((w.alloc (.cells #[.int .i64 (n : Int)] 2)).alloc (.cells #[.float .f32 (floatOfInt .f32 (n : Int))] 36)).alloc (.cells #[] 36)) (w.heap.size + 2) (.slice (some ⟨w.heap.size + 1 + 1, 0, none⟩) 0 0) [] := by
    have := World.ownsRow_lit (base := w.heap.size + 2) ((w.alloc (.cells #[.int .i64 (n : Int)] 2)).alloc (.cells #[.float .f32 (floatOfInt .f32 (n : Int))] 36)) (e := 36) (size := 1) #[] 0 (by simp) (by unfold maxLen; omega) rfl
    exact ⟨by simpa using this⟩
  have hO2 : OwnF ((((w.alloc (.cells #[.int .i64 (n : Int)] 2)).alloc (.cells #[.float .f32 (floatOfInt .f32 (n : Int))] 36)).alloc (.cells #[] 36)).alloc (.cells #[] 36)) (w.heap.size + 2) (.slice (some ⟨w.heap.size + 1 + 1 + 1, 0, none⟩) 0 0) [] := by
    have := World.ownsRow_lit (base := w.heap.size + 2) (((w.alloc (.cells #[.int .i64 (n : Int)] 2)).alloc (.cells #[.float .f32 (floatOfInt .f32 (n : Int))] 36)).alloc (.cells #[] 36)) (e := 36) (size := 1) #[] 0 (by simp) (by unfold maxLen; omega) rfl
    exact ⟨by simpa using this⟩
  have hO1' := hO1.below ((Below.refl _ _).alloc (Nat.le_refl _) (.cells #[] 36))
  have hb0 : Below w.heap.size w ((((w.alloc (.cells #[.int .i64 (n : Int)] 2)).alloc (.cells #[.float .f32 (floatOfInt .f32 (n : Int))] 36)).alloc (.cells #[] 36)).alloc (.cells #[] 36)) :=
    ((((Below.refl _ _).alloc (Nat.le_refl _) _).alloc (by simp) _).alloc (by simp; omega) _).alloc (by simp; omega) _
  have c1 : ((((w.alloc (.cells #[.int .i64 (n : Int)] 2)).alloc (.cells #[.float .f32 (floatOfInt .f32 (n : Int))] 36)).alloc (.cells #[] 36)).alloc (.cells #[] 36)).cell? ⟨w.heap.size, 0, none⟩ = some (.int .i64 (n : Int)) := by
    rw [World.cell?_alloc_past _ _ _ (by simp; omega), World.cell?_alloc_past _ _ _ (by simp; omega), World.cell?_alloc_past _ _ _ (by simp)]
    exact World.cell?_alloc_at _ _ _ _ rfl
  have c3 : ((((w.alloc (.cells #[.int .i64 (n : Int)] 2)).alloc (.cells #[.float .f32 (floatOfInt .f32 (n : Int))] 36)).alloc (.cells #[] 36)).alloc (.cells #[] 36)).cell? ⟨w.heap.size + 1, 0, none⟩ = some (.float .f32 (f32n n)) := by
    rw [World.cell?_alloc_past _ _ _ (by simp), World.cell?_alloc_past _ _ _ (by simp)]
    exact World.cell?_alloc_at _ _ _ _ (by simp)
  have hsz : w.heap.size + 2 ≤ ((((w.alloc (.cells #[.int .i64 (n : Int)] 2)).alloc (.cells #[.float .f32 (floatOfInt .f32 (n : Int))] 36)).alloc (.cells #[] 36)).alloc (.cells #[] 36)).heap.size := by simp
  clear hO1
  generalize (((w.alloc (.cells #[.int .i64 (n : Int)] 2)).alloc (.cells #[.float .f32 (floatOfInt .f32 (n : Int))] 36)).alloc (.cells #[] 36)).alloc (.cells #[] 36) = w4 at *
  go_loopw [6, 7, 8, 9, 10, 11, 12, 13, 14, 23] (fun v1 v2 _ _ _ _ _ _ _ i wr => ∃ (j : Nat) (o1 o2 : List Nat), j ≤ n ∧ o1.length = j ∧ o2.length = j ∧ i = .int .i64 (j : Int) ∧ stepsF (evenStepF n) (n - j) j (o1, o2) = some (xs, ws) ∧
    OwnF wr (w.heap.size + 2) v1 o1 ∧ OwnF wr (w.heap.size + 2) v2 o2 ∧ (v1.ownBlock ≠ v2.ownBlock) ∧ wr.cell? ⟨w.heap.size, 0, none⟩ = some (.int .i64 (n : Int)) ∧ wr.cell? ⟨w.heap.size + 1, 0, none⟩ = some (.float .f32 (f32n n)) ∧ Below w.heap.size w wr ∧ w.heap.size + 2 ≤ wr.heap.size) (fun _ _ _ _ _ _ _ _ _ i _ => n - (intOf i).toNat)
  case atStart => exact ⟨0, [], [], by omega, rfl, rfl, rfl, h, hO1', hO2, by simp [Value.ownBlock], c1, c3, hb0, hsz⟩
  case round =>
    clear hO1' hO2 hb0 h c1 c3 hsz
    obtain ⟨j, o1, o2, hj, l1, l2, rfl, hrec, hO1, hO2, hne, c1, c3, hb, hsz⟩ := hrel
    have L1 := Lib.hid l1
    have L2 := Lib.hid l2
    have HN := Lib.hid hne
    clear l1 l2 hne
    by_cases hlt : j < n
    · have e1 : (j : Int) < (n : Int) := by omega
      obtain ⟨s', hst, hrec⟩ := stepsF_at hrec hlt
      simp only [evenStepF, Option.bind_eq_some_iff] at hst
      obtain ⟨x, hx, u, hu, hs⟩ := hst
      cases hs
      simp only [nodeF, Option.bind_eq_some_iff] at hx
      obtain ⟨t, ht, s, hs, hx⟩ := hx
      have hk := HK.out j t hlt ht
      simp only [nodeArgF, Option.bind_eq_some_iff] at ht
      obtain ⟨a, ha, q, hq, ht⟩ := ht
      have e2 : f32n (2 * n + 1) = floatOfInt .f32 (2 * (n : Int) + 1) := rfl
      rw [e2] at hq
      have f1 := @run_o32 _ _ _ _ ha
      have f2 := @run_o32 _ _ _ _ hq
      have f3 := @run_o32 _ _ _ _ ht
      have HX := Lib.hid hx
      have HU := Lib.hid hu
      clear ha hq ht hx hu
      unfold f32n at f1
      go_wp2_with (simp only [f1, f2, f3])
      refine Calls.drawn (sineTurns_any t s _ hk.1 hk.2 hs) ?_
      intro w5 hD
      go_wp2_with (simp only [hmf])
      have hB5 : Below w5.heap.size w5 (w5.alloc (Obj.cells #[Value.float FloatKind.f32 s] 36)) := (Below.refl _ _).alloc (Nat.le_refl _) _
      have hn5 : (w5.alloc (Obj.cells #[Value.float FloatKind.f32 s] 36)).heap[w5.heap.size]? = some (.cells #[.float .f32 s] 36 (0, 0)) := heap_alloc_new _ _
      generalize w5.alloc (Obj.cells #[Value.float FloatKind.f32 s] 36) = w6 at *
      have d1 := cell_below (hD.below _) c1
      have d3 := cell_below (hD.below _) c3
      go_loopw [11, 12, 37] (fun _ _ i wq => ∃ (m y : Nat), m ≤ 12 ∧ i = .int .i64 (m : Int) ∧ stepsF (fun _ => nodeStepF n) (12 - m) m y = some x ∧ wq.heap[w5.heap.size]? = some (.cells #[.float .f32 y] 36 (0, 0)) ∧ Below w5.heap.size w5 wq) (fun _ _ i _ => 12 - (intOf i).toNat)
      case atStart => exact ⟨0, s, by omega, rfl, HX.out, hn5, hB5⟩
      case round =>
        clear hB5 hn5 HX
        obtain ⟨m, y, hm, rfl, hin, hY, hB⟩ := hrel
        have q1 := cell_below hB d1
        have q3 := cell_below hB d3
        have q2 := cell_of_one hY
        have g2 := free_of_one hY
        by_cases hmt : m < 12
        · have e3 : (m : Int) < 12 := by omega
          obtain ⟨y', hst, hin⟩ := stepsF_at hin hmt
          simp only [nodeStepF, Option.bind_eq_some_iff] at hst
          obtain ⟨sl, hsl, dd, hdd, hyy⟩ := hst
          have f4 := @run_o32 _ _ _ _ hdd
          have f5 := @run_o32 _ _ _ _ hyy
          clear hdd hyy
          go_wp2_with (first | (go_at_call 126; refine (slopeN_any n y sl _ _ _ _ n1 n8 q1 q2 q3 hsl).mono ?_; rintro e w7 ⟨rfl, hb7⟩; have hY7 := (hb7.block _ (lt_of_block hY)).trans hY; have q7 := cell_of_one hY7; have g7 := free_of_one hY7) | simp only [f4, f5])
          go_roundw
          case rel => exact ⟨m + 1, y', by omega, by go_num, hin, one_setCell hY7, (hB.trans (hb7.mono hB.size)).setCell (Nat.le_refl _) _⟩
          case measure => simp [intOf]; omega
        · have e3 : ¬ (m : Int) < 12 := by omega
          have hxy := stepsF_end hin (by omega)
          subst hxy
          have hu := HU.out
          simp only [weightNF, Option.bind_eq_some_iff] at hu
          obtain ⟨sl, hsl, k1, hk1, k2, hk2, k3, hk3, k4, hk4, hu⟩ := hu
          have HS := Lib.hid hsl
          have f4 := @run_o32 _ _ _ _ hk1
          have f5 := @run_o32 _ _ _ _ hk2
          have f6 := @run_o32 _ _ _ _ hk3
          have f7 := @run_o32 _ _ _ _ hk4
          have f8 := @run_o32 _ _ _ _ hu
          clear hk1 hk2 hk3 hk4 hu
          have hP1 := (hO1.below (hD.below _)).below hB
          have hP2 := (hO2.below (hD.below _)).below hB
          have hlt1 : ∀ k, u6.ownBlock = some k → k < w5.heap.size := fun k hk => ((hO1.below (hD.below _)).out.lt k hk).2
          have hlt2 : ∀ k, u7.ownBlock = some k → k < w5.heap.size := fun k hk => ((hO2.below (hD.below _)).out.lt k hk).2
          have hsB := hB.size
          have hsD := (hD.below 0).size
          have hbW := (hb.trans (hD.below _)).trans (hB.mono (by omega))
          clear hsl q1 q2 q3 g2
          go_wp2_with (first | (go_at_call 126; refine (slopeN_any n y sl _ _ _ _ n1 n8 (cell_below hB d1) (cell_of_one hY) (cell_below hB d3) HS.out).mono ?_; rintro e w7 ⟨rfl, hb7⟩; have hY7 := (hb7.block _ (lt_of_block hY)).trans hY; have q7 := cell_of_one hY7; have hP17 := hP1.below hb7; have hP27 := hP2.below hb7; have hbW7 := hbW.trans (hb7.mono hbW.size)) | (at_builtin; refine wpList_append_own_at _ rfl (.tmp 55) (.tmp 57) 51 rfl (w.heap.size + 2) 36 i0 _ 1 4 Try.underlying51 hi hz0 hz1 hz2 rfl (by decide) _ o1.length (o1.map fv) rfl (hP17.out.alloc _) ⟨w7.heap.size, 0, none⟩ 1 1 [fv y] rfl rfl ?c1 ?c2 ?c3 ?c4 ?c5 ?_) | simp only [f4, f5, f6, f7, f8])
          case c1 => first | exact cell_one_new _ _ _ | exact fun j u h => h
          case c2 => first | rfl | (intro u hu; simp at hu; subst hu; rfl)
          case c3 => have := L1.out; unfold maxLen; omega
          case c4 => have := L1.out; omega
          case c5 => have := hb7.size; omega
          intro v1' w8 hown hgrow _ hat
          have hA1 := OwnF.appended hown
          have hP28 : OwnF w8 (w.heap.size + 2) u7 o2 := ⟨(hP27.out.alloc _).kept hgrow (Or.inr (fun e => HN.out e.symm))⟩
          have hs7 := hb7.size
          have hb8 := (hP17.mono (Nat.le_add_right _ 2)).grown hbW7 hbW7.size _ hgrow
          have A7 := (Below.refl w7.heap.size w7).alloc (Nat.le_refl _) (.cells #[.float .f32 y] 36)
          have hn1 : some w.heap.size ≠ u6.ownBlock := fun e => by have := (hP17.out.lt _ e.symm).1; omega
          have hn2 : some (w.heap.size + 1) ≠ u6.ownBlock := fun e => by have := (hP17.out.lt _ e.symm).1; omega
          have hn3 : some w5.heap.size ≠ u6.ownBlock := fun e => by have := hlt1 _ e.symm; omega
          have m1 := hgrow.cell (cell_below A7 (cell_below hb7 (cell_below hB d1))) hn1
          have m3 := hgrow.cell (cell_below A7 (cell_below hb7 (cell_below hB d3))) hn2
          have m2 := hgrow.cell (cell_below A7 q7) hn3
          have hz8 : w7.heap.size + 1 ≤ w8.heap.size := by have := hgrow.size; simpa using this
          have hat' : v1'.ownBlock = u6.ownBlock ∨ v1'.ownBlock = some (w7.heap.size + 1) := by simpa using hat
          clear hown hgrow hat q7 A7 hn1 hn2 hn3 hY7 hY d1 d3 hP17 hP27 hP1 hP2 hO1 hO2
          go_wp2_with (first | (at_builtin; refine wpList_append_own_at _ rfl (.tmp 59) (.tmp 69) 51 rfl (w.heap.size + 2) 36 i0 _ 1 4 Try.underlying51 hi hz0 hz1 hz2 rfl (by decide) _ o2.length (o2.map fv) rfl (hP28.out.alloc _) ⟨w8.heap.size, 0, none⟩ 1 1 [fv u] rfl rfl ?e1 ?e2 ?e3 ?e4 ?e5 ?_) | simp only [f4, f5, f6, f7, f8])
          case e1 => first | exact cell_one_new _ _ _ | exact fun j u h => h
          case e2 => first | rfl | (intro u hu; simp at hu; subst hu; rfl)
          case e3 => have := L2.out; unfold maxLen; omega
          case e4 => have := L2.out; omega
          case e5 => show w.heap.size + 2 ≤ _; rw [World.size_alloc]; omega
          intro v2' w9 hown hgrow _ hat
          have hA2 := OwnF.appended hown
          have hA1' : OwnF w9 (w.heap.size + 2) v1' (o1 ++ [y]) := ⟨(hA1.out.alloc _).kept hgrow (Or.inr (fun e => by
            rcases hat' with h | h
            · exact HN.out (h.symm.trans e)
            · have := hlt2 _ (e.symm.trans h); omega))⟩
          have hb9 := (hP28.mono (Nat.le_add_right _ 2)).grown hb8 hb8.size _ hgrow
          have A8 := (Below.refl w8.heap.size w8).alloc (Nat.le_refl _) (.cells #[.float .f32 u] 36)
          have hn1 : some w.heap.size ≠ u7.ownBlock := fun e => by have := (hP28.out.lt _ e.symm).1; omega
          have hn2 : some (w.heap.size + 1) ≠ u7.ownBlock := fun e => by have := (hP28.out.lt _ e.symm).1; omega
          have r1 := hgrow.cell (cell_below A8 m1) hn1
          have r3 := hgrow.cell (cell_below A8 m3) hn2
          have hne' : v1'.ownBlock ≠ v2'.ownBlock := fun e => by
            have hat2 : v2'.ownBlock = u7.ownBlock ∨ v2'.ownBlock = some (w8.alloc (.cells #[fv u] 36)).heap.size := hat
            rw [World.size_alloc] at hat2
            rcases hat' with h | h <;> rcases hat2 with g | g
            · exact HN.out (h.symm.trans (e.trans g))
            · have := hlt1 _ (h.symm.trans (e.trans g)); omega
            · have := hlt2 _ (g.symm.trans (e.symm.trans h)); omega
            · have := h.symm.trans (e.trans g)
              have := Option.some.inj this
              omega
          have l1' : (o1 ++ [y]).length = j + 1 := by rw [List.length_append, L1.out]; rfl
          have l2' : (o2 ++ [u]).length = j + 1 := by rw [List.length_append, L2.out]; rfl
          have hsz9 := hb9.size
          have hgs := hgrow.size
          clear hown hgrow hat hat' hA1 hP28 hlt1 hlt2
          go_wp2
          go_roundw
          case rel => exact ⟨j + 1, o1 ++ [y], o2 ++ [u], by omega, l1', l2', by go_num, hrec, hA1', hA2, hne', r1, r3, hb9, by simp at hgs; omega⟩
          case measure => simp [intOf]; omega
    · have e1 : ¬ (j : Int) < (n : Int) := by omega
      have e2 := stepsF_end hrec (by omega)
      cases e2
      obtain ⟨A, c, hv, hR1⟩ := hO1.slice
      obtain ⟨A', c', hv', hR2⟩ := hO2.slice
      cases hv
      cases hv'
      go_wp2_with (first | (go_at_call 117; first | refine Calls.same (areFinite_any xs _ _ _ _ hR1 HF.out.1) ?_ | refine Calls.same (areFinite_any ws _ _ _ _ hR2 HF.out.2) ?_) | fail)
      refine bodyPost_ret (results_tmp3 rfl _ _ _) rfl ?_
      exact ⟨A, c, A', c', rfl, hR1, hR2, hb⟩
end Go.Proofs.Ytdpogmibahaklaa

namespace Go.Proofs.Ytdpogmibahaklaa
open Go.RowKit

set_option maxRecDepth 100000 in
set_option maxHeartbeats 1000000 in
theorem massOf_any (p : List C) (A : Option Addr) (n c N : Nat) (xs ws : List Nat) (m : C) (w : World) (hA : ReadsC w A n p) (hp : ValC p) (n1 : 1 ≤ N) (n8 : N ≤ 8) (hok : EvenOk N xs ws) (lx : xs.length = N) (lw : ws.length = N)
    (hv : ∀ i v, i < N → nestF p (xs.getD i 0, 0) = some v → FinC v) (h : massF p xs ws = some m) (hm : FinC m) :
    Calls Try.prog 56 #[.agg #[.slice A n c], .int .i64 (N : Int)] w fun e w' => e = .returned (.tuple #[cv m, .bool true]) ∧ Below w.heap.size w w' := by
  have hb0 := (Below.refl w.heap.size w).alloc (Nat.le_refl _) (Obj.cells #[.slice A n c] 29)
  have hfx := hok.fx
  unfold massF at h
  rw [lx] at h
  go_enter Try.func56, Try.ntmps56
  go_wp2_with fail
  refine (even_any N xs ws _ n1 n8 hok).mono ?_
  rintro e w1 ⟨X, cx, Y, cy, rfl, hX, hY, hb1⟩
  have k1 : w1.cell? ⟨w.heap.size, 0, none⟩ = some (.slice A n c) := (hb1.cell (by simp)).trans (by simp)
  have hb : Below w.heap.size w w1 := hb0.trans (hb1.mono (by simp))
  clear hb0 hb1
  rw [lx] at hX
  rw [lw] at hY
  rw [lx, lw]
  go_wp2_with fail
  refine Calls.below (validPoly_any p A n c _ (hA.below hb) hp) ?_
  intro w2 hb2
  have k2 := cell_below hb2 k1
  have hX2 := hX.below hb2
  have hY2 := hY.below hb2
  have hb3 : Below w.heap.size w w2 := hb.trans (hb2.mono hb.size)
  have hA2 := hA.below hb3
  have HV := Lib.hid hv
  have HX := Lib.hid hfx
  clear hX hY hb hb2 k1 hv hfx hok
  go_wp2_with fail
  go_loopw [9, 10, 11, 12, 13, 29] (fun s _ _ _ _ i wr => ∃ (j : Nat) (acc : C), j ≤ N ∧ i = .int .i64 (j : Int) ∧ s = cv acc ∧
    stepsF (fun i all => (nestF p (xs.getD i 0, 0)).bind fun v => (scaleF v (ws.getD i 0)).bind fun t => plusF all t) (N - j) j acc = some m ∧ Below w2.heap.size w2 wr) (fun _ _ _ _ _ i _ => N - (intOf i).toNat)
  case atStart => exact ⟨0, zero, by omega, rfl, rfl, h, Below.refl _ _⟩
  case round =>
    clear h
    obtain ⟨j, acc, hj, rfl, rfl, hrec, hbr⟩ := hrel
    have k3 := cell_below hbr k2
    by_cases hlt : j < N
    · have e1 : (j : Int) < (N : Int) := by omega
      obtain ⟨s', hst, hrec⟩ := stepsF_at hrec hlt
      simp only [Option.bind_eq_some_iff] at hst
      obtain ⟨v, hnv, t, ht, hs⟩ := hst
      obtain ⟨ad, rfl, hc⟩ := (hX2.below hbr).cells (by omega)
      have c1 := hc j (by omega)
      obtain ⟨bd, rfl, hd⟩ := (hY2.below hbr).cells (by omega)
      have c2 := hd j (by omega)
      have hfv := HV.out j v hlt hnv
      have hfz : FinC (xs.getD j 0, 0) := ⟨HX.out _ (by rw [List.getD_eq_getElem?_getD, List.getElem?_eq_getElem (by omega)]; exact List.getElem_mem _), by show finB 0 = some true; decide +kernel⟩
      clear hc hd
      generalize xs.getD j 0 = x at *
      generalize ws.getD j 0 = u at *
      unfold fv at c1 c2
      unfold cv
      go_wp2_with fail
      refine Calls.below (polyAt_any p (x, 0) v A n c _ (hA2.below hbr) hp hfz hnv hfv) ?_
      intro w4 hb4
      have c3 := cell_below hb4 c2
      unfold cv
      go_wp2_with fail
      refine Calls.same (scale_any v u t _ ht) ?_
      unfold cv
      go_wp2_with fail
      refine Calls.same (plus_any acc t s' _ hs) ?_
      unfold cv
      go_wp2_with fail
      go_roundw
      case rel => exact ⟨j + 1, s', by omega, by go_num, rfl, hrec, hbr.trans (hb4.mono hbr.size)⟩
      case measure => simp [intOf]; omega
    · have e1 : ¬ (j : Int) < (N : Int) := by omega
      have e2 := stepsF_end hrec (by omega)
      subst e2
      unfold cv
      go_wp2_with fail
      refine Calls.below (finite_any acc _ hm) ?_
      intro w5 hb5
      go_wp2
      go_ret2
      exact ⟨rfl, (hb3.trans (hbr.mono hb3.size)).trans (hb5.mono (by have := hb3.size; have := hbr.size; omega))⟩

theorem longOfI_any (x : C) (r : Nat) (w : World) (h : longF x = some r) :
    Calls Try.prog 86 #[cv x] w fun e w' => e = .returned (.float .f32 r) ∧ w' = w := by
  simp only [longF, Option.bind_eq_some_iff] at h
  obtain ⟨p, hp, s, hs, hr⟩ := h
  have f1 := @run_narrow _ _ hr
  clear hr
  go_enter Try.func86, Try.ntmps86
  go_wp2_with (first | (go_at_call 148; refine (power_any _ _ _ hp).mono ?_; rintro e w' ⟨rfl, rfl⟩) | (go_at_call 147; refine (sqrt_any _ _ _ hs).mono ?_; rintro e w' ⟨rfl, rfl⟩) | simp only [f1])
  go_ret
  exact ⟨rfl, rfl⟩

set_option maxRecDepth 100000 in
set_option maxHeartbeats 400000 in
theorem longPoly_any (p : List C) (A : Option Addr) (n c r : Nat) (w : World) (hA : ReadsC w A n p) (hp : ValC p) (h : longPolyF p = some r) (hr : finB r = some true) :
    Calls Try.prog 58 #[.agg #[.slice A n c]] w fun e w' => e = .returned (.tuple #[.float .f32 r, .bool true]) ∧ Below w.heap.size w w' := by
  have hb0 := (Below.refl w.heap.size w).alloc (Nat.le_refl _) (Obj.cells #[.slice A n c] 29)
  have hm2 := hp.most
  have hl := hA.len
  rw [hl] at hm2
  unfold longPolyF at h
  rw [hl] at h
  clear hl
  go_enter Try.func58, Try.ntmps58
  go_wp2_with fail
  refine Calls.below (validPoly_any p A n c _ (hA.below hb0) hp) ?_
  intro w1 hb1
  have k1 : w1.cell? ⟨w.heap.size, 0, none⟩ = some (.slice A n c) := (hb1.cell (by simp)).trans (by simp)
  have hb : Below w.heap.size w w1 := hb0.trans (hb1.mono (by simp))
  clear hb0 hb1
  go_wp2_with fail
  go_loop [4, 6, 13] (fun s _ i => ∃ (j a : Nat), j ≤ n ∧ i = .int .i64 (j : Int) ∧ s = .float .f32 a ∧ stepsF (fun k all => (longF (p.getD k zero)).bind fun l => o32 .add all l) (n - j) j a = some r) (fun _ _ i => n - (intOf i).toNat)
  case atStart => exact ⟨0, 0, by omega, rfl, rfl, h⟩
  case round =>
    clear h
    obtain ⟨j, a, hj, rfl, rfl, hrec⟩ := hrel
    by_cases hlt : j < n
    · have e1 : (j : Int) < (n : Int) := by omega
      obtain ⟨s', hst, hrec⟩ := stepsF_at hrec hlt
      simp only [Option.bind_eq_some_iff] at hst
      obtain ⟨l, hl, hs⟩ := hst
      obtain ⟨ad, rfl, hc⟩ := (hA.below hb).cells (by omega)
      have c1 := hc j (by omega)
      clear hc
      generalize p.getD j zero = x at *
      unfold cv at c1
      have f1 := @run_o32 _ _ _ _ hs
      clear hs
      go_wp2_with fail
      refine Calls.same (longOfI_any x l _ hl) ?_
      go_wp2_with (simp only [f1])
      go_round
      case rel => exact ⟨j + 1, s', by omega, by go_num, rfl, hrec⟩
      case measure => simp [intOf]; omega
    · have e1 : ¬ (j : Int) < (n : Int) := by omega
      have e2 := stepsF_end hrec (by omega)
      subst e2
      go_wp2_with fail
      refine Calls.same (checked_any a _ hr) ?_
      go_wp2
      go_ret2
      exact ⟨rfl, hb⟩

set_option maxRecDepth 100000 in
set_option maxHeartbeats 400000 in
theorem risePoly_any (p : List C) (A : Option Addr) (n c : Nat) (r : List C) (w : World) (hA : ReadsC w A n p) (hp : ValC p) (h : risePolyF p = some r) (hv : ValC r) (ht : trimN r r.length = r.length) :
    Calls Try.prog 128 #[.agg #[.slice A n c]] w (MadeP w r) := by
  obtain ⟨i0, hi, hz0, hz1, hz2⟩ := info_parts Try.info26
  have hm1 := hp.least
  have hm2 := hp.most
  have hl := hA.len
  rw [hl] at hm1 hm2
  unfold risePolyF at h
  rw [hl] at h
  clear hl
  have hb0 := ((Below.refl w.heap.size w).alloc (Nat.le_refl _) (Obj.cells #[.slice A n c] 29)).alloc (by simp) (Obj.cells #[.slice none 0 0] 29)
  go_enter Try.func128, Try.ntmps128
  go_wp2_with fail
  refine Calls.below (validPoly_any p A n c _ (hA.below hb0) hp) ?_
  intro w1 hb1
  have k1 : w1.cell? ⟨w.heap.size, 0, none⟩ = some (.slice A n c) := (hb1.cell (by simp; omega)).trans (by simp)
  have k2 : w1.cell? ⟨w.heap.size + 1, 0, none⟩ = some (.slice none 0 0) := (hb1.cell (by simp)).trans (by simp)
  have g2 : w1.frozen? ⟨w.heap.size + 1, 0, none⟩ = false := by
    rw [World.frozen?_of_block (w := (w.alloc (Obj.cells #[Value.slice A n c] 29)).alloc (Obj.cells #[Value.slice none 0 0] 29)) (hb1.block _ (by simp))]
    simp
  have hb : Below w.heap.size w w1 := hb0.trans (hb1.mono (by simp; omega))
  have hs1 : w.heap.size + 2 ≤ w1.heap.size := by have := hb1.size; simp at this; omega
  clear hb0 hb1
  have A1 : Below w1.heap.size w1 (w1.alloc (Obj.cells #[Value.complex FloatKind.f32 0 0] 26)) := (Below.refl _ _).alloc (Nat.le_refl _) _
  have k3 := cell_below A1 k1
  have hO : OwnC (w1.alloc (Obj.cells #[Value.complex FloatKind.f32 0 0] 26)) (w.heap.size + 2) (.slice (some ⟨w1.heap.size, 0, none⟩) 1 1) [zero] := ⟨World.ownsRow_lit w1 #[_] 1 hs1 (by unfold maxLen; omega) rfl⟩
  have hb2 := hb.trans (A1.mono hb.size)
  have k4 := cell_below A1 k2
  have g4 : (w1.alloc (Obj.cells #[Value.complex FloatKind.f32 0 0] 26)).frozen? ⟨w.heap.size + 1, 0, none⟩ = false := (World.frozen?_of_block (A1.block _ (by show w.heap.size + 1 < _; omega))).trans g2
  have hs2 : w.heap.size + 2 ≤ (w1.alloc (Obj.cells #[Value.complex FloatKind.f32 0 0] 26)).heap.size := by have := A1.size; omega
  clear A1 k1 k2 g2 hb hs1
  go_wp2_with fail
  generalize w1.alloc (Obj.cells #[Value.complex FloatKind.f32 0 0] 26) = w2 at *
  go_loopw [4, 5, 6, 15] (fun v _ _ i wr => ∃ (j : Nat) (out : List C), j ≤ n ∧ out.length = j + 1 ∧ i = .int .i64 (j : Int) ∧ stepsF (riseOneF p) (n - j) j out = some r ∧ OwnC wr (w.heap.size + 2) v out ∧
    wr.cell? ⟨w.heap.size + 1, 0, none⟩ = some (.slice none 0 0) ∧ wr.frozen? ⟨w.heap.size + 1, 0, none⟩ = false ∧ Below w.heap.size w wr ∧ w.heap.size + 2 ≤ wr.heap.size) (fun _ _ _ i _ => n - (intOf i).toNat)
  case atStart => exact ⟨0, [zero], by omega, rfl, rfl, h, hO, k4, g4, hb2, hs2⟩
  case round =>
    clear h hO k4 g4 hb2 hs2 k3
    obtain ⟨j, out, hj, hlen, rfl, hrec, hO, k4, g4, hbr, hsr⟩ := hrel
    have Hlen := Lib.hid hlen
    clear hlen
    by_cases hlt : j < n
    · have e1 : (j : Int) < (n : Int) := by omega
      obtain ⟨s', hst, hrec⟩ := stepsF_at hrec hlt
      simp only [riseOneF, Option.bind_eq_some_iff] at hst
      obtain ⟨b, hb, x', hx', hs⟩ := hst
      cases hs
      obtain ⟨ad, rfl, hc⟩ := (hA.below hbr).cells (by omega)
      have c1 := hc j (by omega)
      clear hc
      generalize p.getD j zero = x at *
      have e2 : f32n (j + 1) = floatOfInt .f32 ((j : Int) + 1) := rfl
      rw [e2] at hb
      have f1 := @run_o32 _ _ _ _ hb
      clear hb
      unfold cv at c1
      go_wp2_with (simp only [f1])
      refine Calls.same (scale_any x b x' _ hx') ?_
      unfold cv
      go_wp2_with (at_builtin; refine wpList_append_own _ rfl (.tmp 20) (.tmp 27) 24 rfl (w.heap.size + 2) 26 i0 _ 1 8 Try.underlying24 hi hz0 hz1 hz2 rfl (by decide) _ out.length (out.map cv) rfl (hO.out.alloc _) ⟨wr.heap.size, 0, none⟩ 1 1 [cv x'] rfl rfl ?c1 ?c2 ?c3 ?c4 ?c5 ?_)
      case c1 => first | exact cell_one_new _ _ _ | exact fun j u h => h
      case c2 => first | rfl | (intro u hu; simp at hu; subst hu; rfl)
      case c3 => have := Hlen.out; unfold maxLen; omega
      case c4 => have := Hlen.out; omega
      case c5 => rw [World.size_alloc]; omega
      intro v' w5 hown hgrow _
      have hO5 := OwnC.appended hown
      have hb5 := (hO.mono (Nat.le_add_right _ 2)).grown hbr hbr.size _ hgrow
      have A8 := (Below.refl wr.heap.size wr).alloc (Nat.le_refl _) (.cells #[cv x'] 26)
      have hn1 : some (w.heap.size + 1) ≠ u4.ownBlock := fun e => by have := (hO.out.lt _ e.symm).1; omega
      have k5 := hgrow.cell (cell_below A8 k4) hn1
      have g5 : w5.frozen? ⟨w.heap.size + 1, 0, none⟩ = false := ((World.frozen?_of_block (hgrow.block _ (by rw [World.size_alloc]; show w.heap.size + 1 < _; omega) hn1)).trans (World.frozen?_of_block (A8.block _ (by show w.heap.size + 1 < _; omega)))).trans g4
      have hl5 : (out ++ [x']).length = j + 1 + 1 := by rw [List.length_append, Hlen.out]; rfl
      have hs5 := hgrow.size
      rw [World.size_alloc] at hs5
      clear hown hgrow A8 hn1
      go_wp2
      go_roundw
      case rel => exact ⟨j + 1, out ++ [x'], by omega, hl5, by go_num, hrec, hO5, k5, g5, hb5, by omega⟩
      case measure => simp [intOf]; omega
    · have e1 : ¬ (j : Int) < (n : Int) := by omega
      have e2 := stepsF_end hrec (by omega)
      subst e2
      obtain ⟨g, cap, rfl, hBg, hgl, hcap⟩ := hO.form (by have := Hlen.out; omega)
      obtain ⟨A', c', hv', hR⟩ := hO.slice
      cases hv'
      have htp := polyOf_any out ⟨g, 0, none⟩ out.length cap _ hR hv.least (by have := hv.most; omega) hcap (by rw [ht, List.take_length]; exact hv)
      rw [ht] at htp
      go_wp2_with fail
      refine Calls.below htp ?_
      intro w6 hb6
      have k6 := cell_below hb6 k4
      have g6 : w6.frozen? ⟨w.heap.size + 1, 0, none⟩ = false := (World.frozen?_of_block (hb6.block _ (by show w.heap.size + 1 < _; omega))).trans g4
      have hb7 := hbr.trans (hb6.mono hbr.size)
      have hR6 := hR.below hb6
      clear htp hb6 k4 g4 hO hR
      go_wp2_with fail
      have hb8 : Below w.heap.size w (w6.setCell ⟨w.heap.size + 1, 0, none⟩ (.slice (some ⟨g, 0, none⟩) out.length out.length)) := hb7.setCell (Nat.le_add_right _ 1) _
      refine bodyPost_ret (v := .tuple #[.agg #[.slice (some ⟨g, 0, none⟩) out.length out.length], .bool true]) (by simp [results, Try.results128, go_sem, k6]) rfl ?_
      exact ⟨⟨g, 0, none⟩, out.length, rfl, by show w.heap.size ≤ g; omega, hR6.set _ _ _ (by show g ≠ w.heap.size + 1; omega), hb8⟩

set_option maxRecDepth 100000 in
set_option maxHeartbeats 400000 in
theorem exact_any (p : List C) (A : Option Addr) (n c : Nat) (r : List C) (a b m : C) (w : World) (hA : ReadsC w A n p) (hp : ValC p) (h : risePolyF p = some r) (hv : ValC r) (ht : trimN r r.length = r.length)
    (ha : nestF r one = some a) (fa : FinC a) (hb : nestF r (3212836864, 0) = some b) (fb : FinC b) (hm : minusF a b = some m) (fm : FinC m) :
    Calls Try.prog 57 #[.agg #[.slice A n c]] w fun e w' => e = .returned (.tuple #[cv m, .bool true]) ∧ Below w.heap.size w w' := by
  have hb0 := (Below.refl w.heap.size w).alloc (Nat.le_refl _) (Obj.cells #[.slice A n c] 29)
  have F1 : FinC one := ⟨by show finB 1065353216 = some true; decide +kernel, by show finB 0 = some true; decide +kernel⟩
  have F2 : FinC (3212836864, 0) := ⟨by show finB 3212836864 = some true; decide +kernel, by show finB 0 = some true; decide +kernel⟩
  go_enter Try.func57, Try.ntmps57
  go_wp2_with fail
  refine (risePoly_any p A n c r _ (hA.below hb0) hp h hv ht).mono ?_
  rintro e w1 ⟨ad, c1, rfl, hBa, hR, hb1⟩
  have hbw : Below w.heap.size w w1 := hb0.trans (hb1.mono (by simp))
  clear hb0 hb1 hA
  go_wp2_with fail
  have A1 : Below w1.heap.size w1 (w1.alloc (Obj.cells #[.slice (some ad) r.length c1] 29)) := (Below.refl _ _).alloc (Nat.le_refl _) _
  have k1 : (w1.alloc (Obj.cells #[.slice (some ad) r.length c1] 29)).cell? ⟨w1.heap.size, 0, none⟩ = some (.slice (some ad) r.length c1) := by simp
  have hR1 := hR.below A1
  have hb2 := hbw.trans (A1.mono hbw.size)
  generalize w1.alloc (Obj.cells #[.slice (some ad) r.length c1] 29) = w2 at *
  have p1 := polyAt_any r one a (some ad) r.length c1 w2 hR1 hv F1 ha fa
  unfold cv one at p1
  refine Calls.below p1 ?_
  intro w3 hb3
  have k3 := cell_below hb3 k1
  have hR3 := hR1.below hb3
  have hb4 := hb2.trans (hb3.mono hb2.size)
  clear p1 hR1 A1 hR k1 hb3
  go_wp2_with fail
  have p2 := polyAt_any r (3212836864, 0) b (some ad) r.length c1 w3 hR3 hv F2 hb fb
  unfold cv at p2
  refine Calls.below p2 ?_
  intro w5 hb5
  have hb6 := hb4.trans (hb5.mono hb4.size)
  clear p2
  go_wp2_with fail
  have p3 := minus_any a b m w5 hm
  unfold cv at p3
  refine Calls.same p3 ?_
  go_wp2_with fail
  have p4 := finite_any m w5 fm
  unfold cv at p4
  refine Calls.below p4 ?_
  intro w6 hb7
  go_wp2
  go_ret2
  exact ⟨rfl, hb6.trans (hb7.mono hb6.size)⟩
end Go.Proofs.Ytdpogmibahaklaa
