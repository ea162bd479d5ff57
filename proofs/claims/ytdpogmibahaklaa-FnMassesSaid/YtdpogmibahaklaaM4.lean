/- Small functions of the program and of the statements return what the plain functions of bits say. -/
import Derived.Test.YtdpogmibahaklaaM2
set_option linter.unusedVariables false
set_option linter.unusedSimpArgs false
namespace Go.Proofs.Ytdpogmibahaklaa
open Go.RowKit

/-- A slice of numbers that the call has made: blocks from B on. -/
structure OwnF (w : World) (B : Nat) (v : Value) (xs : List Nat) : Prop where mk :: (out : w.ownsRow B 36 1 v xs.length (xs.map fv))
theorem ReadsF.below {w w' : World} {A : Option Addr} {n : Nat} {xs : List Nat} (h : ReadsF w A n xs) (hb : Below w.heap.size w w') : ReadsF w' A n xs :=
  ⟨h.1, h.2, fun hn => by
    obtain ⟨ad, e, hc⟩ := h.3 hn
    exact ⟨ad, e, fun j hj => cell_below hb (hc j hj)⟩⟩
theorem OwnF.form {w : World} {B : Nat} {v : Value} {xs : List Nat} (h : OwnF w B v xs) (hn : 0 < xs.length) :
    ∃ g cap, v = .slice (some ⟨g, 0, none⟩) xs.length cap ∧ B ≤ g ∧ g < w.heap.size ∧ xs.length ≤ cap := by
  rcases h.out.2 with ⟨_, h0⟩ | ⟨g, cap, cur, hv, hB, hh, h1, h2, _⟩
  · omega
  · exact ⟨g, cap, hv, hB, (Array.getElem?_eq_some_iff.1 hh).1, h1⟩
theorem OwnF.slice {w : World} {B : Nat} {v : Value} {xs : List Nat} (h : OwnF w B v xs) : ∃ A c, v = .slice A xs.length c ∧ ReadsF w A xs.length xs := by
  have hm : xs.length ≤ 9223372036854775807 := by
    rcases h.out.2 with ⟨_, h0⟩ | ⟨g, cap, cur, _, _, _, h1, h2, _⟩
    · omega
    · simp only [maxLen] at h2
      omega
  rcases Nat.eq_zero_or_pos xs.length with h0 | h0
  · rcases h.out.2 with ⟨hv, _⟩ | ⟨g, cap, cur, hv, _⟩
    · exact ⟨none, 0, by rw [hv, h0], rfl, hm, fun hp => by omega⟩
    · exact ⟨_, cap, hv, rfl, hm, fun hp => by omega⟩
  · obtain ⟨g, cap, hv, _, _, _⟩ := h.form h0
    refine ⟨_, cap, hv, rfl, hm, fun _ => ⟨_, rfl, fun j hj => h.out.cells (g := g) (by rw [hv]; rfl) j _ ?_⟩⟩
    simp [List.getElem?_eq_getElem hj, List.getD_eq_getElem?_getD]
theorem OwnF.below {w w1 : World} {B : Nat} {v : Value} {xs : List Nat} (h : OwnF w B v xs) (hb : Below w.heap.size w w1) : OwnF w1 B v xs :=
  ⟨h.out.kept (row := none) ⟨hb.os, hb.tape, hb.output, hb.size, fun i hi _ => hb.block i hi⟩ (by cases v.ownBlock <;> simp)⟩
theorem OwnF.mono {w : World} {B B' : Nat} {v : Value} {xs : List Nat} (h : OwnF w B v xs) (hB : B' ≤ B) : OwnF w B' v xs := by
  refine ⟨h.out.1, ?_⟩
  rcases h.out.2 with h0 | ⟨g, cap, cur, hv, hb, r⟩
  · exact .inl h0
  · exact .inr ⟨g, cap, cur, hv, by omega, r⟩
theorem OwnF.appended {w : World} {B : Nat} {v : Value} {xs : List Nat} {x : Nat} (h : w.ownsRow B 36 1 v (xs.length + 1) (xs.map fv ++ [fv x])) : OwnF w B v (xs ++ [x]) :=
  ⟨by rw [List.length_append, List.map_append]; exact h⟩
theorem OwnF.grown {w w1 : World} {B : Nat} {v : Value} {xs : List Nat} (h : OwnF w B v xs) {w0 : World} (hb : Below B w0 w) (hB : B ≤ w.heap.size) (o : Obj) (hg : (w.alloc o).grownBy w1 v.ownBlock) : Below B w0 w1 :=
  (hb.alloc hB o).grown hg (by simp; omega) (fun k hk => (h.out.lt k hk).1)

/-- What a function that makes numbers hands back. -/
def MadeF (w : World) (r : List Nat) (e : Ending) (w' : World) : Prop :=
  ∃ A c, e = .returned (.slice A r.length c) ∧ OwnF w' w.heap.size (.slice A r.length c) r ∧ Below w.heap.size w w'

set_option maxRecDepth 100000 in
set_option maxHeartbeats 400000 in
theorem familyRow_any (kind n x : Nat) (r : List Nat) (w : World) (hk : kind ≤ 4) (hn : n ≤ 16) (h : rowF kind n x = some r) :
    Calls Try.prog 116 #[.int .i64 (kind : Int), .int .i64 (n : Int), .float .f32 x] w (MadeF w r) := by
  obtain ⟨i0, hi, hz0, hz1, hz2⟩ := info_parts Try.info36
  simp only [rowF, Option.map_eq_some_iff] at h
  obtain ⟨⟨r', bfE⟩, h, hr'⟩ := h
  cases hr'
  go_enter Try.func116, Try.ntmps116
  go_wp2_with fail
  have hO : OwnF (w.alloc (Obj.cells #[Value.float FloatKind.f32 1065353216] 36)) w.heap.size (.slice (some ⟨w.heap.size, 0, none⟩) 1 1) [1065353216] := ⟨World.ownsRow_lit w _ 1 (Nat.le_refl _) (by unfold maxLen; omega) rfl⟩
  have hb0 : Below w.heap.size w (w.alloc (Obj.cells #[Value.float FloatKind.f32 1065353216] 36)) := (Below.refl _ _).alloc (Nat.le_refl _) _
  generalize w.alloc (Obj.cells #[Value.float FloatKind.f32 1065353216] 36) = w0 at *
  go_loopw [7, 8, 9, 10, 11, 12, 13, 14, 17] (fun v bf _ _ _ _ _ _ i wr => ∃ (j b : Nat) (out : List Nat), j ≤ n ∧ out.length = j + 1 ∧ i = .int .i64 (j : Int) ∧ bf = .float .f32 b ∧ stepsF (lineF kind x) (n - j) j (out, b) = some (r', bfE) ∧ OwnF wr w.heap.size v out ∧ Below w.heap.size w wr) (fun _ _ _ _ _ _ _ _ i _ => n - (intOf i).toNat)
  case atStart => exact ⟨0, 0, _, by omega, rfl, rfl, rfl, h, hO, hb0⟩
  case round =>
    clear hO hb0 h
    obtain ⟨j, b, out, hj, hlen, rfl, rfl, hrec, hO, hb⟩ := hrel
    by_cases hlt : j < n
    · have e1 : (j : Int) < (n : Int) := by omega
      obtain ⟨s', hst, hrec⟩ := stepsF_at hrec hlt
      simp only [lineF, Option.bind_eq_some_iff] at hst
      obtain ⟨q, hq, m, hm, p, hp, t, ht, u, hu, d, hd, hs⟩ := hst
      cases hs
      obtain ⟨A, c, rfl, hR⟩ := hO.slice
      obtain ⟨ad, rfl, hc⟩ := hR.cells (by omega)
      have c0 := hc j (by omega)
      clear hc hR
      generalize out.getD j 0 = y at c0 ht hrec
      unfold fv at c0
      have Hlen := Lib.hid hlen
      have hlt' : (j : Int) < (out.length : Int) := by omega
      have f1 := @run_o32 _ _ _ _ hm
      have f2 := @run_o32 _ _ _ _ hp
      have f3 := @run_o32 _ _ _ _ ht
      have f4 := @run_o32 _ _ _ _ hu
      have f5 := @run_o32 _ _ _ _ hd
      clear hlen hm hp ht hu hd
      go_wp2_with fail
      refine Calls.same (rule_any kind j q _ hk hq) ?_
      go_wp2_with (first | (at_builtin; refine wpList_append_own _ rfl (.tmp 43) (.tmp 45) 51 rfl w.heap.size 36 i0 _ 1 4 Try.underlying51 hi hz0 hz1 hz2 rfl (by decide) _ out.length (out.map fv) rfl (hO.out.alloc _) ⟨wr.heap.size, 0, none⟩ 1 1 [fv d] rfl rfl ?c1 ?c2 ?c3 ?c4 ?c5 ?_) | simp only [f1, f2, f3, f4, f5])
      case c1 => exact cell_one_new _ _ _
      case c2 => intro u hu; simp at hu; subst hu; rfl
      case c3 => have := Hlen.out; unfold maxLen; omega
      case c4 => have := Hlen.out; omega
      case c5 => have := hb.size; simp; omega
      intro v' w5 hown hgrow _
      have hO5 := OwnF.appended hown
      have hb5 := hO.grown hb (by have := hb.size; omega) _ hgrow
      have hl5 : (out ++ [d]).length = j + 1 + 1 := by rw [List.length_append, Hlen.out]; rfl
      clear hown hgrow
      go_wp2
      go_roundw
      case rel => exact ⟨j + 1, y, out ++ [d], by omega, hl5, by go_num, rfl, hrec, hO5, hb5⟩
      case measure => simp [intOf]; omega
    · have e1 : ¬ (j : Int) < (n : Int) := by omega
      have e2 := stepsF_end hrec (by omega)
      cases e2
      obtain ⟨A', c', hv, _⟩ := hO.slice
      have Hv := Lib.hid hv
      clear hv hlen
      go_wp2
      go_ret
      refine ⟨A', c', congrArg Ending.returned Hv.out, ?_, hb⟩
      rw [← Hv.out]
      exact hO
end Go.Proofs.Ytdpogmibahaklaa

namespace Go.Proofs.Ytdpogmibahaklaa
open Go.RowKit

theorem rowF_len {kind n x : Nat} {r : List Nat} (h : rowF kind n x = some r) : r.length = n + 1 := by
  simp only [rowF, Option.map_eq_some_iff] at h
  obtain ⟨⟨r', bfE⟩, h, rfl⟩ := h
  have key : ∀ (m i : Nat) (s r : List Nat × Nat), stepsF (lineF kind x) m i s = some r → r.1.length = s.1.length + m := by
    intro m
    induction m with
    | zero => intro i s r h; rw [← stepsF_zero h]; rfl
    | succ m ih =>
      intro i s r h
      obtain ⟨s', h1, h2⟩ := stepsF_succ h
      simp only [lineF, Option.bind_eq_some_iff] at h1
      obtain ⟨_, _, _, _, _, _, _, _, _, _, d, _, h3⟩ := h1
      cases h3
      rw [ih _ _ _ h2, List.length_append]
      simp
      omega
  have := key n 0 _ _ h
  simp only [List.length_singleton] at this
  show r'.length = n + 1
  omega

theorem isKind_any (kind n : Nat) (w : World) (hk : kind ≤ 4) (hn : n ≤ 16) :
    Calls Try.prog 114 #[.int .i64 (kind : Int), .int .i64 (n : Int)] w fun e w' => e = .returned (.bool true) ∧ w' = w := by
  go_enter Try.func114, Try.ntmps114
  go_wp2_with fail
  refine Calls.same (within_any _ _ _ _ (by omega) (by omega)) ?_
  go_wp2_with fail
  refine Calls.same (within_any _ _ _ _ (by omega) (by omega)) ?_
  go_wp2
  go_ret
  exact ⟨rfl, rfl⟩

theorem checked_any (x : Nat) (w : World) (h : finB x = some true) :
    Calls Try.prog 118 #[.float .f32 x] w fun e w' => e = .returned (.tuple #[.float .f32 x, .bool true]) ∧ w' = w := by
  go_enter Try.func118, Try.ntmps118
  go_wp2_with fail
  refine Calls.same (isFinite_any _ _ h) ?_
  go_wp2
  go_ret2
  exact ⟨rfl, rfl⟩

/-- What a function hands back that makes numbers, and says yes. -/
def MadeF2 (w : World) (r : List Nat) (e : Ending) (w' : World) : Prop :=
  ∃ A c, e = .returned (.tuple #[.slice A r.length c, .bool true]) ∧ OwnF w' w.heap.size (.slice A r.length c) r ∧ Below w.heap.size w w'

theorem familyRowOk_any (kind n x : Nat) (r : List Nat) (w : World) (hk : kind ≤ 4) (hn : n ≤ 16) (hx : finB x = some true) (h : rowF kind n x = some r) (hr : ∀ y ∈ r, finB y = some true) :
    Calls Try.prog 40 #[.int .i64 (kind : Int), .int .i64 (n : Int), .float .f32 x] w (MadeF2 w r) := by
  go_enter Try.func40, Try.ntmps40
  go_wp2_with fail
  refine Calls.same (isKind_any kind n _ hk hn) ?_
  go_wp2_with fail
  refine Calls.same (isFinite_any _ _ hx) ?_
  go_wp2_with fail
  refine (familyRow_any kind n x r _ hk (by omega) h).mono ?_
  rintro e w1 ⟨A, c, rfl, hO, hb⟩
  obtain ⟨A2, c2, hv, hRd⟩ := hO.slice
  cases hv
  go_wp2_with fail
  refine Calls.same (areFinite_any r _ _ _ _ hRd hr) ?_
  go_wp2
  go_ret2
  exact ⟨A, c, rfl, hO, hb⟩

theorem familyAt_any (kind n x y : Nat) (r : List Nat) (w : World) (hk : kind ≤ 4) (hn : n ≤ 16) (hx : finB x = some true) (h : rowF kind n x = some r) (hy : r.getD n 0 = y) (hr : finB y = some true) :
    Calls Try.prog 41 #[.int .i64 (kind : Int), .int .i64 (n : Int), .float .f32 x] w fun e w' => e = .returned (.tuple #[.float .f32 y, .bool true]) ∧ Below w.heap.size w w' := by
  have hl := rowF_len h
  go_enter Try.func41, Try.ntmps41
  go_wp2_with fail
  refine Calls.same (isKind_any kind n _ hk hn) ?_
  go_wp2_with fail
  refine Calls.same (isFinite_any _ _ hx) ?_
  go_wp2_with fail
  refine (familyRow_any kind n x r _ hk (by omega) h).mono ?_
  rintro e w1 ⟨A, c, rfl, hO, hb⟩
  obtain ⟨A2, c2, hv, hRd⟩ := hO.slice
  cases hv
  obtain ⟨ad, rfl, hc⟩ := hRd.cells (by omega)
  have c0 := hc n (by omega)
  clear hc
  rw [hy] at c0
  unfold fv at c0
  have e1 : (n : Int) < (r.length : Int) := by omega
  go_wp2_with fail
  refine Calls.same (checked_any _ _ hr) ?_
  go_wp2
  go_ret2
  exact ⟨rfl, hb⟩

theorem results_tmp4 {fn : Func} {t u v x : Tmp} (h : fn.results = #[.tmp t, .tmp u, .tmp v, .tmp x]) (tmps : Array Value) (P : Program) (w : World) :
    (results fn tmps).run P w = .ok (.tuple #[tmps.getD t undef, tmps.getD u undef, tmps.getD v undef, tmps.getD x undef]) w := by
  simp [results, h]
theorem ruleOf_any (kind n : Nat) (q : Nat × Nat × Nat) (w : World) (hk : kind ≤ 4) (hn : n ≤ 16) (h : ruleF kind n = some q) :
    Calls Try.prog 46 #[.int .i64 (kind : Int), .int .i64 (n : Int)] w fun e w' => e = .returned (.tuple #[.float .f32 q.1, .float .f32 q.2.1, .float .f32 q.2.2, .bool true]) ∧ w' = w := by
  go_enter Try.func46, Try.ntmps46
  go_wp2_with fail
  refine Calls.same (isKind_any kind n _ hk hn) ?_
  go_wp2_with fail
  refine Calls.same (rule_any kind n q _ hk h) ?_
  go_wp2
  refine bodyPost_ret (results_tmp4 rfl _ _ _) rfl ?_
  exact ⟨rfl, rfl⟩

def gapF (a b : Nat) : Option Nat := (o64 .sub a b).bind fun p => (o64 .sub b a).bind fun q => f64max p q
theorem gap_any (a b r : Nat) (w : World) (h : gapF a b = some r) :
    Calls Try.prog 44 #[.float .f64 a, .float .f64 b] w fun e w' => e = .returned (.float .f64 r) ∧ w' = w := by
  simp only [gapF, Option.bind_eq_some_iff] at h
  obtain ⟨p, hp, q, hq, hm⟩ := h
  have f1 := @run_o64 _ _ _ _ hp
  have f2 := @run_o64 _ _ _ _ hq
  have f3 := fun ts t => run_max_two hm ts t Try.prog
  go_enter Try.func44, Try.ntmps44
  go_wp2_with (simp only [f1, f2, f3])
  go_ret
  exact ⟨rfl, rfl⟩

def farwF (a b : C) : Option Nat :=
  (wide a.1).bind fun p => (wide b.1).bind fun q => (gapF p q).bind fun g => (wide a.2).bind fun r => (wide b.2).bind fun s => (gapF r s).bind fun k => o64 .add g k
theorem far_any (a b : C) (r : Nat) (w : World) (h : farwF a b = some r) :
    Calls Try.prog 50 #[cv a, cv b] w fun e w' => e = .returned (.float .f64 r) ∧ w' = w := by
  simp only [farwF, Option.bind_eq_some_iff] at h
  obtain ⟨p, hp, q, hq, g, hg, t, ht, s, hs, k, hk, hr⟩ := h
  have f1 := @run_wide _ _ hp
  have f2 := @run_wide _ _ hq
  have f3 := @run_wide _ _ ht
  have f4 := @run_wide _ _ hs
  have f5 := @run_o64 _ _ _ _ hr
  clear hp hq ht hs hr
  unfold cv
  go_enter Try.func50, Try.ntmps50
  go_wp2_with (simp only [f1, f2, f3, f4, f5])
  refine Calls.same (gap_any p q g _ hg) ?_
  go_wp2_with (simp only [f1, f2, f3, f4, f5])
  refine Calls.same (gap_any t s k _ hk) ?_
  go_wp2_with (simp only [f1, f2, f3, f4, f5])
  go_ret
  exact ⟨rfl, rfl⟩
end Go.Proofs.Ytdpogmibahaklaa
