/- The program's terms of families return what the plain functions of bits say. -/
import Derived.Test.YtdpogmibahaklaaM6
set_option linter.unusedVariables false
set_option linter.unusedSimpArgs false
namespace Go.Proofs.Ytdpogmibahaklaa
open Go.RowKit

theorem rows_apart {w : World} {B B' e e' s s' n n' : Nat} {v v' : Value} {xs xs' : List Value} (h : w.ownsRow B e s v n xs) (h' : w.ownsRow B' e' s' v' n' xs') (hne : e ≠ e') : v.ownBlock = none ∨ v.ownBlock ≠ v'.ownBlock := by
  rcases h.2 with ⟨h0, _⟩ | ⟨g, cap, cur, hv, _, hg, _⟩
  · left; rw [h0]; rfl
  · right
    rcases h'.2 with ⟨h0, _⟩ | ⟨g', cap', cur', hv', _, hg', _⟩
    · rw [hv, h0]; intro e; cases e
    · rw [hv, hv']
      intro e
      simp only [Value.ownBlock, Option.some.injEq] at e
      rw [e, hg'] at hg
      injection hg with hg
      injection hg with _ h2
      exact hne h2.symm

theorem realAt_any (xs : List Nat) (A : Option Addr) (n c : Nat) (K : Int) (w : World) (hA : ReadsF w A n xs) (hn : n ≤ 100) (k1 : -1 ≤ K) (k2 : K ≤ 100) :
    Calls Try.prog 167 #[.slice A n c, .int .i64 K] w fun e w' => e = .returned (.float .f32 (if K < 0 then 0 else xs.getD K.toNat 0)) ∧ w' = w := by
  by_cases h0 : K < 0
  · rw [if_pos h0]
    go_enter Try.func167, Try.ntmps167
    go_wp2
    go_ret
    exact ⟨rfl, rfl⟩
  · rw [if_neg h0]
    obtain ⟨k, rfl⟩ := Int.eq_ofNat_of_zero_le (show 0 ≤ K by omega)
    rw [Int.toNat_natCast]
    by_cases h1 : k < n
    · obtain ⟨ad, rfl, hc⟩ := hA.cells (by omega)
      have c0 := hc k h1
      generalize xs.getD k 0 = y at *
      unfold fv at c0
      clear hc
      have e2 : ¬ (n : Int) ≤ (k : Int) := by omega
      have e3 : (k : Int) < (n : Int) := by omega
      go_enter Try.func167, Try.ntmps167
      go_wp2
      go_ret
      exact ⟨rfl, rfl⟩
    · have e2 : (n : Int) ≤ (k : Int) := by omega
      have hl := hA.len
      rw [show xs.getD k 0 = 0 by rw [List.getD_eq_getElem?_getD, List.getElem?_eq_none (by omega)]; rfl]
      go_enter Try.func167, Try.ntmps167
      go_wp2
      go_ret
      exact ⟨rfl, rfl⟩

theorem Try.info51 : (Try.prog.info? 51).map (fun i => (i.zero, i.size, i.bytes)) = some (some (.slice none 0 0), 1, 24) := by kernel_rfl

/-- A slice of slices that the call has made. -/
structure OwnL (w : World) (B : Nat) (v : Value) (vs : List Value) : Prop where mk :: (out : w.ownsRow B 51 1 v vs.length vs)
theorem OwnL.below {w w1 : World} {B : Nat} {v : Value} {xs : List Value} (h : OwnL w B v xs) (hb : Below w.heap.size w w1) : OwnL w1 B v xs :=
  ⟨h.out.kept (row := none) ⟨hb.os, hb.tape, hb.output, hb.size, fun i hi _ => hb.block i hi⟩ (by cases v.ownBlock <;> simp)⟩
theorem OwnL.form {w : World} {B : Nat} {v : Value} {xs : List Value} (h : OwnL w B v xs) (hn : 0 < xs.length) :
    ∃ g cap, v = .slice (some ⟨g, 0, none⟩) xs.length cap ∧ B ≤ g ∧ g < w.heap.size := by
  rcases h.out.2 with ⟨_, h0⟩ | ⟨g, cap, cur, hv, hB, hh, h1, h2, _⟩
  · omega
  · exact ⟨g, cap, hv, hB, (Array.getElem?_eq_some_iff.1 hh).1⟩
/-- The rows that lie in it. -/
def Inner (w : World) (B : Nat) (vs : List Value) (outs : List (List Nat)) : Prop :=
  outs.length = vs.length ∧ ∀ i, i < vs.length → OwnF w B (vs.getD i (.bool false)) (outs.getD i [])
theorem Inner.below {w w1 : World} {B : Nat} {vs : List Value} {outs : List (List Nat)} (h : Inner w B vs outs) (hb : Below w.heap.size w w1) : Inner w1 B vs outs := ⟨h.1, fun i hi => (h.2 i hi).below hb⟩
theorem getD_append_at {α : Type} (xs : List α) (x d : α) : (xs ++ [x]).getD xs.length d = x := by
  rw [List.getD_eq_getElem?_getD, List.getElem?_append_right (Nat.le_refl _)]
  simp
theorem getD_append_lt {α : Type} (xs : List α) (x d : α) {i : Nat} (h : i < xs.length) : (xs ++ [x]).getD i d = xs.getD i d := by
  rw [List.getD_eq_getElem?_getD, List.getD_eq_getElem?_getD, List.getElem?_append_left h]
theorem Inner.add {w : World} {B : Nat} {vs : List Value} {outs : List (List Nat)} {v : Value} {out : List Nat} (h : Inner w B vs outs) (hv : OwnF w B v out) : Inner w B (vs ++ [v]) (outs ++ [out]) := by
  refine ⟨by rw [List.length_append, List.length_append, h.1]; rfl, fun i hi => ?_⟩
  rw [List.length_append, List.length_singleton] at hi
  rcases Nat.lt_or_eq_of_le (Nat.le_of_lt_succ hi) with hl | rfl
  · rw [getD_append_lt vs v _ hl, getD_append_lt outs out _ (by rw [h.1]; exact hl)]
    exact h.2 i hl
  · rw [getD_append_at, ← h.1, getD_append_at]
    exact hv
theorem Inner.kept {w w1 : World} {B : Nat} {vs : List Value} {outs : List (List Nat)} {v : Value} {xs : List Value} {n : Nat} (h : Inner w B vs outs) (hL : w.ownsRow B 51 1 v n xs) (hg : w.grownBy w1 v.ownBlock) : Inner w1 B vs outs :=
  ⟨h.1, fun i hi => ⟨(h.2 i hi).out.kept hg (rows_apart (h.2 i hi).out hL (by decide))⟩⟩

/-- What a function hands back that makes lists of numbers. -/
def MadeL (w : World) (r : List (List Nat)) (e : Ending) (w' : World) : Prop :=
  ∃ v vs, e = .returned v ∧ OwnL w' w.heap.size v vs ∧ Inner w' w.heap.size vs r ∧ Below w.heap.size w w'

theorem termsF_len {kind n : Nat} {r : List (List Nat)} (h : termsF kind n = some r) : r.length = n + 1 := by
  simp only [termsF, Option.map_eq_some_iff] at h
  obtain ⟨⟨r', bfE⟩, h, rfl⟩ := h
  have key : ∀ (m i : Nat) (s r : List (List Nat) × List Nat), stepsF (termsStepF kind) m i s = some r → r.1.length = s.1.length + m := by
    intro m
    induction m with
    | zero => intro i s r h; rw [← stepsF_zero h]; rfl
    | succ m ih =>
      intro i s r h
      obtain ⟨s', h1, h2⟩ := stepsF_succ h
      simp only [termsStepF, Option.bind_eq_some_iff] at h1
      obtain ⟨_, _, d, _, h3⟩ := h1
      cases h3
      rw [ih _ _ _ h2, List.length_append]
      simp
      omega
  have := key n 0 _ _ h
  simp only [List.length_singleton] at this
  show r'.length = n + 1
  omega

set_option maxRecDepth 100000 in
set_option maxHeartbeats 1000000 in
theorem familyTerms_any (kind n : Nat) (r : List (List Nat)) (w : World) (hk : kind ≤ 4) (hn : n ≤ 16) (h : termsF kind n = some r) :
    Calls Try.prog 120 #[.int .i64 (kind : Int), .int .i64 (n : Int)] w (MadeL w r) := by
  obtain ⟨i0, hi, hz0, hz1, hz2⟩ := info_parts Try.info36
  obtain ⟨j0, hji, hy0, hy1, hy2⟩ := info_parts Try.info51
  simp only [termsF, Option.map_eq_some_iff] at h
  obtain ⟨⟨r', bfE⟩, h, rfl⟩ := h
  go_enter Try.func120, Try.ntmps120
  go_wp2_with fail
  have hO1 : OwnF (w.alloc (Obj.cells #[Value.float FloatKind.f32 1065353216] 36)) w.heap.size (.slice (some ⟨w.heap.size, 0, none⟩) 1 1) [1065353216] := ⟨World.ownsRow_lit w _ 1 (Nat.le_refl _) (by unfold maxLen; omega) rfl⟩
  have hb1 : Below w.heap.size w (w.alloc (Obj.cells #[Value.float FloatKind.f32 1065353216] 36)) := (Below.refl _ _).alloc (Nat.le_refl _) _
  have hs1 : (w.alloc (Obj.cells #[Value.float FloatKind.f32 1065353216] 36)).heap.size = w.heap.size + 1 := by simp
  rw [← hs1]
  generalize w.alloc (Obj.cells #[Value.float FloatKind.f32 1065353216] 36) = w1 at *
  have hL2 : OwnL (w1.alloc (Obj.cells #[Value.slice (some ⟨w.heap.size, 0, none⟩) 1 1] 51)) w.heap.size (.slice (some ⟨w1.heap.size, 0, none⟩) 1 1) [Value.slice (some ⟨w.heap.size, 0, none⟩) 1 1] := ⟨World.ownsRow_lit w1 _ 1 (by omega) (by unfold maxLen; omega) rfl⟩
  have hO2 := hO1.below ((Below.refl w1.heap.size w1).alloc (Nat.le_refl _) (Obj.cells #[Value.slice (some ⟨w.heap.size, 0, none⟩) 1 1] 51))
  have hb2 := hb1.alloc (by omega) (Obj.cells #[Value.slice (some ⟨w.heap.size, 0, none⟩) 1 1] 51)
  have hs2 : (w1.alloc (Obj.cells #[Value.slice (some ⟨w.heap.size, 0, none⟩) 1 1] 51)).heap.size = w1.heap.size + 1 := by simp
  rw [← hs2]
  generalize w1.alloc (Obj.cells #[Value.slice (some ⟨w.heap.size, 0, none⟩) 1 1] 51) = w2 at *
  have hO3 : OwnF (w2.alloc (Obj.cells #[] 36)) w.heap.size (.slice (some ⟨w2.heap.size, 0, none⟩) 0 0) [] := ⟨World.ownsRow_lit w2 _ 0 (by omega) (by unfold maxLen; omega) rfl⟩
  have hx3 : Below w2.heap.size w2 (w2.alloc (Obj.cells #[] 36)) := (Below.refl w2.heap.size w2).alloc (Nat.le_refl _) (Obj.cells #[] 36)
  have hL3 := hL2.below hx3
  have hI3 : Inner (w2.alloc (Obj.cells #[] 36)) w.heap.size [Value.slice (some ⟨w.heap.size, 0, none⟩) 1 1] [[1065353216]] := ⟨rfl, fun i hi => by
    obtain rfl : i = 0 := by simpa using hi
    exact hO2.below hx3⟩
  have hb3 := hb2.alloc (by omega) (Obj.cells #[] 36)
  clear hO1 hb1 hL2 hO2 hb2 hx3
  generalize w2.alloc (Obj.cells #[] 36) = w3 at *
  go_loopw [5, 6, 7, 8, 9, 10, 11, 12, 13, 18] (fun v bf _ _ _ _ _ _ _ i wr => ∃ (j : Nat) (vs : List Value) (outs : List (List Nat)) (before : List Nat), j ≤ n ∧ outs.length = j + 1 ∧ i = .int .i64 (j : Int) ∧
    stepsF (termsStepF kind) (n - j) j (outs, before) = some (r', bfE) ∧ OwnL wr w.heap.size v vs ∧ Inner wr w.heap.size vs outs ∧ OwnF wr w.heap.size bf before ∧ (∀ i, i ≤ j → (outs.getD i []).length = i + 1) ∧ before.length ≤ 17 ∧ Below w.heap.size w wr) (fun _ _ _ _ _ _ _ _ _ i _ => n - (intOf i).toNat)
  case atStart => exact ⟨0, _, _, [], by omega, rfl, rfl, h, hL3, hI3, hO3, fun i hi => by (have h0 : i = 0 := Nat.le_zero.1 hi); subst h0; rfl, by simp, hb3⟩
  case round =>
    clear hL3 hI3 hO3 hb3 h hs1 hs2
    obtain ⟨j, vs, outs, before, hj, hlen, rfl, hrec, hL, hI, hB, h17, hb17, hb⟩ := hrel
    by_cases hlt : j < n
    · have e1 : (j : Int) < (n : Int) := by omega
      obtain ⟨s', hst, hrec⟩ := stepsF_at hrec hlt
      simp only [termsStepF, Option.bind_eq_some_iff] at hst
      obtain ⟨q, hq, next, hnext, hs⟩ := hst
      cases hs
      have hvl : vs.length = j + 1 := by rw [← hI.1, hlen]
      obtain ⟨g, cap, rfl, hBg, hgl⟩ := hL.form (by omega)
      have hone := hI.2 j (by omega)
      have hol := h17 j (Nat.le_refl _)
      have hcell : wr.cell? ⟨g, j, none⟩ = some (vs.getD j (.bool false)) := by
        have := hL.out.cells (g := g) rfl j (vs.getD j (.bool false)) (by rw [List.getD_eq_getElem?_getD, List.getElem?_eq_getElem (by omega)]; rfl)
        rw [Addr.add_lit, Nat.zero_add] at this
        exact this
      generalize hone' : outs.getD j [] = one at *
      obtain ⟨Ao, co, hvo, hRo⟩ := hone.slice
      rw [hvo] at hcell hone
      rw [hol] at hcell hone hRo
      obtain ⟨Ab, cb, hvb, hRb⟩ := hB.slice
      subst hvb
      have hvl' : (j : Int) < (vs.length : Int) := by omega
      go_wp2_with fail
      refine Calls.same (rule_any kind j q _ hk hq) ?_
      go_wp2_with fail
      have hN : OwnF (wr.alloc (Obj.cells #[] 36)) wr.heap.size (.slice (some ⟨wr.heap.size, 0, none⟩) 0 0) [] := ⟨World.ownsRow_lit wr _ 0 (Nat.le_refl _) (by unfold maxLen; omega) rfl⟩
      have hbN : Below wr.heap.size wr (wr.alloc (Obj.cells #[] 36)) := (Below.refl _ _).alloc (Nat.le_refl _) _
      rw [hol] at hnext
      have Hlen := Lib.hid hlen
      have Hvl := Lib.hid hvl
      have H17 := Lib.hid h17
      clear hlen hvl h17
      generalize wr.alloc (Obj.cells #[] 36) = w4 at *
      go_loopw [12, 13, 36] (fun v _ i wq => ∃ (k : Nat) (out : List Nat), k ≤ j + 1 + 1 ∧ out.length = k ∧ i = .int .i64 (k : Int) ∧
        stepsF (termF q one before) (j + 1 + 1 - k) k out = some next ∧ OwnF wq wr.heap.size v out ∧ Below wr.heap.size wr wq) (fun _ _ i _ => j + 1 + 1 - (intOf i).toNat)
      case atStart => exact ⟨0, [], by omega, rfl, rfl, hnext, hN, hbN⟩
      case round =>
        clear hN hbN hnext
        obtain ⟨k, out, hk2, hlen2, rfl, hrec2, hO, hbq⟩ := hrel
        by_cases hlt2 : k < j + 1 + 1
        · have e2 : (k : Int) < (j : Int) + 1 + 1 := by omega
          obtain ⟨s', hst, hrec2⟩ := stepsF_at hrec2 hlt2
          simp only [termF, Option.bind_eq_some_iff] at hst
          obtain ⟨a, ha, b, hbb, s, hs, c, hc, d, hd, hout⟩ := hst
          cases hout
          have r1 := realAt_any one Ao (j + 1) co ((k : Int) - 1) _ (hRo.below hbq) (by omega) (by omega) (by omega)
          have r2 := realAt_any one Ao (j + 1) co (k : Int) _ (hRo.below hbq) (by omega) (by omega) (by omega)
          have r3 := realAt_any before Ab before.length cb (k : Int) _ (hRb.below hbq) (by omega) (by omega) (by omega)
          rw [if_neg (show ¬ (k : Int) < 0 by omega), Int.toNat_natCast] at r2 r3
          have eK : (if (k : Int) - 1 < 0 then 0 else one.getD ((k : Int) - 1).toNat 0) = (if k = 0 then 0 else one.getD (k - 1) 0) := by
            by_cases h0 : k = 0
            · rw [if_pos h0, if_pos (by omega)]
            · rw [if_neg h0, if_neg (by omega), show ((k : Int) - 1).toNat = k - 1 by omega]
          rw [eK] at r1
          clear eK
          generalize (if k = 0 then 0 else one.getD (k - 1) 0) = y1 at r1 ha
          generalize one.getD k 0 = y2 at r2 hbb
          generalize before.getD k 0 = y3 at r3 hc
          have f1 := @run_o32 _ _ _ _ ha
          have f2 := @run_o32 _ _ _ _ hbb
          have f3 := @run_o32 _ _ _ _ hs
          have f4 := @run_o32 _ _ _ _ hc
          have f5 := @run_o32 _ _ _ _ hd
          have Hlen2 := Lib.hid hlen2
          have hsz := hbq.size
          clear ha hbb hs hc hd hlen2
          go_wp2_with fail
          refine Calls.same r1 ?_
          go_wp2_with (simp only [f1, f2, f3, f4, f5])
          refine Calls.same r2 ?_
          go_wp2_with (simp only [f1, f2, f3, f4, f5])
          refine Calls.same r3 ?_
          go_wp2_with (first | (at_builtin; refine wpList_append_own _ rfl (.tmp 39) (.tmp 58) 51 rfl (World.heap _).size 36 i0 _ 1 4 Try.underlying51 hi hz0 hz1 hz2 rfl (by decide) _ out.length (out.map fv) rfl (hO.out.alloc _) ⟨wr.heap.size, 0, none⟩ 1 1 [fv d] rfl rfl ?c1 ?c2 ?c3 ?c4 ?c5 ?_) | simp only [f1, f2, f3, f4, f5])
          case c1 => exact cell_one_new _ _ _
          case c2 => intro u hu; simp at hu; subst hu; rfl
          case c3 => have := Hlen2.out; unfold maxLen; omega
          case c4 => have := Hlen2.out; omega
          case c5 => simp; omega
          intro v' w5 hown hgrow _
          have hO5 := OwnF.appended hown
          have hb5 := hO.grown hbq hsz _ hgrow
          have hl5 : (out ++ [d]).length = k + 1 := by rw [List.length_append, Hlen2.out]; rfl
          clear hown hgrow
          go_wp2
          go_roundw
          case rel => exact ⟨k + 1, out ++ [d], by omega, hl5, by go_num, hrec2, hO5, hb5⟩
          case measure => simp [intOf]; omega
        · have e2 : ¬ (k : Int) < (j : Int) + 1 + 1 := by omega
          have e3 := stepsF_end hrec2 (by omega)
          subst e3
          obtain ⟨An, cn, hvn, hRn⟩ := hO.slice
          subst hvn
          have hO' := hO.mono hb.size
          have hL' := hL.below hbq
          have hI' := hI.below hbq
          have h1' := hone.below hbq
          have hb' := below_then hb hbq hb.size
          have hsz := hb'.size
          have hkl : out.length = j + 1 + 1 := by omega
          rw [hkl] at hO' ⊢
          have Hkl := Lib.hid hkl
          have hL2 := hL'.out
          rw [Hvl.out] at hL2
          clear hO hRn hrec2 hbq hlen2 hkl
          go_wp2_with (at_builtin; refine wpList_append_own _ rfl (.tmp 62) (.tmp 64) 109 rfl w.heap.size 51 j0 _ 1 24 Try.underlying109 hji hy0 hy1 hy2 rfl (by decide) _ (j + 1) vs rfl (hL2.alloc _) ⟨wr.heap.size, 0, none⟩ 1 1 [.slice An (j + 1 + 1) cn] rfl rfl ?c1 ?c2 ?c3 ?c4 ?c5 ?_)
          case c2 => rfl
          case c3 => unfold maxLen; omega
          case c4 => omega
          case c5 => omega
          intro v' w5 hown hgrow _
          have hal : Below wr.heap.size wr (wr.alloc (Obj.cells #[Value.slice An (j + 1 + 1) cn] 51)) := (Below.refl _ _).alloc (Nat.le_refl _) _
          have hLa := hL2.alloc (o := Obj.cells #[Value.slice An (j + 1 + 1) cn] 51)
          have hI5 := (hI'.below hal).kept hLa hgrow
          have hN5 : OwnF w5 w.heap.size (.slice An (j + 1 + 1) cn) out := ⟨(hO'.below hal).out.kept hgrow (rows_apart (hO'.below hal).out hLa (by decide))⟩
          have h15 : OwnF w5 w.heap.size (.slice Ao (j + 1) co) one := ⟨(h1'.below hal).out.kept hgrow (rows_apart (h1'.below hal).out hLa (by decide))⟩
          have hb5 : Below w.heap.size w w5 := (hb'.alloc hsz _).grown hgrow (by simp; omega) (fun k hk => (hLa.lt k hk).1)
          have hL5 : OwnL w5 w.heap.size v' (vs ++ [.slice An (j + 1 + 1) cn]) := ⟨by rw [List.length_append, Hvl.out]; exact hown⟩
          have hI6 := hI5.add hN5
          have hl5 : (outs ++ [out]).length = j + 1 + 1 := by rw [List.length_append, Hlen.out]; rfl
          have h175 : ∀ i, i ≤ j + 1 → ((outs ++ [out]).getD i []).length = i + 1 := by
            intro i hi
            have hl := Hlen.out
            rcases Nat.lt_or_eq_of_le hi with h6 | h6
            · rw [getD_append_lt _ _ _ (by omega)]
              exact H17.out i (by omega)
            · rw [h6, ← hl, getD_append_at, hl]
              exact Hkl.out
          have h1l : one.length ≤ 17 := by omega
          clear hown hgrow hal hLa hL2 hI5 hN5 hL' hI' h1' hO'
          go_wp2
          go_roundw
          case rel => exact ⟨j + 1, _, _, one, by omega, hl5, by go_num, hrec, hL5, hI6, h15, h175, h1l, hb5⟩
          case measure => simp [intOf]; omega
    · have e1 : ¬ (j : Int) < (n : Int) := by omega
      have e2 := stepsF_end hrec (by omega)
      cases e2
      go_wp2
      go_ret
      exact ⟨_, vs, rfl, hL, hI, hb⟩
end Go.Proofs.Ytdpogmibahaklaa
