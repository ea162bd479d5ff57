/- The program's FamilyOf returns what the plain function of bits says. -/
import Derived.Test.YtdpogmibahaklaaM10
import Derived.Laws.Cover3
set_option linter.unusedVariables false
set_option linter.unusedSimpArgs false
namespace Go.Proofs.Ytdpogmibahaklaa
open Go.RowKit

theorem run_eql_nil (t e : TypeId) (a : Option Addr) (l c : Nat) (P : Program) (w : World) (h : P.underlying t = some (.slice e)) : (binOp .eql t (.slice a l c) (.slice none 0 0)).run P w = .ok (.bool a.isNone) w := by
  simp [binOp, run_equal_slice_nil w t e a l c h]

set_option maxRecDepth 100000 in
theorem clone_any (p : List C) (ad : Addr) (n c : Nat) (w : World) (hA : ReadsC w (some ad) n p) (n1 : 1 ≤ n) (n2 : n ≤ 16) :
    Calls Try.prog 123 #[.slice (some ad) n c] w fun e w' => ∃ g c', e = .returned (.slice (some ⟨g, 0, none⟩) n c') ∧ RowC w' w.heap.size g n c' p ∧ Below w.heap.size w w' := by
  obtain ⟨i0, hi, hz0, hz1, hz2⟩ := info_parts Try.info26
  have hl := hA.len
  have hO : OwnC (w.alloc (Obj.cells #[] 26)) w.heap.size (.slice (some ⟨w.heap.size, 0, none⟩) 0 0) [] := ⟨World.ownsRow_lit w #[] 0 (Nat.le_refl _) (by unfold maxLen; omega) rfl⟩
  have hb0 : Below w.heap.size w (w.alloc (Obj.cells #[] 26)) := (Below.refl _ _).alloc (Nat.le_refl _) _
  have hA0 := hA.below hb0
  go_enter Try.func123, Try.ntmps123
  have f0 := fun w => run_eql_nil 24 26 (some ad) n c Try.prog w Try.underlying24
  go_wp2_with (first | simp only [f0] | (at_builtin; refine wpList_append_own _ rfl (.tmp 5) (.tmp 6) 24 rfl w.heap.size 26 i0 _ 1 8 Try.underlying24 hi hz0 hz1 hz2 rfl (by decide) _ 0 ([].map cv) rfl hO.out ad n c (p.map cv) rfl (by rw [List.length_map, hl, Nat.mul_one]) ?c1 ?c2 ?c3 ?c4 ?c5 ?_))
  case c1 =>
    intro j u hu
    obtain ⟨ad', e', hc⟩ := hA0.cells (by omega)
    cases e'
    have hj : j < n := by
      rcases Nat.lt_or_ge j n with h | h
      · exact h
      · rw [List.getElem?_eq_none (by rw [List.length_map]; omega)] at hu; cases hu
    rw [hc j hj, ← hu, List.getElem?_map, List.getElem?_eq_getElem (by omega), List.getD_eq_getElem?_getD, List.getElem?_eq_getElem (by omega)]
    rfl
  case c2 =>
    intro u hu
    obtain ⟨x, _, rfl⟩ := List.mem_map.1 hu
    rfl
  case c3 => unfold maxLen; omega
  case c4 => omega
  case c5 => simp
  intro v' w5 hown hgrow _
  have hb5 : Below w.heap.size w w5 := hb0.grown hgrow (by simp) (fun k hk => by cases hk; exact Nat.le_refl _)
  have hO5 : OwnC w5 w.heap.size v' p := ⟨by have := hown; rw [hl]; simpa using this⟩
  obtain ⟨g, cap, hv, hB, _, _⟩ := hO5.form (by omega)
  subst hv
  clear hown hgrow
  go_wp2
  go_ret
  exact ⟨g, cap, rfl, ⟨hl, hB, by rw [← hl]; exact hO5.out⟩, hb5⟩

theorem checkedList_any (xs : List C) (A : Option Addr) (n c : Nat) (w : World) (hA : ReadsC w A n xs) (hx : ∀ x ∈ xs, FinC x) :
    Calls Try.prog 102 #[.slice A n c] w fun e w' => e = .returned (.tuple #[.slice A n c, .bool true]) ∧ Below w.heap.size w w' := by
  go_enter Try.func102, Try.ntmps102
  go_wp2_with (go_at_call 89; refine (allFinite_any xs _ _ _ _ hA hx).mono ?_; rintro e w' ⟨rfl, hb⟩)
  go_ret2
  exact ⟨rfl, hb⟩
theorem RowC.lo {w : World} {B B' g n c : Nat} {xs : List C} (h : RowC w B g n c xs) (hB : B' ≤ B) : RowC w B' g n c xs := by
  refine ⟨h.len, Nat.le_trans hB h.base, h.own.1, ?_⟩
  rcases h.own.2 with h | ⟨g', cap', cur, h1, h2, h3, h4, h5⟩
  · exact Or.inl h
  · exact Or.inr ⟨g', cap', cur, h1, by omega, h3, h4, h5⟩
theorem RowC.dr {w w1 : World} {B g n c : Nat} {xs : List C} (h : RowC w B g n c xs) (hd : Drawn w w1) : RowC w1 B g n c xs := h.below (hd.below _)

set_option maxRecDepth 100000 in
set_option maxHeartbeats 8000000 in
theorem famOf_any (kind : Nat) (p : List C) (ad : Addr) (n c : Nat) (r : List C) (w : World) (hk : kind ≤ 4) (hA : ReadsC w (some ad) n p) (hp : ValC p) (hf : ∀ k, k < n → ∃ f, FamOk kind k f)
    (h : famOfF kind p = some r) (hr : ∀ x ∈ r, FinC x) :
    Calls Try.prog 49 #[.int .i64 (kind : Int), .agg #[.slice (some ad) n c]] w (MadeC w r) := by
  have hl := hA.len
  have hm1 := hp.least
  have hm2 := hp.most
  have n1 : 1 ≤ n := by omega
  have n2 : n ≤ 16 := by omega
  obtain ⟨i0, hi, hz0, hz1, hz2⟩ := info_parts Try.info26
  simp only [famOfF, Option.map_eq_some_iff] at h
  obtain ⟨⟨lE, r'⟩, h, rfl⟩ := h
  rw [hl] at h
  have hr2 : ∀ x ∈ r', FinC x := hr
  have hb0 := (Below.refl w.heap.size w).alloc (Nat.le_refl _) (Obj.cells #[.slice (some ad) n c] 29)
  have hx0 : (w.alloc (Obj.cells #[.slice (some ad) n c] 29)).cell? ⟨w.heap.size, 0, none⟩ = some (.slice (some ad) n c) := by simp
  have hs0 : w.heap.size ≤ (w.alloc (Obj.cells #[.slice (some ad) n c] 29)).heap.size := by simp
  have hA0 := hA.below hb0
  have Hf := Lib.hid hf
  clear hl hm1 hm2 hf hr
  go_enter Try.func49, Try.ntmps49
  go_wp2_with fail
  generalize w.alloc (Obj.cells #[.slice (some ad) n c] 29) = w0 at *
  refine Calls.same (within_any _ _ _ _ (by omega) (by omega)) ?_
  go_wp2_with fail
  refine Calls.below (validPoly_any p (some ad) n c _ hA0 hp) ?_
  intro w1 hb1
  have hx1 := cell_below hb1 hx0
  have hA1 := hA0.below hb1
  go_wp2_with fail
  refine (clone_any p ad n c _ hA1 n1 n2).mono ?_
  rintro e w2 ⟨gl, cl, rfl, hL, hb2⟩
  have hb12 := below_seq hb1 hb2
  have hbb := hb12.size
  have hgl := hL.lt
  go_wp2_with (at_make; refine wpList_make_full _ rfl (.tmp 24) (.tmp 24) 24 rfl w2.heap.size 26 i0 _ 1 Try.underlying24 hi hz0 hz1 .i64 .i64 _ _ n rfl rfl rfl rfl ?m1 ?m2 ?m3 ?_)
  case m1 => rw [hz2]; omega
  case m2 => unfold maxLen; omega
  case m3 => exact Nat.le_refl _
  intro w3 hown hgrow
  have hR := rowC_of_made hown (Nat.le_refl _)
  have hb3 : Below w0.heap.size w0 w3 := hb12.grown hgrow hbb (by intro k hk; cases hk)
  have hL3 : RowC w3 w1.heap.size gl n cl p := ⟨hL.len, hL.base, hL.own.kept hgrow (by right; simp [Value.ownBlock])⟩
  have hL4 := hL3.lo hb1.size
  have hR4 := hR.lo hbb
  have hne : gl ≠ w2.heap.size := by omega
  clear hown hgrow hb1 hb2 hb12 hL hL3 hR hx1 hA1
  generalize w2.heap.size = g at *
  go_wp2_with fail
  go_loopw [8, 9, 10, 11] (fun i _ _ _ wr => ∃ (R : Nat) (X : Int) (left out : List C), R ≤ n ∧ i = .int .i64 X ∧ X = (R : Int) - 1 ∧
    stepsF (fun j => famOfStepF kind (n - 1 - j)) R (n - R) (left, out) = some (lE, r') ∧ RowC wr w0.heap.size gl n cl left ∧ RowC wr w0.heap.size g n n out ∧ Below w0.heap.size w0 wr) (fun i _ _ _ _ => (intOf i + 1).toNat)
  case atStart => exact ⟨n, (n : Int) - 1, _, _, by omega, rfl, rfl, by rw [Nat.sub_self]; exact h, hL4, hR4, hb3⟩
  case round =>
    clear h hL4 hR4 hb3
    obtain ⟨R, X, left, out, hR1, rfl, hX, hrec, hL, hR, hb⟩ := hrel
    by_cases hlt : 0 < R
    · obtain ⟨R', rfl⟩ : ∃ R', R = R' + 1 := ⟨R - 1, by omega⟩
      obtain rfl : X = (R' : Int) := by omega
      clear hX
      obtain ⟨⟨left', out'⟩, hst, hrec⟩ := stepsF_succ hrec
      rw [show n - 1 - (n - (R' + 1)) = R' by omega] at hst
      rw [show n - (R' + 1) + 1 = n - R' by omega] at hrec
      simp only [famOfStepF, Option.bind_eq_some_iff] at hst
      obtain ⟨f, hfe, q, hq, l2, htake, hs⟩ := hst
      cases hs
      obtain ⟨f', hok⟩ := Hf.out R' (by omega)
      have hff : f' = f := by have := hok.eq; rw [hfe] at this; exact (Option.some.inj this).symm
      subst hff
      have hfl := hok.len
      have e1 : (0 : Int) ≤ (R' : Int) := by omega
      have hn4 : (R' : Int) < (n : Int) := by omega
      go_wp2_with fail
      refine (familyPoly_any kind R' f' _ hk (by omega) hok.eq hok.ok hok.trim).mono ?_
      rintro e w4 ⟨fd, fc, rfl, hfd, hRf, hb4⟩
      rw [hfl] at hRf ⊢
      have g1l := hL.lt
      have g2l := hR.lt
      have hb5 := below_then hb hb4 hb.size
      have hal : Below w4.heap.size w4 (w4.alloc (Obj.cells #[.slice (some fd) (R' + 1) fc] 29)) := (Below.refl _ _).alloc (Nat.le_refl _) _
      have hb6 := below_then hb5 hal hb5.size
      have hL6 := (hL.below hb4).below hal
      have hR6 := (hR.below hb4).below hal
      have hRf6 := hRf.below hal
      have hbox : (w4.alloc (Obj.cells #[.slice (some fd) (R' + 1) fc] 29)).cell? ⟨w4.heap.size, 0, none⟩ = some (.slice (some fd) (R' + 1) fc) := by simp
      have hf1 : fd.block ≠ g := by omega
      have hf2 : fd.block ≠ gl := by omega
      have sz4 := hb4.size
      have hw1 : w4.heap.size ≠ g := by omega
      have hw2 : w4.heap.size ≠ gl := by omega
      clear hL hR hb hb4 hb5 hRf hal
      go_wp2_with fail
      generalize w4.alloc (Obj.cells #[.slice (some fd) (R' + 1) fc] 29) = w5 at *
      generalize w4.heap.size = bx at *
      obtain ⟨ad', e', hc⟩ := hL6.reads.cells (by omega)
      cases e'
      have c1 := hc R' (by omega)
      rw [Addr.add_lit, Nat.zero_add] at c1
      clear hc
      obtain ⟨ad', e', hc⟩ := hRf6.cells (by omega)
      cases e'
      have c2 := hc R' (by omega)
      clear hc
      have c3 : ∃ v, w5.cell? ⟨g, R', none⟩ = some v := by
        obtain ⟨ad', e', hc⟩ := hR6.reads.cells (by omega)
        cases e'
        have := hc R' (by omega)
        rw [Addr.add_lit, Nat.zero_add] at this
        exact ⟨_, this⟩
      obtain ⟨v3, c3⟩ := c3
      have hfz := hR6.frozen R'
      generalize left.getD R' zero = x at c1 hq
      generalize f'.getD R' zero = y at c2 hq
      unfold cv at c1 c2
      go_region_with (go_at_call 87; refine Calls.same (quot_any x y q _ hq) ?_; unfold cv)
      all_goals
        have hR9 : RowC (w5.setCell ⟨g, R', none⟩ (.complex .f32 q.1 q.2)).drew w0.heap.size g n n (out.set R' q) := (hR6.stored R' q).drew
        have hL9 : RowC (w5.setCell ⟨g, R', none⟩ (.complex .f32 q.1 q.2)).drew w0.heap.size gl n cl left := (hL6.other (hR6.grows R' q) hne).drew
        have hb9 : Below w0.heap.size w0 (w5.setCell ⟨g, R', none⟩ (.complex .f32 q.1 q.2)).drew := below_drew (hb6.setCell hR6.base _)
        have hRf9 : ReadsC (w5.setCell ⟨g, R', none⟩ (.complex .f32 q.1 q.2)).drew (some fd) (R' + 1) f' := (hRf6.set _ _ _ hf1).drew
        have hbox9 : (w5.setCell ⟨g, R', none⟩ (.complex .f32 q.1 q.2)).drew.cell? ⟨bx, 0, none⟩ = some (.slice (some fd) (R' + 1) fc) := by
          rw [World.cell?_drew, World.cell?_setCell_other _ _ _ _ (by simp)]
          exact hbox
        clear hR6 hL6 hb6 hRf6 hbox c1 c2 c3 hfz
        have hq0 : (out.set R' q).getD R' zero = q := by
          have := hR9.len
          rw [List.getD_eq_getElem?_getD, List.getElem?_set_self (by rw [List.length_set] at this; omega)]
          rfl
        generalize out.set R' q = out9 at *
        generalize (w5.setCell ⟨g, R', none⟩ (.complex .f32 q.1 q.2)).drew = w6 at *
        unfold takeOffF at htake
        go_wp2_with fail
        go_loopw [11, 56] (fun _ i wq => ∃ (k : Nat) (l : List C), k ≤ R' + 1 ∧ i = .int .i64 (k : Int) ∧
          stepsF (fun i left => (mulF q (f'.getD i zero)).bind fun p => (minusF (left.getD i zero) p).bind fun d => some (left.set i d)) (R' + 1 - k) k l = some left' ∧
          RowC wq w0.heap.size gl n cl l ∧ RowC wq w0.heap.size g n n out9 ∧ ReadsC wq (some fd) (R' + 1) f' ∧ wq.cell? ⟨bx, 0, none⟩ = some (.slice (some fd) (R' + 1) fc) ∧ Below w0.heap.size w0 wq) (fun _ i _ => R' + 1 - (intOf i).toNat)
        case atStart => exact ⟨0, left, by omega, rfl, htake, hL9, hR9, hRf9, hbox9, hb9⟩
        case round =>
          clear htake hL9 hR9 hRf9 hbox9 hb9
          obtain ⟨k, l, hk2, rfl, hta, hL, hR, hRf, hbox, hbq⟩ := hrel
          by_cases hlt2 : k < R' + 1
          · have e2 : (k : Int) < (R' : Int) + 1 := by omega
            obtain ⟨l', hst, hta⟩ := stepsF_at hta hlt2
            simp only [Option.bind_eq_some_iff] at hst
            obtain ⟨p1, hp1, s, hs, ho⟩ := hst
            cases ho
            obtain ⟨ad', e', hc⟩ := hRf.cells (by omega)
            cases e'
            have d2 := hc k hlt2
            clear hc
            obtain ⟨ad', e', hc⟩ := hL.reads.cells (by omega)
            cases e'
            have d3 := hc k (by omega)
            rw [Addr.add_lit, Nat.zero_add] at d3
            clear hc
            obtain ⟨ad', e', hc⟩ := hR.reads.cells (by omega)
            cases e'
            have d4 := hc R' (by omega)
            rw [Addr.add_lit, Nat.zero_add, hq0] at d4
            clear hc
            generalize f'.getD k zero = y1 at d2 hp1
            generalize l.getD k zero = x1 at d3 hs
            unfold cv at d2 d3 d4
            have hfz := hL.frozen k
            have hkn : (k : Int) < (n : Int) := by omega
            go_wp2_with fail
            go_region_with (first | (go_at_call 88; refine Calls.same (mul_any q y1 p1 _ hp1) ?_; unfold cv) | (go_at_call 85; refine Calls.same (minus_any x1 p1 s _ hs) ?_; unfold cv))
            all_goals
              have hL9 : RowC (wr.setCell ⟨gl, k, none⟩ (.complex .f32 s.1 s.2)).drew w0.heap.size gl n cl (l.set k s) := (hL.stored k s).drew
              have hR9 : RowC (wr.setCell ⟨gl, k, none⟩ (.complex .f32 s.1 s.2)).drew w0.heap.size g n n out9 := (hR.other (hL.grows k s) (Ne.symm hne)).drew
              have hb9 : Below w0.heap.size w0 (wr.setCell ⟨gl, k, none⟩ (.complex .f32 s.1 s.2)).drew := below_drew (hbq.setCell hL.base _)
              have hRf9 : ReadsC (wr.setCell ⟨gl, k, none⟩ (.complex .f32 s.1 s.2)).drew (some fd) (R' + 1) f' := (hRf.set _ _ _ hf2).drew
              have hbox9 : (wr.setCell ⟨gl, k, none⟩ (.complex .f32 s.1 s.2)).drew.cell? ⟨bx, 0, none⟩ = some (.slice (some fd) (R' + 1) fc) := by
                rw [World.cell?_drew, World.cell?_setCell_other _ _ _ _ (by intro e; injection e with e; exact hw2 e.symm)]
                exact hbox
              clear hR hL hRf hbox hbq d2 d3 d4 hfz
              go_wp2
              go_roundw
              case rel => exact ⟨k + 1, l.set k s, by omega, by go_num, hta, hL9, hR9, hRf9, hbox9, hb9⟩
              case measure => simp [intOf]; omega
          · have e2 : ¬ (k : Int) < (R' : Int) + 1 := by omega
            have e3 := stepsF_end hta (by omega)
            subst e3
            go_wp2
            go_roundw
            case rel => exact ⟨R', (R' : Int) - 1, _, out9, by omega, rfl, rfl, hrec, hL, hR, hbq⟩
            case measure => simp [intOf]
    · have e1 : ¬ (0 : Int) ≤ X := by omega
      obtain rfl : R = 0 := by omega
      have e2 := stepsF_zero hrec
      cases e2
      go_wp2_with fail
      refine Calls.below (checkedList_any r' (some ⟨g, 0, none⟩) n n _ hR.reads hr2) ?_
      intro w7 hb7
      have hb8 : Below w.heap.size w w7 := hb0.trans ((below_then hb hb7 hb.size).mono hs0)
      have hR7 := (hR.below hb7).lo hs0
      go_wp2
      go_ret2
      have hrl := hR.len
      exact ⟨some ⟨g, 0, none⟩, n, by rw [hrl]; rfl, by rw [hrl]; exact hR7.toOwn, hb8⟩
end Go.Proofs.Ytdpogmibahaklaa
