/- The program's PolyOfFamily returns what the plain function of bits says. -/
import Derived.Test.YtdpogmibahaklaaM9
set_option linter.unusedVariables false
set_option linter.unusedSimpArgs false
namespace Go.Proofs.Ytdpogmibahaklaa
open Go.RowKit

/-- A polynomial of a family is lawful. -/
structure FamOk (kind k : Nat) (f : List C) : Prop where
  eq : famPolyF kind k = some f
  ok : ValC f
  trim : trimN f f.length = f.length
  len : f.length = k + 1

theorem ReadsC.drew {w : World} {A : Option Addr} {n : Nat} {l : List C} (h : ReadsC w A n l) : ReadsC w.drew A n l := h.drawn (Drawn.one w)

set_option maxRecDepth 100000 in
set_option maxHeartbeats 1000000 in
theorem polyFam_any (kind : Nat) (ws : List C) (A : Option Addr) (n c : Nat) (r : List C) (w : World) (hk : kind ≤ 4) (hA : ReadsC w A n ws) (hw : SerC ws) (hf : ∀ k, k < n → ∃ f, FamOk kind k f)
    (h : polyFamF kind ws = some r) (hv : ValC (r.take (trimN r n))) :
    Calls Try.prog 48 #[.int .i64 (kind : Int), .slice A n c] w (MadeP w (r.take (trimN r n))) := by
  have hl := hA.len
  have hm1 := hw.least
  have hm2 := hw.most
  have n1 : 1 ≤ n := by omega
  have n2 : n ≤ 16 := by omega
  have a1 : ¬ (n : Int) < 1 := by omega
  have a2 : ¬ (17 : Int) < n := by omega
  obtain ⟨i0, hi, hz0, hz1, hz2⟩ := info_parts Try.info26
  unfold polyFamF at h
  rw [hl] at h
  have hb0 := (Below.refl w.heap.size w).alloc (Nat.le_refl _) (Obj.cells #[.slice none 0 0] 29)
  have hs0 : (w.alloc (Obj.cells #[.slice none 0 0] 29)).heap.size = w.heap.size + 1 := by simp
  have hx0 : (w.alloc (Obj.cells #[.slice none 0 0] 29)).cell? ⟨w.heap.size, 0, none⟩ = some (.slice none 0 0) := by simp
  have hf0 : (w.alloc (Obj.cells #[.slice none 0 0] 29)).frozen? ⟨w.heap.size, 0, none⟩ = false := by simp
  have hA0 := hA.below hb0
  have Hs0 := Lib.hid hs0
  have Hf := Lib.hid hf
  have hwf := hw.fin
  have Hv := Lib.hid hv
  clear hl hm1 hm2 hf hw hv hs0
  go_enter Try.func48, Try.ntmps48
  go_wp2_with fail
  generalize w.alloc (Obj.cells #[.slice none 0 0] 29) = w0 at *
  refine Calls.same (within_any _ _ _ _ (by omega) (by omega)) ?_
  go_wp2_with fail
  refine Calls.below (allFinite_any ws A n c _ hA0 hwf) ?_
  intro w1 hb1
  have hbb := hb1.size
  obtain ⟨ad, rfl, _⟩ := hA.cells (by omega)
  go_wp2_with (at_make; refine wpList_make_full _ rfl (.tmp 33) (.tmp 33) 24 rfl w0.heap.size 26 i0 _ 1 Try.underlying24 hi hz0 hz1 .i64 .i64 _ _ n rfl rfl rfl rfl ?m1 ?m2 ?m3 ?_)
  case m1 => rw [hz2]; omega
  case m2 => unfold maxLen; omega
  case m3 => exact hbb
  intro w2 hown hgrow
  have hR := rowC_of_made hown hbb
  have hb2 : Below w0.heap.size w0 w2 := hb1.grown hgrow hbb (by intro k hk; cases hk)
  clear hown hgrow hb1
  generalize w1.heap.size = g at *
  go_wp2_with fail
  go_loopw [7, 8, 9, 10, 11, 12, 37] (fun _ _ _ _ _ _ i wr => ∃ (j : Nat) (out : List C), j ≤ n ∧ i = .int .i64 (j : Int) ∧ stepsF (fun k out => (famPolyF kind k).bind fun f => addAllF (ws.getD k zero) f out) (n - j) j out = some r ∧ RowC wr w0.heap.size g n n out ∧ Below w0.heap.size w0 wr) (fun _ _ _ _ _ _ i _ => n - (intOf i).toNat)
  case atStart => exact ⟨0, _, by omega, rfl, h, hR, hb2⟩
  case round =>
    clear hR hb2 h
    obtain ⟨j, out, hj, rfl, hrec, hR, hb⟩ := hrel
    by_cases hlt : j < n
    · have e1 : (j : Int) < (n : Int) := by omega
      obtain ⟨s', hst, hrec⟩ := stepsF_at hrec hlt
      simp only [Option.bind_eq_some_iff] at hst
      obtain ⟨f, hfe, hadd⟩ := hst
      obtain ⟨f', hok⟩ := Hf.out j hlt
      have hff : f' = f := by have := hok.eq; rw [hfe] at this; exact (Option.some.inj this).symm
      subst hff
      have hAr := hA0.below hb
      obtain ⟨ad', e', hc⟩ := hAr.cells (by omega)
      cases e'
      have c1 := hc j hlt
      clear hc
      generalize ws.getD j zero = x at c1 hadd
      unfold cv at c1
      have hfl := hok.len
      go_wp2_with fail
      refine (familyPoly_any kind j f' _ hk (by omega) hok.eq hok.ok hok.trim).mono ?_
      rintro e w3 ⟨fd, fc, rfl, hfd, hRf, hb3⟩
      have hgl := hR.lt
      have hR3 := hR.below hb3
      have hb4 := below_then hb hb3 hb.size
      have hal : Below w3.heap.size w3 (w3.alloc (Obj.cells #[.slice (some fd) f'.length fc] 29)) := (Below.refl _ _).alloc (Nat.le_refl _) _
      have hR4 := hR3.below hal
      have hRf4 := hRf.below hal
      have hb5 := below_then hb4 hal hb4.size
      have hfg : fd.block ≠ g := by omega
      clear hR hR3 hRf hb3 hb4 hal
      unfold addAllF at hadd
      rw [hfl] at hadd hRf4 hb5 hR4 ⊢
      go_wp2_with fail
      generalize w3.alloc (Obj.cells #[.slice (some fd) (j + 1) fc] 29) = w4 at *
      go_loopw [11, 12, 54] (fun _ _ i wq => ∃ (k : Nat) (o : List C), k ≤ j + 1 ∧ i = .int .i64 (k : Int) ∧
        stepsF (fun i out => (mulF x (f'.getD i zero)).bind fun p => (plusF (out.getD i zero) p).bind fun s => some (out.set i s)) (j + 1 - k) k o = some s' ∧ RowC wq w0.heap.size g n n o ∧ ReadsC wq (some fd) (j + 1) f' ∧ Below w0.heap.size w0 wq) (fun _ _ i _ => j + 1 - (intOf i).toNat)
      case atStart => exact ⟨0, out, by omega, rfl, hadd, hR4, hRf4, hb5⟩
      case round =>
        clear hadd hR4 hRf4 hb5
        obtain ⟨k, o, hk2, rfl, hadd, hR, hRf, hbq⟩ := hrel
        by_cases hlt2 : k < j + 1
        · have e2 : (k : Int) < (j : Int) + 1 := by omega
          obtain ⟨o', hst, hadd⟩ := stepsF_at hadd hlt2
          simp only [Option.bind_eq_some_iff] at hst
          obtain ⟨p, hp, s, hs, ho⟩ := hst
          cases ho
          obtain ⟨ad', e', hc⟩ := hRf.cells (by omega)
          cases e'
          have c2 := hc k hlt2
          clear hc
          obtain ⟨ad', e', hc⟩ := hR.reads.cells (by omega)
          cases e'
          have c3 := hc k (by omega)
          rw [Addr.add_lit, Nat.zero_add] at c3
          clear hc
          generalize f'.getD k zero = y at c2 hp
          generalize o.getD k zero = x0 at c3 hs
          unfold cv at c2 c3
          have hfz := hR.frozen k
          have hkn : (k : Int) < (n : Int) := by omega
          go_wp2_with fail
          go_region_with (first | (go_at_call 88; refine Calls.same (mul_any x y p _ hp) ?_; unfold cv) | (go_at_call 103; refine Calls.same (plus_any x0 p s _ hs) ?_; unfold cv))
          all_goals
            have hR9 : RowC (wr.setCell ⟨g, k, none⟩ (.complex .f32 s.1 s.2)).drew w0.heap.size g n n (o.set k s) := (hR.stored k s).drew
            have hb9 : Below w0.heap.size w0 (wr.setCell ⟨g, k, none⟩ (.complex .f32 s.1 s.2)).drew := below_drew (hbq.setCell hR.base _)
            have hRf9 : ReadsC (wr.setCell ⟨g, k, none⟩ (.complex .f32 s.1 s.2)).drew (some fd) (j + 1) f' := (hRf.set _ _ _ hfg).drew
            clear hR hRf hbq c2 c3 hfz
            go_wp2
            go_roundw
            case rel => exact ⟨k + 1, o.set k s, by omega, by go_num, hadd, hR9, hRf9, hb9⟩
            case measure => simp [intOf]; omega
        · have e2 : ¬ (k : Int) < (j : Int) + 1 := by omega
          have e3 := stepsF_end hadd (by omega)
          subst e3
          go_wp2
          go_roundw
          case rel => exact ⟨j + 1, o, by omega, by go_num, hrec, hR, hbq⟩
          case measure => simp [intOf]; omega
    · have e1 : ¬ (j : Int) < (n : Int) := by omega
      have e2 := stepsF_end hrec (by omega)
      subst e2
      have htp := polyOf_any out ⟨g, 0, none⟩ n n _ hR.reads n1 (by omega) (Nat.le_refl _) Hv.out
      have hRt := hR.reads.take (trimN_le out n)
      have hlt' : (out.take (trimN out n)).length = trimN out n := by have := hR.len; have := trimN_le out n; rw [List.length_take]; omega
      have hg1 : w.heap.size < g := by have := hR.base; have := Hs0.out; omega
      go_wp2_with fail
      refine Calls.below htp ?_
      intro w5 hb5
      have hbx := below_then hb hb5 hb.size
      have x1 : w5.cell? ⟨w.heap.size, 0, none⟩ = some (.slice none 0 0) := (hbx.cell (by have := Hs0.out; show w.heap.size < w0.heap.size; omega)).trans hx0
      have f1 : w5.frozen? ⟨w.heap.size, 0, none⟩ = false := by
        rw [World.frozen?_of_block (w := w0) (hbx.block _ (by have := Hs0.out; show w.heap.size < w0.heap.size; omega))]
        exact hf0
      have hb6 : Below w.heap.size w w5 := hb0.trans (hbx.mono (by have := Hs0.out; omega))
      have hR5 := hRt.below hb5
      clear htp hbx hb5 hb hR
      generalize ht : trimN out n = t at *
      have Ht := Lib.hid ht
      clear ht
      go_wp2_with fail
      have hb7 : Below w.heap.size w (w5.setCell ⟨w.heap.size, 0, none⟩ (.slice (some ⟨g, 0, none⟩) t t)) := hb6.setCell (Nat.le_refl _) _
      refine bodyPost_ret (v := .tuple #[.agg #[.slice (some ⟨g, 0, none⟩) t t], .bool true]) (by simp [results, Try.results48, go_sem, x1]) rfl ?_
      have hM : MadeP w (out.take t) (.returned (.tuple #[.agg #[.slice (some ⟨g, 0, none⟩) t t], .bool true])) (w5.setCell ⟨w.heap.size, 0, none⟩ (.slice (some ⟨g, 0, none⟩) t t)) :=
        ⟨⟨g, 0, none⟩, t, by rw [hlt'], Nat.le_of_lt hg1, by rw [hlt']; exact hR5.set _ _ _ (by show g ≠ w.heap.size; omega), hb7⟩
      rw [← Ht.out] at hM ⊢
      exact hM
end Go.Proofs.Ytdpogmibahaklaa
