/- The program's polynomials of families, and values of polynomials, return what the plain functions of bits say. -/
import Derived.Test.YtdpogmibahaklaaM7
set_option linter.unusedVariables false
set_option linter.unusedSimpArgs false
namespace Go.Proofs.Ytdpogmibahaklaa
open Go.RowKit

set_option maxRecDepth 100000 in
set_option maxHeartbeats 400000 in
theorem complexes_any (xs : List Nat) (A : Option Addr) (n c : Nat) (w : World) (hA : ReadsF w A n xs) (hn : n ≤ 100) :
    Calls Try.prog 119 #[.slice A n c] w fun e w' => ∃ v, e = .returned v ∧ OwnC w' w.heap.size v (xs.map fun x => (x, 0)) ∧ Below w.heap.size w w' := by
  obtain ⟨i0, hi, hz0, hz1, hz2⟩ := info_parts Try.info26
  have hl := hA.len
  go_enter Try.func119, Try.ntmps119
  go_wp2_with fail
  have hO : OwnC (w.alloc (Obj.cells #[] 26)) w.heap.size (.slice (some ⟨w.heap.size, 0, none⟩) 0 0) [] := ⟨World.ownsRow_lit w #[] 0 (Nat.le_refl _) (by unfold maxLen; omega) rfl⟩
  have hb0 : Below w.heap.size w (w.alloc (Obj.cells #[] 26)) := (Below.refl _ _).alloc (Nat.le_refl _) _
  generalize w.alloc (Obj.cells #[] 26) = w0 at *
  have Hl := Lib.hid hl
  clear hl
  go_loopw [3, 5, 9] (fun v _ i wr => ∃ (j : Nat) (out : List C), j ≤ n ∧ out.length = j ∧ i = .int .i64 (j : Int) ∧ out ++ (xs.drop j).map (fun x => (x, 0)) = xs.map (fun x => (x, 0)) ∧ OwnC wr w.heap.size v out ∧ Below w.heap.size w wr) (fun _ _ i _ => n - (intOf i).toNat)
  case atStart => exact ⟨0, [], by omega, rfl, rfl, by simp, hO, hb0⟩
  case round =>
    clear hO hb0
    obtain ⟨j, out, hj, hlen, rfl, hrec, hO, hb⟩ := hrel
    by_cases hlt : j < n
    · have e1 : (j : Int) < (n : Int) := by omega
      obtain ⟨ad, rfl, hc⟩ := (hA.below hb).cells (by omega)
      have c0 := hc j hlt
      clear hc
      have hd : xs.drop j = xs.getD j 0 :: xs.drop (j + 1) := by
        have := Hl.out
        rw [List.drop_eq_getElem_cons (by omega), List.getD_eq_getElem?_getD, List.getElem?_eq_getElem (by omega)]
        rfl
      rw [hd, List.map_cons] at hrec
      generalize xs.getD j 0 = y at c0 hrec
      unfold fv at c0
      have Hrec := Lib.hid hrec
      have Hlen := Lib.hid hlen
      clear hlen hrec hd
      go_wp2_with (at_builtin; refine wpList_append_own _ rfl (.tmp 13) (.tmp 16) 24 rfl w.heap.size 26 i0 _ 1 8 Try.underlying24 hi hz0 hz1 hz2 rfl (by decide) _ out.length (out.map cv) rfl (hO.out.alloc _) ⟨wr.heap.size, 0, none⟩ 1 1 [cv (y, 0)] rfl rfl ?c1 ?c2 ?c3 ?c4 ?c5 ?_)
      case c1 => exact cell_one_new _ _ _
      case c2 => intro u hu; simp at hu; subst hu; rfl
      case c3 => have := Hlen.out; unfold maxLen; omega
      case c4 => have := Hlen.out; omega
      case c5 => have := hb.size; simp; omega
      intro v' w5 hown hgrow _
      have hO5 := OwnC.appended hown
      have hb5 := hO.grown hb (by have := hb.size; omega) _ hgrow
      have hl5 : (out ++ [(y, 0)]).length = j + 1 := by rw [List.length_append, Hlen.out]; rfl
      clear hown hgrow
      go_wp2
      go_roundw
      case rel => exact ⟨j + 1, out ++ [(y, 0)], by omega, hl5, by go_num, by rw [List.append_assoc]; exact Hrec.out, hO5, hb5⟩
      case measure => simp [intOf]; omega
    · have e1 : ¬ (j : Int) < (n : Int) := by omega
      have e2 : xs.drop j = [] := List.drop_eq_nil_of_le (by have := Hl.out; omega)
      rw [e2, List.map_nil, List.append_nil] at hrec
      rw [hrec] at hO
      clear hlen
      go_wp2
      go_ret
      exact ⟨_, rfl, hO, hb⟩

/-- How many terms are left when the last zeros are left out. -/
def trimN (l : List C) : Nat → Nat
  | 0 => 0
  | 1 => 1
  | n + 2 => if isZ (l.getD (n + 1) zero) then trimN l (n + 1) else n + 2
theorem trimN_le (l : List C) : ∀ n, trimN l n ≤ n
  | 0 => Nat.le_refl _
  | 1 => Nat.le_refl _
  | n + 2 => by
    unfold trimN
    split
    · exact Nat.le_trans (trimN_le l (n + 1)) (by omega)
    · exact Nat.le_refl _
theorem trimN_pos (l : List C) : ∀ n, 1 ≤ n → 1 ≤ trimN l n
  | 0, h => absurd h (by omega)
  | 1, _ => Nat.le_refl _
  | n + 2, _ => by
    unfold trimN
    split
    · exact trimN_pos l (n + 1) (by omega)
    · omega
theorem trimN_last (l : List C) : ∀ n, 1 ≤ n → trimN l n = 1 ∨ isZ (l.getD (trimN l n - 1) zero) = false
  | 0, h => absurd h (by omega)
  | 1, _ => .inl rfl
  | n + 2, _ => by
    unfold trimN
    split
    · exact trimN_last l (n + 1) (by omega)
    · rename_i h
      right
      rw [show n + 2 - 1 = n + 1 by omega]
      simpa using h

set_option maxRecDepth 100000 in
theorem trim_any (l : List C) (A : Option Addr) (n c : Nat) (w : World) (hA : ReadsC w A n l) (n1 : 1 ≤ n) (n2 : n ≤ 100) (hc : n ≤ c) :
    Calls Try.prog 155 #[.slice A n c] w fun e w' => e = .returned (.slice A (trimN l n) c) ∧ w' = w := by
  obtain ⟨ad, rfl, hcell⟩ := hA.cells (by omega)
  have Hc := Lib.hid hcell
  obtain ⟨t, ht⟩ : ∃ t, t = trimN l n := ⟨_, rfl⟩
  rw [← ht]
  have Ht := Lib.hid ht
  clear hcell ht
  go_enter Try.func155, Try.ntmps155
  go_wp2_with fail
  go_loop [3] (fun i => ∃ (k : Nat), 1 ≤ k ∧ k ≤ n ∧ i = .int .i64 (k : Int) ∧ trimN l k = t) (fun i => (intOf i).toNat)
  case atStart => exact ⟨n, n1, Nat.le_refl _, rfl, Ht.out.symm⟩
  case round =>
    obtain ⟨k, k1, k2, rfl, hk⟩ := hrel
    by_cases h1 : k = 1
    · subst h1
      have hk' : 1 = t := hk
      have HK := Lib.hid hk'
      clear hk hk'
      have h1c : 1 ≤ c := by omega
      go_wp2_with fail
      go_ret
      exact ⟨by rw [← HK.out]; rfl, rfl⟩
    · obtain ⟨m, rfl⟩ : ∃ m, k = m + 2 := ⟨k - 2, by omega⟩
      have c0 := Hc.out (m + 1) (by omega)
      have e1 : (1 : Int) < (m : Int) + 2 := by omega
      have e2 : (m : Int) + 1 < (n : Int) := by omega
      unfold trimN at hk
      generalize l.getD (m + 1) zero = y at c0 hk
      unfold cv at c0
      rw [Addr.add_succ'] at c0
      by_cases hz : isZ y = true
      · rw [if_pos hz] at hk
        have e0 : (FloatKind.f32.format.order y.1 0 == some Ordering.eq && FloatKind.f32.format.order y.2 0 == some Ordering.eq) = true := hz
        have HK := Lib.hid hk
        clear hk hz
        go_wp2_with fail
        go_round
        case rel => exact ⟨m + 1, by omega, by omega, by go_num, HK.out⟩
        case measure => simp [intOf]; omega
      · rw [if_neg hz] at hk
        have e0 : (FloatKind.f32.format.order y.1 0 == some Ordering.eq && FloatKind.f32.format.order y.2 0 == some Ordering.eq) = false := (by simpa using hz : isZ y = false)
        have HK := Lib.hid hk
        have h1c : m + 2 ≤ c := by omega
        clear hk hz
        go_wp2_with fail
        go_ret
        exact ⟨by rw [← HK.out]; rfl, rfl⟩

theorem clip_any (ad : Addr) (n c : Nat) (w : World) (hn : n ≤ 100) (hc : n ≤ c) :
    Calls Try.prog 154 #[.slice (some ad) n c] w fun e w' => e = .returned (.slice (some ad) n n) ∧ w' = w := by
  go_enter Try.func154, Try.ntmps154
  go_wp2_with fail
  go_ret
  exact ⟨rfl, rfl⟩

/-- The terms of a valid polynomial. -/
structure ValC (p : List C) : Prop where
  least : 1 ≤ p.length
  most : p.length ≤ 16
  fin : ∀ x ∈ p, FinC x
  last : p.length = 1 ∨ isZ (p.getD (p.length - 1) zero) = false

set_option maxRecDepth 100000 in
theorem validPoly_any (p : List C) (A : Option Addr) (n c : Nat) (w : World) (hA : ReadsC w A n p) (hp : ValC p) :
    Calls Try.prog 96 #[.agg #[.slice A n c]] w fun e w' => e = .returned (.bool true) ∧ Below w.heap.size w w' := by
  have hl := hA.len
  have hm1 := hp.least
  have hm2 := hp.most
  have hlast := hp.last
  rw [hl] at hm1 hm2 hlast
  obtain ⟨ad, rfl, hcell⟩ := hA.cells (by omega)
  have c0 := hcell (n - 1) (by omega)
  have e1 : (1 : Int) ≤ (n : Int) := by omega
  have e2 : (n : Int) ≤ 17 := by omega
  clear hcell
  go_enter Try.func96, Try.ntmps96
  go_wp2_with fail
  have hb0 := (Below.refl w.heap.size w).alloc (Nat.le_refl _) (Obj.cells #[.slice (some ad) n c] 29)
  refine Calls.below (allFinite_any p _ _ _ _ (hA.below hb0) hp.fin) ?_
  intro w1 hb1
  have hb := hb0.trans (hb1.mono (by simp))
  have c1 : w1.cell? (ad.add (n - 1)) = some (cv (p.getD (n - 1) zero)) := cell_below hb c0
  have hbox : w1.cell? ⟨w.heap.size, 0, none⟩ = some (.slice (some ad) n c) := (hb1.cell (by simp)).trans (World.cell?_alloc_at (w := w) _ _ _ _ rfl)
  clear c0 hb0 hb1
  generalize p.getD (n - 1) zero = y at c1 hlast
  unfold cv at c1
  by_cases h1 : n = 1
  · have e3 : (n : Int) = 1 := by omega
    clear hlast h1
    go_wp2_with fail
    go_ret
    exact ⟨rfl, hb⟩
  · have e3 : ¬ (n : Int) = 1 := by omega
    have hz : isZ y = false := by rcases hlast with h | h; exact absurd h h1; exact h
    have e0 : (FloatKind.f32.format.order y.1 0 == some Ordering.eq && FloatKind.f32.format.order y.2 0 == some Ordering.eq) = false := hz
    obtain ⟨m, rfl⟩ : ∃ m, n = m + 1 := ⟨n - 1, by omega⟩
    rw [show m + 1 - 1 = m by omega] at c1
    clear hlast h1 hz
    go_wp2_with fail
    go_ret
    exact ⟨rfl, hb⟩

theorem ReadsC.take {w : World} {A : Option Addr} {n t : Nat} {l : List C} (h : ReadsC w A n l) (ht : t ≤ n) : ReadsC w A t (l.take t) := by
  refine ⟨by rw [List.length_take, h.len]; omega, by have := h.most; omega, fun hp => ?_⟩
  obtain ⟨ad, e, hc⟩ := h.cells (by omega)
  refine ⟨ad, e, fun j hj => ?_⟩
  have := hc j (by omega)
  rw [show (l.take t).getD j zero = l.getD j zero by rw [List.getD_eq_getElem?_getD, List.getD_eq_getElem?_getD, List.getElem?_take_of_lt hj]]
  exact this

set_option maxRecDepth 100000 in
theorem polyOf_any (l : List C) (ad : Addr) (n c : Nat) (w : World) (hA : ReadsC w (some ad) n l) (n1 : 1 ≤ n) (n2 : n ≤ 100) (hc : n ≤ c) (hv : ValC (l.take (trimN l n))) :
    Calls Try.prog 91 #[.slice (some ad) n c] w fun e w' => e = .returned (.tuple #[.agg #[.slice (some ad) (trimN l n) (trimN l n)], .bool true]) ∧ Below w.heap.size w w' := by
  have ht := trimN_le l n
  have htr := fun w hA => trim_any l (some ad) n c w hA n1 n2 hc
  generalize trimN l n = t at ht hv htr ⊢
  have hb0 := (Below.refl w.heap.size w).alloc (Nat.le_refl _) (Obj.cells #[.slice none 0 0] 29)
  have hR := hA.take ht
  go_enter Try.func91, Try.ntmps91
  go_wp2_with fail
  refine Calls.same (htr _ (hA.below hb0)) ?_
  go_wp2_with fail
  refine Calls.same (clip_any ad t c _ (by omega) (by omega)) ?_
  go_wp2_with fail
  have hb1 := hb0.alloc (by simp) (Obj.cells #[.slice (some ad) t t] 29)
  refine Calls.below (validPoly_any (l.take t) (some ad) t t _ (hR.below hb1) hv) ?_
  intro w1 hb2
  have hb := hb1.trans (hb2.mono (by simp; omega))
  have x1 : w1.cell? ⟨w.heap.size, 0, none⟩ = some (.slice none 0 0) := (hb2.cell (by simp; omega)).trans (by simp)
  have x2 : w1.cell? ⟨w.heap.size + 1, 0, none⟩ = some (.slice (some ad) t t) := (hb2.cell (by simp)).trans (by simp)
  have f1 : w1.frozen? ⟨w.heap.size, 0, none⟩ = false := by
    rw [World.frozen?_of_block (w := (w.alloc (Obj.cells #[Value.slice none 0 0] 29)).alloc (Obj.cells #[Value.slice (some ad) t t] 29)) (hb2.block _ (by simp; omega))]
    simp
  go_wp2_with fail
  have hb3 : Below w.heap.size w (w1.setCell ⟨w.heap.size, 0, none⟩ (.slice (some ad) t t)) := hb.setCell (Nat.le_refl _) _
  refine bodyPost_ret (v := .tuple #[.agg #[.slice (some ad) t t], .bool true]) (by simp [results, Try.results91, go_sem, x1]) rfl ⟨rfl, hb3⟩

theorem ReadsC.set {w : World} {ad : Addr} {n : Nat} {l : List C} (h : ReadsC w (some ad) n l) (b i : Nat) (v : Value) (hne : ad.block ≠ b) : ReadsC (w.setCell ⟨b, i, none⟩ v) (some ad) n l := by
  refine ⟨h.len, h.most, fun hp => ?_⟩
  obtain ⟨ad', e, hc⟩ := h.cells hp
  cases e
  refine ⟨ad, rfl, fun j hj => ?_⟩
  rw [World.cell?_setCell_other]
  · exact hc j hj
  · intro e
    have : (ad.add j).block = b := by rw [← e]
    have h2 : (ad.add j).block = ad.block := by unfold Addr.add; split <;> rfl
    exact hne (by rw [← h2, this])

/-- What a function hands back that makes a polynomial. -/
def MadeP (w : World) (r : List C) (e : Ending) (w' : World) : Prop :=
  ∃ ad c, e = .returned (.tuple #[.agg #[.slice (some ad) r.length c], .bool true]) ∧ w.heap.size ≤ ad.block ∧ ReadsC w' (some ad) r.length r ∧ Below w.heap.size w w'

set_option maxRecDepth 100000 in
theorem familyPoly_any (kind n : Nat) (f : List C) (w : World) (hk : kind ≤ 4) (hn : n ≤ 15) (h : famPolyF kind n = some f) (hv : ValC f) (ht : trimN f f.length = f.length) :
    Calls Try.prog 42 #[.int .i64 (kind : Int), .int .i64 (n : Int)] w (MadeP w f) := by
  simp only [famPolyF, Option.map_eq_some_iff] at h
  obtain ⟨ls, hls, rfl⟩ := h
  have hll := termsF_len hls
  have hb0 := (Below.refl w.heap.size w).alloc (Nat.le_refl _) (Obj.cells #[.slice none 0 0] 29)
  go_enter Try.func42, Try.ntmps42
  go_wp2_with fail
  refine Calls.same (isKind_any kind n _ hk (by omega)) ?_
  go_wp2_with fail
  refine (familyTerms_any kind n ls _ hk (by omega) hls).mono ?_
  rintro e w1 ⟨v, vs, rfl, hL, hI, hb1⟩
  have hvl : vs.length = n + 1 := by rw [← hI.1, hll]
  obtain ⟨g, cap, rfl, hBg, hgl⟩ := hL.form (by omega)
  have hone := hI.2 n (by omega)
  have hcell : w1.cell? ⟨g, n, none⟩ = some (vs.getD n (.bool false)) := by
    have := hL.out.cells (g := g) rfl n (vs.getD n (.bool false)) (by rw [List.getD_eq_getElem?_getD, List.getElem?_eq_getElem (by omega)]; rfl)
    rw [Addr.add_lit, Nat.zero_add] at this
    exact this
  generalize hone' : ls.getD n [] = one at hone hv ht
  obtain ⟨Ao, co, hvo, hRo⟩ := hone.slice
  rw [hvo] at hcell
  have hvl' : (n : Int) < (vs.length : Int) := by omega
  have hb2 : Below w.heap.size w w1 := hb0.trans (hb1.mono (by simp))
  have hm : one.length ≤ 16 := by have := hv.most; simpa using this
  have hm1 : 1 ≤ one.length := by have := hv.least; simpa using this
  clear hI hL hone hvo hll hls
  go_wp2_with fail
  refine (complexes_any one Ao one.length co _ hRo (by omega)).mono ?_
  rintro e w2 ⟨v, rfl, hO, hb3⟩
  obtain ⟨g2, c2, rfl, hB2, hg2, hc2⟩ := hO.form (by simp; omega)
  obtain ⟨A', c', hv', hRc⟩ := hO.slice
  cases hv'
  have hb4 : Below w.heap.size w w2 := hb2.trans (hb3.mono hb2.size)
  have hgw : w.heap.size < g2 := by have := hb1.size; simp at this; omega
  generalize hfl : one.map (fun x => ((x, 0) : C)) = f at *
  go_wp2_with fail
  have htp := polyOf_any f ⟨g2, 0, none⟩ f.length c2 _ hRc hv.least (by have := hv.most; omega) hc2 (by rw [ht, List.take_length]; exact hv)
  rw [ht] at htp
  refine Calls.below htp ?_
  intro w3 hb5
  have hbx := below_seq (below_seq hb1 hb3) hb5
  have x1 : w3.cell? ⟨w.heap.size, 0, none⟩ = some (.slice none 0 0) := (hbx.cell (by simp)).trans (by simp)
  have f1 : w3.frozen? ⟨w.heap.size, 0, none⟩ = false := by
    rw [World.frozen?_of_block (w := w.alloc (Obj.cells #[Value.slice none 0 0] 29)) (hbx.block _ (by simp))]
    simp
  have hb6 : Below w.heap.size w w3 := hb4.trans (hb5.mono hb4.size)
  have hR3 := hRc.below hb5
  clear htp hbx hb5 hb4 hb3 hb2 hb1 hb0
  go_wp2_with fail
  have hb7 : Below w.heap.size w (w3.setCell ⟨w.heap.size, 0, none⟩ (.slice (some ⟨g2, 0, none⟩) f.length f.length)) := hb6.setCell (Nat.le_refl _) _
  refine bodyPost_ret (v := .tuple #[.agg #[.slice (some ⟨g2, 0, none⟩) f.length f.length], .bool true]) (by simp [results, Try.results42, go_sem, x1]) rfl ?_
  have hM : MadeP w f (.returned (.tuple #[.agg #[.slice (some ⟨g2, 0, none⟩) f.length f.length], .bool true])) (w3.setCell ⟨w.heap.size, 0, none⟩ (.slice (some ⟨g2, 0, none⟩) f.length f.length)) :=
    ⟨⟨g2, 0, none⟩, f.length, rfl, Nat.le_of_lt hgw, hR3.set _ _ _ (by show g2 ≠ w.heap.size; omega), hb7⟩
  rw [← hfl, ← hone'] at hM
  rw [← hfl, ← hone']
  exact hM

end Go.Proofs.Ytdpogmibahaklaa
