/- The program's ValuesShared, and how the statements read their bytes. -/
import Derived.Test.YtdpogmibahaklaaM9
set_option linter.unusedVariables false
set_option linter.unusedSimpArgs false
namespace Go.Proofs.Ytdpogmibahaklaa
open Go.RowKit

/-- A value of a family. -/
structure ValOk (kind n x y : Nat) : Prop where
  fx : finB x = some true
  fy : finB y = some true
  row : ∃ r, rowF kind n x = some r ∧ r.getD n 0 = y

set_option maxRecDepth 100000 in
set_option maxHeartbeats 400000 in
theorem valuesShared_any (kind n : Nat) (ps rs : List Nat) (A : Option Addr) (m c : Nat) (k : Int) (w : World) (hk : kind ≤ 4) (hn : n ≤ 16) (hA : ReadsF w A m ps) (m1 : 1 ≤ m) (m2 : m ≤ 16) (k1 : 1 ≤ k) (k2 : k ≤ 8)
    (hr : rs.length = m) (hv : ∀ j, j < m → ValOk kind n (ps.getD j 0) (rs.getD j 0)) :
    Calls Try.prog 53 #[.int .i64 (kind : Int), .int .i64 (n : Int), .slice A m c, .int .i64 k] w (MadeF2 w rs) := by
  obtain ⟨i0, hi, hz0, hz1, hz2⟩ := info_parts Try.info36
  have a1 : ¬ (m : Int) < 1 := by omega
  have a2 : ¬ (256 : Int) < m := by omega
  have Hv := Lib.hid hv
  have Hr := Lib.hid hr
  clear hv hr
  go_enter Try.func53, Try.ntmps53
  go_wp2_with fail
  refine Calls.same (isKind_any kind n _ hk hn) ?_
  go_wp2_with fail
  refine Calls.same (areWorkers_any k _ k1 k2) ?_
  go_wp2_with fail
  have hO : OwnF (w.alloc (Obj.cells #[] 36)) w.heap.size (.slice (some ⟨w.heap.size, 0, none⟩) 0 0) [] := ⟨World.ownsRow_lit w _ 0 (Nat.le_refl _) (by unfold maxLen; omega) rfl⟩
  have hb0 : Below w.heap.size w (w.alloc (Obj.cells #[] 36)) := (Below.refl _ _).alloc (Nat.le_refl _) _
  generalize w.alloc (Obj.cells #[] 36) = w0 at *
  go_loopw [10, 12, 13, 14, 37] (fun v _ _ _ i wr => ∃ (j : Nat) (out : List Nat), j ≤ m ∧ out.length = j ∧ i = .int .i64 (j : Int) ∧ out ++ rs.drop j = rs ∧ OwnF wr w.heap.size v out ∧ Below w.heap.size w wr) (fun _ _ _ _ i _ => m - (intOf i).toNat)
  case atStart => exact ⟨0, [], by omega, rfl, rfl, by simp, hO, hb0⟩
  case round =>
    clear hO hb0
    obtain ⟨j, out, hj, hlen, rfl, hrec, hO, hb⟩ := hrel
    by_cases hlt : j < m
    · have e1 : (j : Int) < (m : Int) := by omega
      obtain ⟨ad, rfl, hc⟩ := (hA.below hb).cells (by omega)
      have c0 := hc j hlt
      clear hc
      obtain ⟨q1, q2, row, q3, q4⟩ := Hv.out j hlt
      have hd : rs.drop j = rs.getD j 0 :: rs.drop (j + 1) := by
        have := Hr.out
        rw [List.drop_eq_getElem_cons (by omega), List.getD_eq_getElem?_getD, List.getElem?_eq_getElem (by omega)]
        rfl
      rw [hd] at hrec
      generalize rs.getD j 0 = y at q2 q4 hrec
      generalize ps.getD j 0 = x at c0 q1 q3
      unfold fv at c0
      have Hrec := Lib.hid hrec
      have Hlen := Lib.hid hlen
      clear hlen hrec hd
      go_wp2_with fail
      refine Calls.below (familyAt_any kind n x y row _ hk hn q1 q3 q4 q2) ?_
      intro w4 hb4
      have hO4 := hO.below hb4
      have hb5 := below_then hb hb4 hb.size
      go_wp2_with (at_builtin; refine wpList_append_own _ rfl (.tmp 50) (.tmp 52) 51 rfl w.heap.size 36 i0 _ 1 4 Try.underlying51 hi hz0 hz1 hz2 rfl (by decide) _ out.length (out.map fv) rfl (hO4.out.alloc _) ⟨w4.heap.size, 0, none⟩ 1 1 [fv y] rfl rfl ?c1 ?c2 ?c3 ?c4 ?c5 ?_)
      case c1 => first | exact cell_one_new _ _ _ | exact fun j u h => h
      case c2 => first | exact rfl | (intro u hu; simp at hu; subst hu; rfl)
      case c3 => have := Hlen.out; unfold maxLen; omega
      case c4 => have := Hlen.out; omega
      case c5 => have := hb5.size; first | omega | (simp; omega)
      intro v' w5 hown hgrow _
      have hO5 := OwnF.appended hown
      have hb6 := hO4.grown hb5 (by have := hb5.size; omega) _ hgrow
      have hl5 : (out ++ [y]).length = j + 1 := by rw [List.length_append, Hlen.out]; rfl
      clear hown hgrow
      go_wp2
      go_roundw
      case rel => exact ⟨j + 1, out ++ [y], by omega, hl5, by go_num, by rw [List.append_assoc]; exact Hrec.out, hO5, hb6⟩
      case measure => simp [intOf]; omega
    · have e1 : ¬ (j : Int) < (m : Int) := by omega
      have e2 : rs.drop j = [] := List.drop_eq_nil_of_le (by have := Hr.out; omega)
      rw [e2, List.append_nil] at hrec
      subst hrec
      obtain ⟨A', c', hv, hR⟩ := hO.slice
      subst hv
      clear hlen
      go_wp2
      go_ret2
      exact ⟨A', c', rfl, hO, hb⟩

theorem r8Long_any (A B : Option Addr) (n c m d : Nat) (w : World) (hn : n ≤ 48) (hm : m ≤ 48) :
    Calls Try.prog 38 #[.slice A n c, .slice B m d] w fun e w' => e = .returned (.bool false) ∧ w' = w := by
  have e1 : ¬ (48 : Int) < (n : Int) := by omega
  have e2 : ¬ (48 : Int) < (m : Int) := by omega
  go_enter Try.func38, Try.ntmps38
  go_wp2
  go_ret
  exact ⟨by simp, rfl⟩
theorem r8Long_yes (A B : Option Addr) (n c m d : Nat) (w : World) (h : 48 < n ∨ 48 < m) :
    Calls Try.prog 38 #[.slice A n c, .slice B m d] w fun e w' => e = .returned (.bool true) ∧ w' = w := by
  by_cases h1 : 48 < n
  · have e1 : (48 : Int) < (n : Int) := by omega
    go_enter Try.func38, Try.ntmps38
    go_wp2
    go_ret
    exact ⟨rfl, rfl⟩
  · have e1 : ¬ (48 : Int) < (n : Int) := by omega
    have e2 : (48 : Int) < (m : Int) := by omega
    go_enter Try.func38, Try.ntmps38
    go_wp2
    go_ret
    exact ⟨by simp, rfl⟩
theorem r8At_any (A : Option Addr) (n c : Nat) (zs : List Int) (i : Nat) (I m : Int) (w : World) (h : ReadsB w A n zs) (hI : I = (i : Int)) (hi : i ≤ 1000) (m1 : 1 ≤ m) (m2 : m ≤ 200) :
    Calls Try.prog 39 #[.slice A n c, .int .i64 I, .int .i64 m] w (Chosen w m) := by
  subst hI
  have hn := h.most
  have e3 : ¬ m = 0 := by omega
  by_cases hm : m ≤ 1
  · go_enter Try.func39, Try.ntmps39
    go_wp2
    go_ret
    exact ⟨0, rfl, by omega, by omega, rfl⟩
  · by_cases hlt : i < n
    · obtain ⟨ad, rfl, hc⟩ := h.cells (by omega)
      have c0 := hc i hlt
      obtain ⟨r1, r2⟩ := h.range i
      clear hc
      generalize zs.getD i 0 = z at c0 r1 r2
      have e2 : ¬ (n : Int) ≤ (i : Int) := by omega
      have e4 : (i : Int) < (n : Int) := by omega
      go_enter Try.func39, Try.ntmps39
      go_wp2
      go_ret
      exact ⟨z % m, rfl, Int.emod_nonneg _ e3, Int.emod_lt_of_pos _ (by omega), rfl⟩
    · have e2 : (n : Int) ≤ (i : Int) := by omega
      go_enter Try.func39, Try.ntmps39
      go_wp2
      go_ret
      exact ⟨0, rfl, by omega, by omega, rfl⟩
end Go.Proofs.Ytdpogmibahaklaa
