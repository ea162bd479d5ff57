/- What B10Terms draws: small numbers in quarters; what a byte chooses. -/
import Derived.Test.YtdpogmibahaklaaW11
set_option linter.unusedVariables false
set_option linter.unusedSimpArgs false
namespace Go.Proofs.Ytdpogmibahaklaa
open Go.RowKit

/-- What a draw leaves: a choice below m. -/
def Picked (w : World) (b : Nat) (A : Option Addr) (n c : Nat) (zs : List Int) (k : Nat) (m : Int) (e : Ending) (w' : World) : Prop :=
  ∃ v : Int, e = .returned (.int .i64 v) ∧ 0 ≤ v ∧ v < m ∧ Src w' b A n c zs (k + 1) ∧ w.grownBy w' (some b)

set_option maxRecDepth 100000 in
theorem pick_any (b : Nat) (A : Option Addr) (n c : Nat) (zs : List Int) (k : Nat) (m : Int) (w : World) (h : Src w b A n c zs k) (hk : k < 1000) (m1 : 1 < m) (m2 : m ≤ 200) :
    Calls Try.prog 98 #[.pointer (some ⟨b, 0, none⟩), .int .i64 m] w (Picked w b A n c zs k m) := by
  have e1 : ¬ m ≤ 1 := by omega
  have e2 : ¬ (200 : Int) < m := by omega
  have e3 : ¬ m = 0 := by omega
  go_enter Try.func98, Try.ntmps98
  go_wp2_with fail
  refine (next_any b A n c zs k _ h hk).mono ?_
  rintro e w1 ⟨v, rfl, v0, v1, hS, hg⟩
  go_wp2
  go_ret
  exact ⟨v % m, rfl, Int.emod_nonneg _ e3, Int.emod_lt_of_pos _ (by omega), hS, hg⟩

/-- The quarters from -1 to 1. -/
def qbits : List Nat := [3212836864, 3208642560, 3204448256, 3196059648, 0, 1048576000, 1056964608, 1061158912, 1065353216]
theorem quarter_ok (v : Int) (h0 : 0 ≤ v) (h1 : v < 9) : ∃ q, floatBits .quo .f32 (floatOfInt .f32 (v - 4)) 1082130432 = some q ∧ q ∈ qbits := by
  have hv : v = 0 ∨ v = 1 ∨ v = 2 ∨ v = 3 ∨ v = 4 ∨ v = 5 ∨ v = 6 ∨ v = 7 ∨ v = 8 := by omega
  rcases hv with rfl | rfl | rfl | rfl | rfl | rfl | rfl | rfl | rfl
  · exact ⟨3212836864, by decide +kernel, by decide⟩
  · exact ⟨3208642560, by decide +kernel, by decide⟩
  · exact ⟨3204448256, by decide +kernel, by decide⟩
  · exact ⟨3196059648, by decide +kernel, by decide⟩
  · exact ⟨0, by decide +kernel, by decide⟩
  · exact ⟨1048576000, by decide +kernel, by decide⟩
  · exact ⟨1056964608, by decide +kernel, by decide⟩
  · exact ⟨1061158912, by decide +kernel, by decide⟩
  · exact ⟨1065353216, by decide +kernel, by decide⟩

/-- Both parts are quarters. -/
def QtrC (x : C) : Prop := x.1 ∈ qbits ∧ x.2 ∈ qbits

theorem Src.grown {w w' : World} {b : Nat} {A : Option Addr} {n c : Nat} {zs : List Int} {k : Nat} (h : Src w b A n c zs k) {row : Option Nat} (hg : w.grownBy w' row) (hb : row ≠ some b) (hA : 0 < n → ∀ ad, A = some ad → row ≠ some ad.block) : Src w' b A n c zs k := by
  obtain ⟨s, s0, s1, hs⟩ := h.seed
  have hlt : b < w.heap.size := World.block_lt_of_cell? w ⟨b, 0, none⟩ h.code
  refine ⟨h.bytes.kept fun hn a v hc hab => ?_, h.away, hg.cell h.code (fun e => hb e.symm), hg.cell h.at_ (fun e => hb e.symm), ⟨s, s0, s1, hg.cell hs (fun e => hb e.symm)⟩, fun j => ?_⟩
  · obtain ⟨ad, e, hblk⟩ := hab
    exact hg.cell hc (fun e' => hA hn ad e (by rw [← hblk]; exact e'.symm))
  · have := World.frozen?_of_block (w := w) (w' := w') (a := ⟨b, j, none⟩) (hg.block b hlt (fun e => hb e.symm))
    rw [this]
    exact h.free j

theorem grown_below {w w1 w2 : World} {B b : Nat} (h : Below B w w1) (hg : w1.grownBy w2 (some b)) (hB : B ≤ w1.heap.size) (hb : B ≤ b) : Below B w w2 := h.grown hg hB (fun k hk => by cases hk; exact hb)

/-- What a draw of a list leaves. -/
def DrewC (b m : Nat) (w : World) (e : Ending) (w' : World) : Prop :=
  ∃ (v : Value) (r : List C), e = .returned v ∧ r.length = m ∧ (∀ x ∈ r, QtrC x) ∧ OwnC w' w.heap.size v r ∧ Below b w w'

set_option maxRecDepth 100000 in
set_option maxHeartbeats 1000000 in
theorem drawSome_any (b : Nat) (A : Option Addr) (n c : Nat) (zs : List Int) (m : Nat) (w : World) (h : Src w b A n c zs 0) (hm : m ≤ 16) (hAb : 0 < n → ∀ ad, A = some ad → ad.block < b) :
    Calls Try.prog 74 #[.pointer (some ⟨b, 0, none⟩), .int .i64 (m : Int)] w (DrewC b m w) := by
  obtain ⟨i0, hi, hz0, hz1, hz2⟩ := info_parts Try.info26
  have hblt : b < w.heap.size := World.block_lt_of_cell? w ⟨b, 0, none⟩ h.code
  go_enter Try.func74, Try.ntmps74
  go_wp2_with fail
  have hO : OwnC (w.alloc (Obj.cells #[] 26)) w.heap.size (.slice (some ⟨w.heap.size, 0, none⟩) 0 0) [] := ⟨World.ownsRow_lit w #[] 0 (Nat.le_refl _) (by unfold maxLen; omega) rfl⟩
  have hb0 : Below b w (w.alloc (Obj.cells #[] 26)) := (Below.refl _ _).alloc (Nat.le_of_lt hblt) _
  have hS0 : Src (w.alloc (Obj.cells #[] 26)) b A n c zs 0 := h.grown (World.grownBy_alloc w _ none) (by simp) (by simp)
  generalize w.alloc (Obj.cells #[] 26) = w0 at *
  go_loopw [1, 5, 6] (fun i v _ wr => ∃ (j : Nat) (x : Int) (out : List C), j ≤ m ∧ out.length = j ∧ i = .int .i64 x ∧ x = (m : Int) - (j : Int) ∧ (∀ x ∈ out, QtrC x) ∧ OwnC wr w.heap.size v out ∧ Below b w wr ∧ Src wr b A n c zs (2 * j)) (fun i _ _ _ => (intOf i).toNat)
  case atStart => exact ⟨0, (m : Int), [], by omega, rfl, rfl, by omega, by simp, hO, hb0, hS0⟩
  case round =>
    clear hO hb0 hS0
    obtain ⟨j, x, out, hj, hlen, rfl, hx, hq, hO, hb, hS⟩ := hrel
    by_cases hlt : j < m
    · have e1 : (0 : Int) < x := by omega
      have Hx := Lib.hid hx
      have Hlen := Lib.hid hlen
      have hx1 : x ≤ 16 := by omega
      clear hx hlen
      go_wp2_with fail
      refine (pick_any b A n c zs (2 * j) 9 _ hS (by omega) (by omega) (by omega)).mono ?_
      rintro e w1 ⟨v1, rfl, p0, p1, hS1, hg1⟩
      obtain ⟨q1, hq1, hm1⟩ := quarter_ok v1 p0 p1
      have r1 := fun t (w : World) => run_float_arith (P := Try.prog) w .quo t .f32 _ _ _ hq1
      have hO1 : OwnC w1 w.heap.size _ out := ⟨hO.out.kept hg1 (by
        rcases hO.out.2 with ⟨hv, _⟩ | ⟨g, cap, cur, hv, hB, _⟩
        · left; rw [hv]; rfl
        · right; rw [hv]; intro e; simp [Value.ownBlock] at e; omega)⟩
      have hb1 := grown_below hb hg1 (by have := hb.size; omega) (Nat.le_refl _)
      clear hS hg1 hO hb hq1
      go_wp2_with (simp only [r1])
      refine (pick_any b A n c zs (2 * j + 1) 9 _ hS1 (by omega) (by omega) (by omega)).mono ?_
      rintro e w2 ⟨v2, rfl, p2, p3, hS2, hg2⟩
      obtain ⟨q2, hq2, hm2⟩ := quarter_ok v2 p2 p3
      have r2 := fun t (w : World) => run_float_arith (P := Try.prog) w .quo t .f32 _ _ _ hq2
      have hO2 : OwnC w2 w.heap.size _ out := ⟨hO1.out.kept hg2 (by
        rcases hO1.out.2 with ⟨hv, _⟩ | ⟨g, cap, cur, hv, hB, _⟩
        · left; rw [hv]; rfl
        · right; rw [hv]; intro e; simp [Value.ownBlock] at e; omega)⟩
      have hb2 := grown_below hb1 hg2 (by have := hb1.size; omega) (Nat.le_refl _)
      clear hS1 hg2 hO1 hb1 hq2
      go_wp2_with (first | (at_builtin; refine wpList_append_own _ rfl (.tmp 17) (.tmp 25) 24 rfl w.heap.size 26 i0 _ 1 8 Try.underlying24 hi hz0 hz1 hz2 rfl (by decide) _ out.length (out.map cv) rfl (hO2.out.alloc _) ⟨w2.heap.size, 0, none⟩ 1 1 [cv (q1, q2)] rfl rfl ?c1 ?c2 ?c3 ?c4 ?c5 ?_) | simp only [r2])
      case c1 => exact cell_one_new _ _ _
      case c2 => intro u hu; simp at hu; subst hu; rfl
      case c3 => have := Hlen.out; unfold maxLen; omega
      case c4 => have := Hlen.out; omega
      case c5 => have := hb2.size; simp; omega
      intro v' w5 hown hgrow _
      have hO5 := OwnC.appended hown
      have hb5 : Below b w w5 := (hb2.alloc (by have := hb2.size; omega) _).grown hgrow (by have := hb2.size; simp; omega) (fun k hk => by have := (hO2.out.lt k hk).1; omega)
      have hS5 : Src w5 b A n c zs (2 * j + 1 + 1) := by
        have hS3 : Src (w2.alloc (Obj.cells #[Value.complex .f32 q1 q2] 26)) b A n c zs (2 * j + 1 + 1) := hS2.grown (World.grownBy_alloc w2 _ none) (by simp) (by simp)
        refine hS3.grown hgrow ?_ ?_
        · intro e; have := (hO2.out.lt b e).1; omega
        · intro hn ad hA e; have := (hO2.out.lt _ e).1; have := hAb hn ad hA; omega
      have hl5 : (out ++ [(q1, q2)]).length = j + 1 := by rw [List.length_append, Hlen.out]; rfl
      have hq5 : ∀ x ∈ out ++ [(q1, q2)], QtrC x := by
        intro y hy
        rcases List.mem_append.1 hy with h1 | h1
        · exact hq y h1
        · simp at h1; subst h1; exact ⟨hm1, hm2⟩
      clear hown hgrow hS2 hO2 r1 r2
      go_wp2
      go_roundw
      case rel => exact ⟨j + 1, x - 1, out ++ [(q1, q2)], by omega, hl5, rfl, by have := Hx.out; omega, hq5, hO5, hb5, by rw [show 2 * (j + 1) = 2 * j + 1 + 1 by omega]; exact hS5⟩
      case measure => simp [intOf]; omega
    · have e1 : ¬ (0 : Int) < x := by omega
      obtain rfl : j = m := by omega
      have Hlen := Lib.hid hlen
      clear hlen hx
      go_wp2
      go_ret
      exact ⟨_, out, rfl, Hlen.out, hq, hO, hb⟩

theorem from_any (A : Option Addr) (n c : Nat) (w : World) :
    Calls Try.prog 73 #[.slice A n c] w fun e w' => e = .returned (.pointer (some ⟨w.heap.size, 0, none⟩)) ∧ w' = w.alloc (.cells #[.slice A n c, .int .i64 0, .int .u64 0] 127) := by
  go_enter Try.func73, Try.ntmps73
  go_wp2
  go_ret
  exact ⟨rfl, rfl⟩

theorem src_new {A : Option Addr} {n c : Nat} {zs : List Int} {w : World} (h : ReadsB w A n zs) (hAb : 0 < n → ∀ ad, A = some ad → ad.block < w.heap.size) :
    Src (w.alloc (.cells #[.slice A n c, .int .i64 0, .int .u64 0] 127)) w.heap.size A n c zs 0 := by
  refine ⟨h.below ((Below.refl _ _).alloc (Nat.le_refl _) _), fun hn ad hA => by have := hAb hn ad hA; omega, ?_, ?_, ⟨0, by omega, by omega, ?_⟩, fun j => ?_⟩
  · exact World.cell?_alloc_at (w := w) _ _ _ _ rfl
  · exact World.cell?_alloc_at (w := w) _ _ _ _ rfl
  · exact World.cell?_alloc_at (w := w) _ _ _ _ rfl
  · simp

set_option maxRecDepth 100000 in
theorem b10Terms_any (A : Option Addr) (n c : Nat) (zs : List Int) (m : Nat) (w : World) (h : ReadsB w A n zs) (hm : m ≤ 16) (hAb : 0 < n → ∀ ad, A = some ad → ad.block < w.heap.size) :
    Calls Try.prog 9 #[.slice A n c, .int .i64 (m : Int)] w (DrewC w.heap.size m w) := by
  have hs := src_new (c := c) h hAb
  go_enter Try.func9, Try.ntmps9
  go_wp2_with fail
  refine (from_any A n c _).mono ?_
  rintro e w1 ⟨rfl, rfl⟩
  go_wp2_with fail
  refine (drawSome_any w.heap.size A n c zs m _ hs hm hAb).mono ?_
  rintro e w2 ⟨v, r, rfl, hl, hq, hO, hb⟩
  go_wp2
  go_ret
  exact ⟨v, r, rfl, hl, hq, hO.mono (by simp), ((Below.refl _ _).alloc (Nat.le_refl _) _).trans hb⟩

theorem b10Long_any (A B : Option Addr) (n c m d : Nat) (w : World) (hn : n ≤ 1048576) (hm : m ≤ 1048576) :
    Calls Try.prog 8 #[.slice A n c, .slice B m d] w fun e w' => e = .returned (.bool false) ∧ w' = w := by
  have e1 : ¬ (1048576 : Int) < (n : Int) := by omega
  have e2 : ¬ (1048576 : Int) < (m : Int) := by omega
  go_enter Try.func8, Try.ntmps8
  go_wp2
  go_ret
  exact ⟨by simp, rfl⟩

theorem b10Long_yes (A B : Option Addr) (n c m d : Nat) (w : World) (h : 1048576 < n ∨ 1048576 < m) :
    Calls Try.prog 8 #[.slice A n c, .slice B m d] w fun e w' => e = .returned (.bool true) ∧ w' = w := by
  by_cases h1 : 1048576 < n
  · have e1 : (1048576 : Int) < (n : Int) := by omega
    go_enter Try.func8, Try.ntmps8
    go_wp2
    go_ret
    exact ⟨rfl, rfl⟩
  · have e1 : ¬ (1048576 : Int) < (n : Int) := by omega
    have e2 : (1048576 : Int) < (m : Int) := by omega
    go_enter Try.func8, Try.ntmps8
    go_wp2
    go_ret
    exact ⟨by simp, rfl⟩

/-- What a byte chooses. -/
def Chosen (w : World) (m : Int) (e : Ending) (w' : World) : Prop := ∃ v : Int, e = .returned (.int .i64 v) ∧ 0 ≤ v ∧ v < m ∧ w' = w

theorem b10At_any (A : Option Addr) (n c : Nat) (zs : List Int) (i : Nat) (I m : Int) (w : World) (h : ReadsB w A n zs) (hI : I = (i : Int)) (hi : i ≤ 1000) (m1 : 1 < m) (m2 : m ≤ 200) :
    Calls Try.prog 10 #[.slice A n c, .int .i64 I, .int .i64 m] w (Chosen w m) := by
  subst hI
  have e1 : ¬ m ≤ 1 := by omega
  have e3 : ¬ m = 0 := by omega
  have hn := h.most
  by_cases hlt : i < n
  · obtain ⟨ad, rfl, hc⟩ := h.cells (by omega)
    have c0 := hc i hlt
    obtain ⟨r1, r2⟩ := h.range i
    clear hc
    generalize zs.getD i 0 = z at c0 r1 r2
    have e2 : (i : Int) < (n : Int) := by omega
    go_enter Try.func10, Try.ntmps10
    go_wp2
    go_ret
    exact ⟨z % m, rfl, Int.emod_nonneg _ e3, Int.emod_lt_of_pos _ (by omega), rfl⟩
  · have e2 : ¬ (i : Int) < (n : Int) := by omega
    go_enter Try.func10, Try.ntmps10
    go_wp2
    go_ret
    exact ⟨((i : Int) * 37 + 11) % m, rfl, Int.emod_nonneg _ e3, Int.emod_lt_of_pos _ (by omega), rfl⟩
end Go.Proofs.Ytdpogmibahaklaa
