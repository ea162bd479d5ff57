/- What the statement draws from its bytes: small numbers in quarters. -/
import Derived.Test.YtdpogmibahaklaaW5
import Derived.Deep.RegionWith
set_option linter.unusedVariables false
set_option linter.unusedSimpArgs false
namespace Go.Proofs.Ytdpogmibahaklaa
open Go.RowKit

/-- Bytes that are read. -/
structure ReadsB (w : World) (A : Option Addr) (n : Nat) (zs : List Int) : Prop where
  len : n ≤ zs.length
  most : n ≤ 1048576
  cells : 0 < n → ∃ ad, A = some ad ∧ ∀ j, j < n → w.cell? (ad.add j) = some (.int .u8 (zs.getD j 0))
  range : ∀ j, 0 ≤ zs.getD j 0 ∧ zs.getD j 0 ≤ 255
theorem ReadsB.kept {w w' : World} {A : Option Addr} {n : Nat} {zs : List Int} (h : ReadsB w A n zs) (hk : 0 < n → ∀ (a : Addr) (v : Value), w.cell? a = some v → (∃ ad, A = some ad ∧ a.block = ad.block) → w'.cell? a = some v) : ReadsB w' A n zs :=
  ⟨h.len, h.most, fun hn => by
    obtain ⟨ad, e, hc⟩ := h.cells hn
    exact ⟨ad, e, fun j hj => hk hn _ _ (hc j hj) ⟨ad, e, by unfold Addr.add; split <;> rfl⟩⟩, h.range⟩
theorem ReadsB.below {w w' : World} {A : Option Addr} {n : Nat} {zs : List Int} (h : ReadsB w A n zs) (hb : Below w.heap.size w w') : ReadsB w' A n zs :=
  h.kept fun _ _ _ hc _ => cell_below hb hc

/-- The source of choices, in block b. -/
structure Src (w : World) (b : Nat) (A : Option Addr) (n c : Nat) (zs : List Int) (k : Nat) : Prop where
  bytes : ReadsB w A n zs
  away : 0 < n → ∀ ad, A = some ad → ad.block ≠ b
  code : w.cell? ⟨b, 0, none⟩ = some (.slice A n c)
  at_ : w.cell? ⟨b, 1, none⟩ = some (.int .i64 (k : Int))
  seed : ∃ s : Int, 0 ≤ s ∧ s ≤ 18446744073709551615 ∧ w.cell? ⟨b, 2, none⟩ = some (.int .u64 s)
  free : ∀ j, w.frozen? ⟨b, j, none⟩ = false

theorem and255 (X : Int) (h0 : 0 ≤ X) (h1 : X < 18446744073709551616) : 0 ≤ wrap64 (bits .and .u64 X 255) ∧ wrap64 (bits .and .u64 X 255) ≤ 255 := by
  obtain ⟨x, rfl⟩ := Int.eq_ofNat_of_zero_le h0
  have e := bits_and_u64_nat x 255 (by omega) (by decide)
  have e' : bits .and .u64 (x : Int) 255 = ((x &&& 255 : Nat) : Int) := e
  have h2 : x &&& 255 ≤ 255 := Nat.and_le_right
  rw [e']
  unfold wrap64
  omega

theorem src_after {b : Nat} {A : Option Addr} {n c : Nat} {zs : List Int} {k : Nat} {w : World} (h : Src w b A n c zs k) (t : Int) (t0 : 0 ≤ t) (t1 : t ≤ 18446744073709551615) (p q : Nat) :
    Src ((((w.drewN p).setCell ⟨b, 1, none⟩ (.int .i64 ((k : Int) + 1))).setCell ⟨b, 2, none⟩ (.int .u64 t)).drewN q) b A n c zs (k + 1) ∧
    w.grownBy ((((w.drewN p).setCell ⟨b, 1, none⟩ (.int .i64 ((k : Int) + 1))).setCell ⟨b, 2, none⟩ (.int .u64 t)).drewN q) (some b) := by
  have hg : w.grownBy ((((w.drewN p).setCell ⟨b, 1, none⟩ (.int .i64 ((k : Int) + 1))).setCell ⟨b, 2, none⟩ (.int .u64 t)).drewN q) (some b) := by
    refine ⟨rfl, rfl, rfl, by simp, fun i hi hne => ?_⟩
    have hib : i ≠ b := fun e => hne (by rw [e])
    show (((w.drewN p).setCell ⟨b, 1, none⟩ (.int .i64 ((k : Int) + 1))).setCell ⟨b, 2, none⟩ (.int .u64 t)).heap[i]? = w.heap[i]?
    rw [Below.heap_setCell _ _ _ _ hib, Below.heap_setCell _ _ _ _ hib]
    rfl
  have n01 : (⟨b, 1, none⟩ : Addr) ≠ ⟨b, 0, none⟩ := by simp
  have n02 : (⟨b, 2, none⟩ : Addr) ≠ ⟨b, 0, none⟩ := by simp
  have n21 : (⟨b, 2, none⟩ : Addr) ≠ ⟨b, 1, none⟩ := by simp
  have n12 : (⟨b, 1, none⟩ : Addr) ≠ ⟨b, 2, none⟩ := by simp
  obtain ⟨s, _, _, hs⟩ := h.seed
  refine ⟨⟨?_, h.away, ?_, ?_, ⟨t, t0, t1, ?_⟩, ?_⟩, hg⟩
  · refine h.bytes.kept fun hn a v hc hab => ?_
    refine hg.cell hc ?_
    intro e
    obtain ⟨ad, hA, hblk⟩ := hab
    injection e with e
    exact h.away hn ad hA (by rw [← hblk, e])
  · rw [World.cell?_drewN, World.cell?_setCell_other _ _ _ _ n02, World.cell?_setCell_other _ _ _ _ n01, World.cell?_drewN]
    exact h.code
  · rw [World.cell?_drewN, World.cell?_setCell_other _ _ _ _ n21]
    exact World.cell?_setCell_same _ _ _ (u := .int .i64 (k : Int)) (by rw [World.cell?_drewN]; exact h.at_)
  · rw [World.cell?_drewN]
    exact World.cell?_setCell_same _ _ _ (u := .int .u64 s) (by rw [World.cell?_setCell_other _ _ _ _ n12, World.cell?_drewN]; exact hs)
  · intro j
    have := h.free j
    simpa using this

theorem u64_range (x : Int) : 0 ≤ IntKind.u64.wrap x ∧ IntKind.u64.wrap x ≤ 18446744073709551615 := by
  have := IntKind.wrap_u64 x
  rw [this]
  omega

set_option maxRecDepth 100000 in
set_option maxHeartbeats 400000 in
theorem next_in (b : Nat) (A : Option Addr) (n c : Nat) (zs : List Int) (k : Nat) (w : World) (h : Src w b A n c zs k) (hk : k < 1000) (hlt : k < n) :
    Calls Try.prog 164 #[.pointer (some ⟨b, 0, none⟩)] w fun e w' => ∃ v : Int, e = .returned (.int .i64 v) ∧ 0 ≤ v ∧ v ≤ 255 ∧ Src w' b A n c zs (k + 1) ∧ w.grownBy w' (some b) := by
  have hS := src_after h
  obtain ⟨hB, haw, h0, h1, ⟨s, s0, s1, h2⟩, hf⟩ := h
  have hn := hB.most
  have e1 : (k : Int) < (n : Int) := by omega
  obtain ⟨ad, rfl, hc⟩ := hB.cells (by omega)
  have c0 := hc k hlt
  obtain ⟨r1, r2⟩ := hB.range k
  have HS := Lib.hid hS
  clear hc hS
  generalize zs.getD k 0 = z at c0 r1 r2
  have f1 := hf 1
  have f2 := hf 2
  go_enter Try.func164, Try.ntmps164
  go_wp2_with fail
  go_quiet (fail)
  go_wp2_with fail
  go_quiet (fail)
  go_wp2_with fail
  go_quiet (fail)
  go_wp2_with fail
  go_ret
  exact ⟨z, rfl, r1, r2, HS.out _ (u64_range _).1 (u64_range _).2 _ _⟩

set_option maxRecDepth 100000 in
set_option maxHeartbeats 400000 in
theorem next_out (b : Nat) (A : Option Addr) (n c : Nat) (zs : List Int) (k : Nat) (w : World) (h : Src w b A n c zs k) (hk : k < 1000) (hlt : n ≤ k) :
    Calls Try.prog 164 #[.pointer (some ⟨b, 0, none⟩)] w fun e w' => ∃ v : Int, e = .returned (.int .i64 v) ∧ 0 ≤ v ∧ v ≤ 255 ∧ Src w' b A n c zs (k + 1) ∧ w.grownBy w' (some b) := by
  have hS := src_after h
  obtain ⟨hB, haw, h0, h1, ⟨s, s0, s1, h2⟩, hf⟩ := h
  have hn := hB.most
  have e1 : ¬ (k : Int) < (n : Int) := by omega
  have e2 : ¬ (k : Int) + 1 ≤ (n : Int) := by omega
  have f1 := hf 1
  have f2 := hf 2
  have HS := Lib.hid hS
  clear hS
  go_enter Try.func164, Try.ntmps164
  go_wp2_with fail
  go_quiet (fail)
  go_wp2_with fail
  go_quiet (fail)
  go_wp2_with fail
  go_ret
  refine ⟨_, rfl, ?_, ?_, HS.out _ (u64_range _).1 (u64_range _).2 _ _⟩
  · refine (and255 _ ?_ ?_).1
    · have := u64_range (IntKind.u64.wrap (IntKind.u64.wrap (s * 6364136223846793005)) + 1442695040888963407); have := u64_range (IntKind.u64.wrap (IntKind.u64.wrap (IntKind.u64.wrap (s * 6364136223846793005)) + 1442695040888963407) / 1099511627776); omega
    · have := u64_range (IntKind.u64.wrap (IntKind.u64.wrap (s * 6364136223846793005)) + 1442695040888963407); omega
  · refine (and255 _ ?_ ?_).2
    · have := u64_range (IntKind.u64.wrap (IntKind.u64.wrap (s * 6364136223846793005)) + 1442695040888963407); omega
    · have := u64_range (IntKind.u64.wrap (IntKind.u64.wrap (s * 6364136223846793005)) + 1442695040888963407); omega

theorem next_any (b : Nat) (A : Option Addr) (n c : Nat) (zs : List Int) (k : Nat) (w : World) (h : Src w b A n c zs k) (hk : k < 1000) :
    Calls Try.prog 164 #[.pointer (some ⟨b, 0, none⟩)] w fun e w' => ∃ v : Int, e = .returned (.int .i64 v) ∧ 0 ≤ v ∧ v ≤ 255 ∧ Src w' b A n c zs (k + 1) ∧ w.grownBy w' (some b) := by
  rcases Nat.lt_or_ge k n with hl | hl
  · exact next_in b A n c zs k w h hk hl
  · exact next_out b A n c zs k w h hk hl
end Go.Proofs.Ytdpogmibahaklaa
