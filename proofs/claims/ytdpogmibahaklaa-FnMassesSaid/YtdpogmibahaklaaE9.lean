/- The program's fit returns what the plain function of bits says. -/
import Derived.Test.YtdpogmibahaklaaE6
import Derived.Deep.QuietTactic
import Derived.BigQuiet
import Derived.Deep.Cut
import Derived.Outline
set_option linter.unusedVariables false
set_option linter.unusedSimpArgs false
namespace Go.Proofs.Ytdpogmibahaklaa
open Go.RowKit

theorem RowsG.below {w0 w w' : World} {go n cap m : Nat} {gs : List Nat} {rs : List (List Nat)} (h : RowsG w0 w go n cap m gs rs) (hb : Below w.heap.size w w') : RowsG w0 w' go n cap m gs rs :=
  ⟨h.own.kept (row := none) ⟨hb.os, hb.tape, hb.output, hb.size, fun i hi _ => hb.block i hi⟩ (by simp [Value.ownBlock]), h.len, h.mat.below hb, h.bel.trans (hb.mono h.bel.size), h.out⟩
/-- The terms of a fit. -/
def fitTerms (l : List Nat) : List C := (l.map fun x => ((x, 0) : C)).take (trimN (l.map fun x => ((x, 0) : C)) l.length)
theorem backSteps_len {rs : List (List Nat)} {n : Nat} : ∀ (m j : Nat) (o r : List Nat), stepsF (backOneF rs n) m j o = some r → r.length = o.length := by
  intro m j o r h
  refine stepsF_inv (fun s => s.length = o.length) ?_ _ _ _ _ rfl h
  intro i s s' hs h1
  simp only [backOneF, Option.bind_eq_some_iff] at h1
  obtain ⟨_, _, _, _, h2⟩ := h1
  cases h2
  rw [List.length_set]; exact hs

set_option maxRecDepth 1000000 in
set_option maxHeartbeats 4000000 in
theorem fitEnd {wA w : World} {d go cap : Nat} {gs l : List Nat} {rs : List (List Nat)} (hd : d ≤ 4) (h : stepsF (backOneF rs (d + 1)) (d + 1) 0 (List.replicate (d + 1) 0) = some l)
    (h0 : RowsG (wA.alloc (Obj.cells #[.slice none 0 0] 29)) w go (d + 1) cap (d + 2) gs rs) (hv : ValC (fitTerms l))
    {x0 x1 x2 x3 x4 x5 x6 x7 x9 x10 x13 x14 x15 x16 x17 x18 x19 x20 x21 x22 x23 x24 x25 x26 x27 x28 x29 x30 x31 x32 x33 x34 x35 x36 x37 x38 x39 x40 x41 x42 x43 x44 x45 x46 x47 x48 x49 x50 x51 x52 x53 x54 x55 x56 x57 x58 x59 x60 x61 x62 x63 x64 x65 x66 x67 x68 x69 x70 x71 x72 x73 x74 x75 x76 x77 x78 x79 x80 x81 x82 x83 x84 x85 x86 x87 x88 x89 x90 x91 x92 x93 x94 x95 x96 x97 x98 x99 x100 x101 x102 x103 x104 x105 x106 x107 x108 x109 x110 x111 x112 x113 x114 x115 x116 x117 x118 x119 x120 x121 x122 x123 x124 x125 x126 x127 x128 x129 x130 x131 x132 x133 x134 x135 x136 x137 x138 x139 x140 x141 x142 x143 x144 x145 x146 x147 x148 x149 x150 x151 x152 x153 x154 x155 x156 x157 x158 x159 x160 x161 x162 x163 x164 x165 x166 x167 x168 x169 x170 x171 x172 x173 x174 x175 x176 x177 x178 x179 x180 x181 x182 x183 x184 x185 x186 x187 x188 x189 x190 x191 x192 x193 x194 x195 x196 x197 x198 x199 x200 x201 x202 x203 x204 x205 x206 x207 x208 x209 x210 x211 x212 x213 x214 x215 x216 x217 x218 x219 x220 x221 x222 x223 x224 x225 x226 x227 x228 x229 x230 x231 x232 x233 x234 x235 x236 x237 x238 x239 x240 x241 x242 x243 x244 x245 x246 x247 x248 x249 x250 x251 x252 x253 x254 x255 x256 x257 x258 x259 x260 x261 x262 x263 x264 x265 x266 x267 x268 x269 x270 x271 x272 x273 x274 x275 x276 x277 x278 x279 x280 x281 x282 x283 x284 x285 x286 x287 x288 x289 x290 x291 x292 x293 x294 x295 x296 x297 x298 : Value} {K : Act → World → Prop}
    (hK : ∀ a w, Code.wp Try.prog (restM 9) (bodyPost Try.prog Try.f59 (MadeP wA (fitTerms l))) a w → K a w) :
    Code.wp Try.prog (headC (restM 8)) (Exit.then K (bodyPost Try.prog Try.f59 (MadeP wA (fitTerms l)))) ⟨#[x0, x1, x2, x3, x4, x5, x6, x7, .pointer (some ⟨wA.heap.size, 0, none⟩), x9, x10, .int .i64 ((d : Int) + 1), .slice (some ⟨go, 0, none⟩) (d + 1) cap, x13, x14, x15, x16, x17, x18, x19, x20, x21, x22, x23, x24, x25, x26, x27, x28, x29, x30, x31, x32, x33, x34, x35, x36, x37, x38, x39, x40, x41, x42, x43, x44, x45, x46, x47, x48, x49, x50, x51, x52, x53, x54, x55, x56, x57, x58, x59, x60, x61, x62, x63, x64, x65, x66, x67, x68, x69, x70, x71, x72, x73, x74, x75, x76, x77, x78, x79, x80, x81, x82, x83, x84, x85, x86, x87, x88, x89, x90, x91, x92, x93, x94, x95, x96, x97, x98, x99, x100, x101, x102, x103, x104, x105, x106, x107, x108, x109, x110, x111, x112, x113, x114, x115, x116, x117, x118, x119, x120, x121, x122, x123, x124, x125, x126, x127, x128, x129, x130, x131, x132, x133, x134, x135, x136, x137, x138, x139, x140, x141, x142, x143, x144, x145, x146, x147, x148, x149, x150, x151, x152, x153, x154, x155, x156, x157, x158, x159, x160, x161, x162, x163, x164, x165, x166, x167, x168, x169, x170, x171, x172, x173, x174, x175, x176, x177, x178, x179, x180, x181, x182, x183, x184, x185, x186, x187, x188, x189, x190, x191, x192, x193, x194, x195, x196, x197, x198, x199, x200, x201, x202, x203, x204, x205, x206, x207, x208, x209, x210, x211, x212, x213, x214, x215, x216, x217, x218, x219, x220, x221, x222, x223, x224, x225, x226, x227, x228, x229, x230, x231, x232, x233, x234, x235, x236, x237, x238, x239, x240, x241, x242, x243, x244, x245, x246, x247, x248, x249, x250, x251, x252, x253, x254, x255, x256, x257, x258, x259, x260, x261, x262, x263, x264, x265, x266, x267, x268, x269, x270, x271, x272, x273, x274, x275, x276, x277, x278, x279, x280, x281, x282, x283, x284, x285, x286, x287, x288, x289, x290, x291, x292, x293, x294, x295, x296, x297, x298], []⟩ w := by
  obtain ⟨cc, hc⟩ : ∃ c, c = restM 9 := ⟨_, rfl⟩
  rw [← hc] at hK
  conv at hc => rhs; whnf
  subst hc
  conv => arg 2; whnf
  obtain ⟨i0, hi, hz0, hz1, hz2⟩ := info_parts Try.info36
  have hsA : (wA.alloc (Obj.cells #[.slice none 0 0] 29)).heap.size = wA.heap.size + 1 := by simp
  have k1 : w.cell? ⟨wA.heap.size, 0, none⟩ = some (.slice none 0 0) := (h0.bel.cell (by rw [hsA]; exact Nat.lt_succ_self _)).trans (by simp)
  have g1 : w.frozen? ⟨wA.heap.size, 0, none⟩ = false := by
    rw [World.frozen?_of_block (w := wA.alloc (Obj.cells #[.slice none 0 0] 29)) (h0.bel.block _ (by rw [hsA]; exact Nat.lt_succ_self _))]
    simp
  have hll := backSteps_len _ _ _ _ h
  rw [List.length_replicate] at hll
  have hbA : Below wA.heap.size wA w := ((Below.refl wA.heap.size wA).alloc (Nat.le_refl _) _).trans (h0.bel.mono (by rw [hsA]; exact Nat.le_succ _))
  have hbs := h0.bel.size
  rw [hsA] at hbs
  generalize wA.alloc (Obj.cells #[.slice none 0 0] 29) = w0 at *
  have Hll := Lib.hid hll
  have HsA := Lib.hid hsA
  clear hll hsA
  go_wp2_with (at_make; refine wpList_make_full _ rfl (.tmp 246) (.tmp 246) 51 rfl w.heap.size 36 i0 _ 1 Try.underlying51 hi hz0 hz1 .i64 .i64 _ _ (d + 1) rfl rfl ?q1 ?q2 ?m1 ?m2 ?m3 ?_)
  case q1 => omega
  case q2 => omega
  case m1 => rw [hz2]; omega
  case m2 => unfold maxLen; omega
  case m3 => exact Nat.le_refl _
  intro w3 hown hgrow
  have hN := rowF_of_made hown (Nat.le_refl _)
  have hb3 : Below w.heap.size w w3 := (Below.refl _ _).grown hgrow (Nat.le_refl _) (by intro k hk; cases hk)
  clear hown hgrow
  go_wp2_with fail
  go_loopw [27, 28, 29] (fun i _ _ wr => ∃ (R : Nat) (X : Int) (out : List Nat), R ≤ d + 1 ∧ i = .int .i64 X ∧ X = (R : Int) - 1 ∧ stepsF (backOneF rs (d + 1)) R (d + 1 - R) out = some l ∧
    RowF wr w.heap.size w.heap.size (d + 1) out ∧ Below w.heap.size w wr) (fun i _ _ _ => (intOf i + 1).toNat)
  case atStart => exact ⟨d + 1, _, _, by omega, rfl, by omega, by rw [Nat.sub_self]; exact h, hN, hb3⟩
  case round =>
    clear h hN hb3
    obtain ⟨R, X, out, hR1, rfl, hX, hrec, hN, hb⟩ := hrel
    have hRw := h0.below hb
    by_cases hlt : 0 < R
    · obtain ⟨i, rfl⟩ : ∃ i, R = i + 1 := ⟨R - 1, by omega⟩
      obtain rfl : X = (i : Int) := by omega
      clear hX
      obtain ⟨out', hst, hrec⟩ := stepsF_succ hrec
      rw [show d + 1 - (i + 1) + 1 = d + 1 - i by omega] at hrec
      simp only [backOneF, Option.bind_eq_some_iff] at hst
      obtain ⟨left, hleft, q, hq, hout⟩ := hst
      rw [show d + 1 - 1 - (d + 1 - (i + 1)) = i by omega] at hleft hq hout
      rw [show d + 1 - (d + 1 - (i + 1)) = i + 1 by omega] at hleft
      cases hout
      have e1 : (0 : Int) ≤ (i : Int) := by omega
      have e2 : (i : Int) < (d : Int) + 1 := by omega
      have e3 : (i : Int) < ((d + 1 : Nat) : Int) := by omega
      have e4 : (d : Int) + 1 < ((d + 2 : Nat) : Int) := by omega
      have e5 : ((d : Int) + 1).toNat = d + 1 := by omega
      have c1 := hRw.outer (show i < d + 1 by omega)
      have c2 := hRw.cell (show i < d + 1 by omega) (show d + 1 < d + 2 by omega)
      generalize hx0 : cellF rs i (d + 1) = x0 at *
      generalize hgi : gs.getD i 0 = gi at *
      have Hgi := Lib.hid hgi
      have Hrec := Lib.hid hrec
      have Hq := Lib.hid hq
      clear hgi hx0 hrec hq
      obtain ⟨wr9, hwr9⟩ : ∃ x, x = wr := ⟨_, rfl⟩
      go_wp2_with fail
      clear c1 c2
      go_loopw [28, 29] (fun v k wq => ∃ (p a : Nat), i + 1 ≤ p ∧ p ≤ d + 1 ∧ k = .int .i64 (p : Int) ∧ v = .float .f32 a ∧
        stepsF (fun k left => (o32 .mul (cellF rs i k) (out.getD k 0)).bind fun t => o32 .sub left t) (d + 1 - p) p a = some left ∧ Drawn wr9 wq) (fun _ k _ => d + 1 - (intOf k).toNat)
      case atStart => exact ⟨i + 1, x0, by omega, by omega, by go_num, rfl, by rw [show d + 1 - (i + 1) = d + 1 - (i + 1) from rfl]; exact hleft, by rw [hwr9]; exact Drawn.refl _⟩
      case round =>
        clear hleft
        obtain ⟨p, a, hp1, hp2, rfl, rfl, hpv, hD⟩ := hrel
        rw [hwr9] at hD
        have hN1 := hN.below (hD.below _)
        have hR1 := hRw.drawn hD
        by_cases hpt : p < d + 1
        · have e6 : (p : Int) < (d : Int) + 1 := by omega
          have e7 : (p : Int) < ((d + 1 : Nat) : Int) := by omega
          have e8 : (p : Int) < ((d + 2 : Nat) : Int) := by omega
          obtain ⟨a', hst, hpv⟩ := stepsF_at hpv hpt
          simp only [Option.bind_eq_some_iff] at hst
          obtain ⟨t, ht, ha'⟩ := hst
          have c1 := hR1.outer (show i < d + 1 by omega)
          have c2 := hR1.cell (show i < d + 1 by omega) (show p < d + 2 by omega)
          have c3 := hN1.cell hpt
          rw [Hgi.out] at c1 c2
          generalize cellF rs i p = x1 at *
          generalize out.getD p 0 = x2 at *
          have f1 := @run_o32 _ _ _ _ ht
          have f2 := @run_o32 _ _ _ _ ha'
          clear ht ha'
          go_wp2_with fail
          go_quiet (simp only [f1, f2])
          go_wp2
          go_roundw
          case rel => exact ⟨p + 1, a', by omega, by omega, by go_num, rfl, hpv, by rw [hwr9]; exact hD.step nq⟩
          case measure => simp [intOf]; omega
        · have e6 : ¬ (p : Int) < (d : Int) + 1 := by omega
          have e7 := stepsF_end hpv (by omega)
          subst e7
          have e8 : (i : Int) < ((d + 2 : Nat) : Int) := by omega
          have c1 := hR1.outer (show i < d + 1 by omega)
          have c2 := hR1.cell (show i < d + 1 by omega) (show i < d + 2 by omega)
          have c3 := hN1.cell (show i < d + 1 by omega)
          have c4 := hN1.frozen i
          have hq := Hq.out
          rw [Hgi.out] at c1 c2
          generalize cellF rs i i = x1 at *
          have f1 := @run_o32 _ _ _ _ hq
          have hN2 := hN1.stored i q
          have hb2 : Below w.heap.size w (wr.setCell ⟨w.heap.size, i, none⟩ (.float .f32 q)) := (hb.trans (by rw [hwr9] at *; exact hD.below _)).setCell (Nat.le_refl _) _
          clear hq hN1 hR1
          go_wp2_with (simp only [f1])
          go_roundw
          case rel => exact ⟨i, (i : Int) - 1, out.set i q, by omega, by go_num, rfl, Hrec.out, hN2, hb2⟩
          case measure => simp [intOf]
    · have e1 : ¬ (0 : Int) ≤ X := by omega
      obtain rfl : R = 0 := by omega
      have e2 := stepsF_zero hrec
      subst e2
      have hll := Hll.out
      have hbs' := hb.size
      have k2 := cell_below hb k1
      have g2 : wr.frozen? ⟨wA.heap.size, 0, none⟩ = false := (World.frozen?_of_block (hb.block _ (by show wA.heap.size < _; omega))).trans g1
      have hb4 := hbA.trans (hb.mono (by omega))
      go_wp2_with fail
      refine (complexes_any out (some ⟨w.heap.size, 0, none⟩) (d + 1) (d + 1) _ hN.reads (by omega)).mono ?_
      rintro e w5 ⟨v, rfl, hO, hb5⟩
      obtain ⟨g5, c5, rfl, hB5, hg5, hc5⟩ := hO.form (by rw [List.length_map]; omega)
      obtain ⟨A', c', hv', hRc⟩ := hO.slice
      cases hv'
      have k5 := cell_below hb5 k2
      have g5' : w5.frozen? ⟨wA.heap.size, 0, none⟩ = false := (World.frozen?_of_block (hb5.block _ (by show wA.heap.size < _; omega))).trans g2
      have hb6 := hb4.trans (hb5.mono hb4.size)
      rw [List.length_map, hll] at hc5 hRc ⊢
      unfold fitTerms at *
      generalize hfl : out.map (fun x => ((x, 0) : C)) = f at *
      have hE : List.take (trimN f out.length) f = f.take (trimN f (d + 1)) := by rw [hll]
      rw [hE] at hv
      have HE := Lib.hid hE
      clear hE hfl
      go_wp2_with fail
      refine Calls.below (polyOf_any f ⟨g5, 0, none⟩ (d + 1) c5 _ hRc (by omega) (by omega) hc5 hv) ?_
      intro w6 hb7
      have k6 := cell_below hb7 k5
      have g6 : w6.frozen? ⟨wA.heap.size, 0, none⟩ = false := (World.frozen?_of_block (hb7.block _ (by show wA.heap.size < _; omega))).trans g5'
      have hb8 := hb6.trans (hb7.mono hb6.size)
      have hR6 := (hRc.below hb7).take (trimN_le f (d + 1))
      have hlt6 : (f.take (trimN f (d + 1))).length = trimN f (d + 1) := hR6.len
      go_wp2_with fail
      have hb9 : Below wA.heap.size wA (w6.setCell ⟨wA.heap.size, 0, none⟩ (.slice (some ⟨g5, 0, none⟩) (trimN f (d + 1)) (trimN f (d + 1)))) := hb8.setCell (Nat.le_refl _) _
      refine bodyPost_ret (v := .tuple #[.agg #[.slice (some ⟨g5, 0, none⟩) (trimN f (d + 1)) (trimN f (d + 1))], .bool true]) (by simp [results, Try.results59, go_sem, k6]) rfl ?_
      refine ⟨⟨g5, 0, none⟩, trimN f (d + 1), by rw [HE.out, hlt6], by show wA.heap.size ≤ g5; omega, ?_, hb9⟩
      rw [HE.out, hlt6]
      exact hR6.set _ _ _ (by show g5 ≠ wA.heap.size; omega)
end Go.Proofs.Ytdpogmibahaklaa

namespace Go.Proofs.Ytdpogmibahaklaa
open Go.RowKit

set_option maxRecDepth 1000000 in
set_option maxHeartbeats 1000000 in
theorem fit59_any (xs ys ws : List Nat) (A B D : Option Addr) (m ca cb cd d : Nat) (l : List Nat) (w : World) (hA : ReadsF w A m xs) (hB : ReadsF w B m ys) (hD : ReadsF w D m ws) (m1 : 1 ≤ m) (m2 : m ≤ 16) (hd : d ≤ 4)
    (fx : ∀ y ∈ xs, finB y = some true) (fy : ∀ y ∈ ys, finB y = some true) (fw : ∀ y ∈ ws, finB y = some true) (pw : ∀ x ∈ ws, (FloatKind.f32.format.order x 0 == some Ordering.lt) = false)
    (h : fitPolyF xs ys ws (d + 1) = some l) (hv : ValC (fitTerms l)) :
    Calls Try.prog 59 #[.slice A m ca, .slice B m cb, .slice D m cd, .int .i64 (d : Int)] w (MadeP w (fitTerms l)) := by
  simp only [fitPolyF, Option.bind_eq_some_iff] at h
  obtain ⟨rows, hrows, rE, hrE, hl⟩ := h
  have a1 : ¬ (m : Int) < 1 := by omega
  have a2 : ¬ (17 : Int) < m := by omega
  have a3 : ¬ (16 : Int) < m := by omega
  have hb0 := (Below.refl w.heap.size w).alloc (Nat.le_refl _) (Obj.cells #[.slice none 0 0] 29)
  go_enter Try.func59, Try.ntmps59
  go_wp2_with fail
  refine Calls.same (areFinite_any xs _ _ _ _ (hA.below hb0) fx) ?_
  go_wp2_with fail
  refine Calls.same (areFinite_any ys _ _ _ _ (hB.below hb0) fy) ?_
  go_wp2_with fail
  refine Calls.same (areFinite_any ws _ _ _ _ (hD.below hb0) fw) ?_
  go_wp2_with fail
  refine Calls.same (within_any _ _ _ _ (by omega) (by omega)) ?_
  go_wp2_with fail
  refine Calls.same (containsN_any ws _ _ _ _ (hD.below hb0) pw) ?_
  go_upto_region 8 with (fail)
  have hO : RowsW (w.alloc (Obj.cells #[.slice none 0 0] 29)) ((w.alloc (Obj.cells #[.slice none 0 0] 29)).alloc (Obj.cells #[] 51)) (.slice (some ⟨w.heap.size + 1, 0, none⟩) 0 0) (d + 2) [] [] := by
    refine ⟨?_, Mat.nil _ _ _, (Below.refl _ _).alloc (Nat.le_refl _) _⟩
    have := World.ownsRow_lit (base := (w.alloc (Obj.cells #[.slice none 0 0] 29)).heap.size) (w.alloc (Obj.cells #[.slice none 0 0] 29)) (e := 51) (size := 1) #[] 0 (Nat.le_refl _) (by unfold maxLen; omega) rfl
    rw [World.size_alloc] at this ⊢
    exact this
  refine fitLoopA (hA.below hb0) (hB.below hb0) (hD.below hb0) m2 hd hrows hO (by assumption) ?_
  intros
  rename_i v' gs w' hRW hgl
  obtain ⟨go, cap, rfl, hG⟩ := hRW.toG (by omega)
  rw [hgl] at hG ⊢
  clear hRW hO
  go_upto_region 28 with (fail)
  refine fitLoopB hd hrE hG (by assumption) ?_
  intros
  rename_i gs2 w2 hG2
  clear hG
  go_upto_region 49 with (fail)
  exact fitEnd hd hl hG2 hv (by assumption)
end Go.Proofs.Ytdpogmibahaklaa
