/- The statement on series: the walk of its last part. -/
import Derived.Test.YtdpogmibahaklaaV4
import Derived.Deep.QuietTactic
import Derived.BigQuiet
import Derived.Deep.Cut
set_option linter.unusedVariables false
set_option linter.unusedSimpArgs false
namespace Go.Proofs.Ytdpogmibahaklaa
open Go.RowKit

set_option maxRecDepth 1000000 in
set_option maxHeartbeats 4000000 in
theorem rest22 {w0 w : World} {B : Option Addr} {mc dc n ga gb ca cb : Nat} {ys : List Int} {a b : List C} {tu wy : List C} {wi : Nat}
    (hRa : RowC w w0.heap.size ga n ca a) (hRb : RowC w w0.heap.size gb n cb b) (hne : ga ≠ gb) (hB : ReadsB w0 B mc ys) (hbel : Below w0.heap.size w0 w)
    (G : SerOk2 n (b.set 1 one) tu wy wi) (Hz : SerOk3 a) (n2 : 2 ≤ n) (n7 : n ≤ 7) (sa : SerC a)
    {x0 x2 x3 x4 x8 x9 x10 x11 x12 x13 x14 x15 x16 x17 x18 x19 x20 x21 x22 x23 x24 x25 x26 x27 x28 x29 x30 x31 x32 x33 x34 x35 x36 x37 x38 x39 x40 x41 x42 x43 x44 x45 x46 x47 x48 x49 x50 x51 x52 x53 x54 x55 x56 x57 x58 x59 x60 x61 x62 x63 x64 x65 x66 x67 x68 x69 x70 x71 x72 x73 x74 x75 x76 x77 x78 x79 x80 x81 x82 x83 x84 x85 x86 x87 x88 x89 x90 x91 x92 x93 x94 x95 x96 x97 x98 x99 x100 x101 x102 x103 x104 x105 x106 x107 x108 x109 x110 x111 x112 x113 x114 x115 x116 x117 x118 x119 x120 x121 x122 x123 x124 x125 x126 x127 x128 x129 x130 x131 x132 x133 x134 x135 x136 x137 x138 x139 x140 x141 x142 x143 x144 x145 x146 x147 x148 x149 x150 x151 x152 x153 x154 x155 x156 x157 x158 x159 x160 x161 x162 x163 x164 x165 x166 x167 x168 x169 x170 x171 x172 x173 x174 x175 x176 x177 x178 x179 x180 x181 x182 x183 x184 x185 x186 x187 x188 x189 x190 x191 x192 x193 x194 x195 x196 x197 x198 x199 x200 x201 x202 x203 x204 x205 x206 x207 x208 x209 x210 x211 x212 x213 x214 x215 x216 x217 x218 x219 x220 x221 x222 x223 x224 x225 x226 x227 x228 x229 x230 x231 x232 x233 x234 x235 x236 x237 x238 x239 x240 x241 x242 x243 x244 x245 x246 x247 x248 x249 x250 x251 x252 x253 x254 x255 x256 x257 x258 x259 x260 x261 x262 x263 x264 x265 x266 x267 x268 x269 x270 x271 x272 x273 x274 x275 x276 x277 x278 x279 x280 x281 x282 x283 x284 x285 x286 x287 x288 x289 x290 x291 x292 x293 x294 x295 x296 x297 x298 x299 x300 x301 x302 x303 x304 x305 x306 x307 x308 x309 x310 x311 x312 x313 x314 x315 x316 x317 x318 x319 x320 x321 x322 x323 x324 x325 x326 x327 x328 x329 x330 x331 x332 x333 x334 x335 x336 x337 x338 x339 x340 x341 x342 x343 x344 x345 x346 x347 x348 x349 x350 x351 x352 x353 x354 x355 x356 x357 x358 x359 x360 x361 x362 x363 x364 x365 x366 x367 x368 x369 x370 x371 x372 x373 x374 x375 x376 x377 x378 x379 x380 x381 x382 x383 x384 x385 x386 x387 x388 x389 x390 x391 x392 x393 x394 x395 x396 x397 x398 x399 x400 x401 x402 x403 x404 x405 x406 x407 x408 x409 x410 x411 x412 x413 x414 x415 x416 x417 x418 x419 x420 x421 x422 x423 x424 x425 x426 x427 x428 x429 x430 x431 x432 x433 : Value} {K : Act → World → Prop} (hK : ∀ a w, Code.wp Try.prog (restC 23) (bodyPost Try.prog Try.f4 (SerPost w0)) a w → K a w) :
    Code.wp Try.prog (headC (restC 22)) (Exit.then K (bodyPost Try.prog Try.f4 (SerPost w0))) ⟨#[x0, .slice B mc dc, x2, x3, x4, .int .i64 (n : Int), .slice (some ⟨ga, 0, none⟩) n ca, .slice (some ⟨gb, 0, none⟩) n cb, x8, x9, x10, x11, x12, x13, x14, x15, x16, x17, x18, x19, x20, x21, x22, x23, x24, x25, x26, x27, x28, x29, x30, x31, x32, x33, x34, x35, x36, x37, x38, x39, x40, x41, x42, x43, x44, x45, x46, x47, x48, x49, x50, x51, x52, x53, x54, x55, x56, x57, x58, x59, x60, x61, x62, x63, x64, x65, x66, x67, x68, x69, x70, x71, x72, x73, x74, x75, x76, x77, x78, x79, x80, x81, x82, x83, x84, x85, x86, x87, x88, x89, x90, x91, x92, x93, x94, x95, x96, x97, x98, x99, x100, x101, x102, x103, x104, x105, x106, x107, x108, x109, x110, x111, x112, x113, x114, x115, x116, x117, x118, x119, x120, x121, x122, x123, x124, x125, x126, x127, x128, x129, x130, x131, x132, x133, x134, x135, x136, x137, x138, x139, x140, x141, x142, x143, x144, x145, x146, x147, x148, x149, x150, x151, x152, x153, x154, x155, x156, x157, x158, x159, x160, x161, x162, x163, x164, x165, x166, x167, x168, x169, x170, x171, x172, x173, x174, x175, x176, x177, x178, x179, x180, x181, x182, x183, x184, x185, x186, x187, x188, x189, x190, x191, x192, x193, x194, x195, x196, x197, x198, x199, x200, x201, x202, x203, x204, x205, x206, x207, x208, x209, x210, x211, x212, x213, x214, x215, x216, x217, x218, x219, x220, x221, x222, x223, x224, x225, x226, x227, x228, x229, x230, x231, x232, x233, x234, x235, x236, x237, x238, x239, x240, x241, x242, x243, x244, x245, x246, x247, x248, x249, x250, x251, x252, x253, x254, x255, x256, x257, x258, x259, x260, x261, x262, x263, x264, x265, x266, x267, x268, x269, x270, x271, x272, x273, x274, x275, x276, x277, x278, x279, x280, x281, x282, x283, x284, x285, x286, x287, x288, x289, x290, x291, x292, x293, x294, x295, x296, x297, x298, x299, x300, x301, x302, x303, x304, x305, x306, x307, x308, x309, x310, x311, x312, x313, x314, x315, x316, x317, x318, x319, x320, x321, x322, x323, x324, x325, x326, x327, x328, x329, x330, x331, x332, x333, x334, x335, x336, x337, x338, x339, x340, x341, x342, x343, x344, x345, x346, x347, x348, x349, x350, x351, x352, x353, x354, x355, x356, x357, x358, x359, x360, x361, x362, x363, x364, x365, x366, x367, x368, x369, x370, x371, x372, x373, x374, x375, x376, x377, x378, x379, x380, x381, x382, x383, x384, x385, x386, x387, x388, x389, x390, x391, x392, x393, x394, x395, x396, x397, x398, x399, x400, x401, x402, x403, x404, x405, x406, x407, x408, x409, x410, x411, x412, x413, x414, x415, x416, x417, x418, x419, x420, x421, x422, x423, x424, x425, x426, x427, x428, x429, x430, x431, x432, x433], []⟩ w := by
  obtain ⟨c, hc⟩ : ∃ c, c = restC 23 := ⟨_, rfl⟩
  rw [← hc] at hK
  conv at hc => rhs; whnf
  subst hc
  conv => arg 2; whnf
  have fb := hRb.frozen 1
  have hn1 : (1 : Int) < (n : Int) := by omega
  obtain ⟨ad', e', hc'⟩ := hRb.reads.cells (by omega)
  cases e'
  have hb1 := hc' 1 (by omega)
  rw [Addr.add_lit, Nat.zero_add] at hb1
  clear hc'
  generalize b.getD 1 zero = xb at hb1
  unfold cv at hb1
  go_wp2_with fail
  have hRa1 : RowC (w.setCell ⟨gb, 1, none⟩ (.complex .f32 1065353216 0)) w0.heap.size ga n ca a := hRa.other (hRb.grows 1 one) hne
  have hRb1 : RowC (w.setCell ⟨gb, 1, none⟩ (.complex .f32 1065353216 0)) w0.heap.size gb n cb (b.set 1 one) := hRb.stored 1 one
  have hbel1 : Below w0.heap.size w0 (w.setCell ⟨gb, 1, none⟩ (.complex .f32 1065353216 0)) := hbel.setCell hRb.base _
  clear hRa hRb hbel hb1 fb hne
  generalize w.setCell ⟨gb, 1, none⟩ (.complex .f32 1065353216 0) = w1 at *
  have Ltu := Lib.hid (turnF_len G.htu)
  have Lwy := Lib.hid (composeF_len G.hwy)
  have lb := G.lb
  refine (turn_any (b.set 1 one) _ n cb tu _ hRb1.reads G.sb n2 G.bz G.b1 G.htu G.hout G.stu).mono ?_
  rintro e w2 ⟨A1, c1, rfl, hO1, hb1⟩
  have R1 := hO1.reads rfl
  rw [Ltu.out, lb] at R1 ⊢
  clear hO1
  have hRa2 := hRa1.below hb1
  have hRb2 := hRb1.below hb1
  have hbel2 := below_seq hbel1 hb1
  clear hRa1 hRb1 hbel1 hb1
  go_wp2_with fail
  refine (compose_any (b.set 1 one) tu _ A1 n cb c1 wy _ hRb2.reads R1 G.sb G.stu G.tz G.hwy G.swy).mono ?_
  rintro e w3 ⟨A2, c2, rfl, hO2, hb2⟩
  have R2 := hO2.reads rfl
  rw [Lwy.out, lb] at R2 ⊢
  clear hO2
  have hRa3 := hRa2.below hb2
  have R1' := R1.below hb2
  have hbel3 := below_seq hbel2 hb2
  clear hRa2 hRb2 hbel2 hb2 R1
  go_wp2_with fail
  have hwi := G.hwi
  have hcmp := G.cmp
  clear G
  unfold wideAllF at hwi
  go_loopw [37, 38, 352] (fun s kk kc wr => ∃ (j v : Nat), j ≤ n ∧ kc = .int .i64 (j : Int) ∧ s = .float .f64 v ∧ stepsF (fun k s => (longW (tu.getD k zero)).bind fun a => f64max s a) (n - j) j v = some wi ∧ Drawn w3 wr) (fun _ _ i _ => n - (intOf i).toNat)
  case atStart => exact ⟨0, 0, by omega, rfl, rfl, by simpa using hwi, Drawn.refl _⟩
  case round =>
    clear hwi
    obtain ⟨j, v, hj, rfl, rfl, hrec, hD⟩ := hrel
    by_cases hlt : j < n
    · obtain ⟨s, hst, hrec⟩ := stepsF_at hrec hlt
      simp only [Option.bind_eq_some_iff] at hst
      obtain ⟨l1, h1, hs⟩ := hst
      obtain ⟨a4, e4, q4⟩ := (R1'.drawn hD).cells (by omega)
      subst e4
      have c4' := q4 j hlt
      clear q4
      generalize tu.getD j zero = u4 at c4' h1
      unfold cv at c4'
      simp only [longW, Option.bind_eq_some_iff] at h1
      obtain ⟨m1, k1, d1⟩ := h1
      have r1 := @run_wide _ _ d1
      have r4 := @run_max_two _ _ _ hs
      have hj1 : (0 : Int) ≤ (j : Int) := by omega
      have hj2 : (j : Int) < (n : Int) := by omega
      go_wp2_with (first | (go_at_call 16; refine (longOf_any u4 _ _ k1).mono ?_; rintro e w' ⟨rfl, rfl⟩) | simp only [r1, r4])
      go_roundw
      case rel => exact ⟨j + 1, s, by omega, by go_num, rfl, by simpa using hrec, hD⟩
      case measure => simp [intOf]; omega
    · obtain rfl := stepsF_end hrec (by omega)
      clear hrec
      have hRa4 := hRa3.below (hD.below _)
      have R2' := R2.drawn hD
      have hbel4 := hbel3.trans (hD.below _)
      go_wp2_with fail
      clear hRa3 R1' R2 hbel3 hD hlt
      obtain ⟨mm, hmm, hcmp⟩ := hcmp
      simp only [mostF, Option.bind_eq_some_iff] at hmm
      obtain ⟨t1, g1, t2, g2, g3⟩ := hmm
      unfold one64 at g1
      unfold c001 at g2
      have f1 := run_fop g1
      have f2 := run_fop g2
      have f3 := run_fop g3
      clear g1 g2 g3
      go_loopw [39, 40, 366] (fun kk rr kc wn => ∃ (j : Nat), j ≤ n ∧ kc = .int .i64 (j : Int) ∧ Drawn wr wn) (fun _ _ i _ => n - (intOf i).toNat)
      case atStart => exact ⟨0, by omega, rfl, Drawn.refl _⟩
      case round =>
        obtain ⟨j, hj, rfl, hD⟩ := hrel
        by_cases hlt : j < n
        · obtain ⟨a5, e5, q5⟩ := (R2'.drawn hD).cells (by omega)
          subst e5
          have p5 := q5 j hlt
          have k1 := hcmp j hlt
          clear q5 hcmp R2' hRa4 hbel4 hB
          generalize wy.getD j zero = u5 at p5 k1
          unfold cv at p5
          obtain ⟨s1, l1, d1, m1, n1, o1, i1⟩ := near_facts k1
          have o1' := @run_wide _ _ o1
          have hj1 : (0 : Int) ≤ (j : Int) := by omega
          have hj2 : (j : Int) < (n : Int) := by omega
          clear k1
          by_cases hz : j = 1
          · rw [if_pos hz] at m1
            have hz' : ((j : Int) == 1) = true := by simp [hz]
            clear hz
            have m1' : ∀ (t : TypeId) (w : World), (binOp .sub t (.complex .f32 u5.1 u5.2) (.complex .f32 1065353216 0)).run Try.prog w = .ok (.complex .f32 s1.1 s1.2) w := @run_minus _ _ _ m1
            go_wp2_with (first | (go_at_call 16; refine (longOf_any s1 _ _ n1).mono ?_; rintro e w' ⟨rfl, rfl⟩) | simp only [m1', o1', f1, f2, f3, i1])
            go_roundw
            case rel => exact ⟨j + 1, by omega, by go_num, hD⟩
            case measure => simp [intOf]; omega
          · rw [if_neg hz] at m1
            have m1' : ∀ (t : TypeId) (w : World), (binOp .sub t (.complex .f32 u5.1 u5.2) (.complex .f32 0 0)).run Try.prog w = .ok (.complex .f32 s1.1 s1.2) w := @run_minus _ _ _ m1
            go_wp2_with (first | (go_at_call 16; refine (longOf_any s1 _ _ n1).mono ?_; rintro e w' ⟨rfl, rfl⟩) | simp only [m1', o1', f1, f2, f3, i1])
            go_roundw
            case rel => exact ⟨j + 1, by omega, by go_num, hD⟩
            case measure => simp [intOf]; omega
        · have hRa5 := hRa4.below (hD.below _)
          have hbel5 := hbel4.trans (hD.below _)
          have hB5 := hB.below hbel5
          clear hRa4 hbel4 R2' hcmp
          go_upto_region 58 with (fail)
          exact rest58 hRa5 hB5 hbel5 Hz sa n2 n7 (by assumption)
end Go.Proofs.Ytdpogmibahaklaa
