/- The statement on families: the walk of the points of a half circle. -/
import Derived.Test.YtdpogmibahaklaaM14
import Derived.Test.YtdpogmibahaklaaM6
import Derived.Deep.QuietTactic
import Derived.BigQuiet
import Derived.Deep.Cut
set_option linter.unusedVariables false
set_option linter.unusedSimpArgs false
namespace Go.Proofs.Ytdpogmibahaklaa
open Go.RowKit

set_option maxRecDepth 1000000 in
set_option maxHeartbeats 4000000 in
theorem restPoints {w0 w : World} {B : Option Addr} {mc dc kind n x y c gw cw : Nat} {ys : List Int} {ws pts fit : List Nat}
    (hB : ReadsB w0 B mc ys) (hbel : Below w0.heap.size w0 w) (hS : Shown kind n x y) (hk : kind ≤ 4) (n1 : 1 ≤ n) (n6 : n ≤ 6)
    (hW : ReadsF w (some ⟨gw, 0, none⟩) c ws) (c1 : 1 ≤ c) (c6 : c ≤ 6) (hP : PointsOk ws pts fit) (hw : ∀ y ∈ ws, finB y = some true)
    {x0 x2 x3 x4 x8 x9 x11 x12 x13 x14 x15 x16 x17 x18 x19 x20 x21 x24 x25 x26 x27 x28 x29 x30 x31 x32 x33 x34 x35 x36 x37 x38 x39 x40 x41 x42 x43 x44 x45 x46 x47 x48 x49 x50 x51 x52 x53 x54 x55 x56 x57 x58 x59 x60 x61 x62 x63 x64 x65 x66 x67 x68 x69 x70 x71 x72 x73 x74 x75 x76 x77 x78 x79 x80 x81 x82 x83 x84 x85 x86 x87 x88 x89 x90 x91 x92 x93 x94 x95 x96 x97 x98 x99 x100 x101 x102 x103 x104 x105 x106 x107 x108 x109 x110 x111 x112 x113 x114 x115 x116 x117 x118 x119 x120 x121 x122 x123 x124 x125 x126 x127 x128 x129 x130 x131 x132 x133 x134 x135 x136 x137 x138 x139 x140 x141 x142 x143 x144 x145 x146 x147 x148 x149 x150 x151 x152 x153 x154 x155 x156 x157 x158 x159 x160 x161 x162 x163 x164 x165 x166 x167 x168 x169 x170 x171 x172 x173 x174 x175 x176 x177 x178 x179 x180 x181 x182 x183 x184 x185 x186 x187 x188 x189 x190 x191 x192 x193 x194 x195 x196 x197 x198 x199 x200 x201 x202 x203 x204 x205 x206 x207 x208 x209 x210 x211 x212 x213 x214 x215 x216 x217 x218 x219 x220 x221 x222 x223 x224 x225 x226 x227 x228 x229 x230 x231 x232 x233 x234 x235 x236 x237 x238 x239 x240 x241 x242 x243 x244 x245 x246 x247 x248 x249 x250 x251 x252 x253 x254 x255 x256 x257 x258 x259 x260 x261 x262 x263 x264 x265 x266 x267 x268 x269 x270 x271 x272 x273 x274 x275 x276 x277 x278 x279 x280 x281 x282 x283 x284 x285 x286 x287 x288 x289 x290 x291 x292 x293 x294 x295 x296 x297 x298 x299 x300 x301 x302 x303 x304 x305 x306 x307 x308 x309 x310 x311 x312 x313 x314 x315 x316 x317 x318 x319 x320 x321 x322 x323 x324 x325 x326 x327 x328 x329 x330 x331 x332 x333 x334 x335 x336 x337 x338 x339 x340 x341 x342 x343 x344 x345 x346 x347 x348 x349 x350 x351 x352 x353 x354 x355 x356 x357 x358 x359 x360 x361 x362 x363 x364 x365 x366 x367 x368 x369 x370 x371 x372 x373 x374 x375 x376 x377 x378 x379 x380 x381 x382 x383 x384 x385 x386 x387 x388 x389 x390 x391 x392 x393 x394 x395 x396 x397 x398 x399 x400 x401 x402 x403 x404 x405 x406 x407 x408 x409 x410 x411 x412 x413 x414 x415 x416 x417 x418 x419 x420 x421 x422 x423 x424 x425 x426 x427 x428 x429 x430 x431 x432 x433 x434 x435 x436 x437 x438 x439 x440 x441 x442 x443 x444 x445 x446 : Value} {K : Act → World → Prop} (hK : ∀ a w, Code.wp Try.prog (restG 23) (bodyPost Try.prog Try.f5 (FamPost w0)) a w → K a w) :
    Code.wp Try.prog (headC (restG 22)) (Exit.then K (bodyPost Try.prog Try.f5 (FamPost w0))) ⟨#[x0, .slice B mc dc, x2, x3, x4, .int .i64 (kind : Int), .int .i64 (n : Int), .float .f32 x, x8, x9, .float .f32 y, x11, x12, x13, x14, x15, x16, x17, x18, x19, x20, x21, .int .i64 (c : Int), .slice (some ⟨gw, 0, none⟩) c cw, x24, x25, x26, x27, x28, x29, x30, x31, x32, x33, x34, x35, x36, x37, x38, x39, x40, x41, x42, x43, x44, x45, x46, x47, x48, x49, x50, x51, x52, x53, x54, x55, x56, x57, x58, x59, x60, x61, x62, x63, x64, x65, x66, x67, x68, x69, x70, x71, x72, x73, x74, x75, x76, x77, x78, x79, x80, x81, x82, x83, x84, x85, x86, x87, x88, x89, x90, x91, x92, x93, x94, x95, x96, x97, x98, x99, x100, x101, x102, x103, x104, x105, x106, x107, x108, x109, x110, x111, x112, x113, x114, x115, x116, x117, x118, x119, x120, x121, x122, x123, x124, x125, x126, x127, x128, x129, x130, x131, x132, x133, x134, x135, x136, x137, x138, x139, x140, x141, x142, x143, x144, x145, x146, x147, x148, x149, x150, x151, x152, x153, x154, x155, x156, x157, x158, x159, x160, x161, x162, x163, x164, x165, x166, x167, x168, x169, x170, x171, x172, x173, x174, x175, x176, x177, x178, x179, x180, x181, x182, x183, x184, x185, x186, x187, x188, x189, x190, x191, x192, x193, x194, x195, x196, x197, x198, x199, x200, x201, x202, x203, x204, x205, x206, x207, x208, x209, x210, x211, x212, x213, x214, x215, x216, x217, x218, x219, x220, x221, x222, x223, x224, x225, x226, x227, x228, x229, x230, x231, x232, x233, x234, x235, x236, x237, x238, x239, x240, x241, x242, x243, x244, x245, x246, x247, x248, x249, x250, x251, x252, x253, x254, x255, x256, x257, x258, x259, x260, x261, x262, x263, x264, x265, x266, x267, x268, x269, x270, x271, x272, x273, x274, x275, x276, x277, x278, x279, x280, x281, x282, x283, x284, x285, x286, x287, x288, x289, x290, x291, x292, x293, x294, x295, x296, x297, x298, x299, x300, x301, x302, x303, x304, x305, x306, x307, x308, x309, x310, x311, x312, x313, x314, x315, x316, x317, x318, x319, x320, x321, x322, x323, x324, x325, x326, x327, x328, x329, x330, x331, x332, x333, x334, x335, x336, x337, x338, x339, x340, x341, x342, x343, x344, x345, x346, x347, x348, x349, x350, x351, x352, x353, x354, x355, x356, x357, x358, x359, x360, x361, x362, x363, x364, x365, x366, x367, x368, x369, x370, x371, x372, x373, x374, x375, x376, x377, x378, x379, x380, x381, x382, x383, x384, x385, x386, x387, x388, x389, x390, x391, x392, x393, x394, x395, x396, x397, x398, x399, x400, x401, x402, x403, x404, x405, x406, x407, x408, x409, x410, x411, x412, x413, x414, x415, x416, x417, x418, x419, x420, x421, x422, x423, x424, x425, x426, x427, x428, x429, x430, x431, x432, x433, x434, x435, x436, x437, x438, x439, x440, x441, x442, x443, x444, x445, x446], []⟩ w := by
  obtain ⟨cc, hc⟩ : ∃ c, c = restG 23 := ⟨_, rfl⟩
  rw [← hc] at hK
  conv at hc => rhs; whnf
  subst hc
  conv => arg 2; whnf
  have hl := hW.len
  have hp := hP.hp
  have hf := hP.hf
  have sp := hP.sp
  have sf := hP.sf
  have hat := hP.at_
  have lp := hP.lp
  have lf := hP.lf
  have ff := hP.ff
  rw [hl] at hp sp sf hat lp lf
  have Hat := Lib.hid hat
  have Hl := Lib.hid hl
  have Hlf := Lib.hid lf
  clear hP hat hl
  go_wp2_with fail
  refine (points_any c pts _ c1 (by omega) sp hp).mono ?_
  rintro e w1 ⟨Ap, cp, rfl, hO1, hb1⟩
  obtain ⟨gp, cap1, hv1, _, _, _⟩ := hO1.form (by omega)
  cases hv1
  obtain ⟨A', c', hv1, hRp⟩ := hO1.slice
  cases hv1
  rw [lp] at hRp ⊢
  have hW1 := hW.below hb1
  have hbel1 := below_seq hbel hb1
  clear hO1 hW hbel hb1 sp hp lp
  go_wp2_with fail
  refine (fit_any ws (some ⟨gw, 0, none⟩) c cw fit _ hW1 c1 (by omega) hw sf hf ff).mono ?_
  rintro e w2 ⟨Af, cf, rfl, hO2, hb2⟩
  obtain ⟨gf, cap2, hv2, _, _, _⟩ := hO2.form (by rw [Hlf.out]; exact c1)
  cases hv2
  obtain ⟨A', c', hv2, hRf⟩ := hO2.slice
  cases hv2
  rw [Hlf.out] at hRf ⊢
  have hRp2 := hRp.below hb2
  have hW2 := hW1.below hb2
  have hbel2 := below_seq hbel1 hb2
  clear hO2 hW1 hbel1 hb2 sf hf lf hRp hw
  go_wp2_with fail
  go_loopw [42, 43, 44] (fun i _ _ wr => ∃ (j : Nat), j ≤ c ∧ i = .int .i64 (j : Int) ∧ Drawn w2 wr) (fun i _ _ _ => c - (intOf i).toNat)
  case atStart => exact ⟨0, by omega, rfl, Drawn.refl _⟩
  case round =>
    obtain ⟨j, hj, rfl, hD⟩ := hrel
    by_cases hlt : j < c
    · have e1 : (j : Int) < (c : Int) := by omega
      obtain ⟨pf, ⟨v, a, b, g, hv, hvf, ha, hb, hg, hgt⟩, phi, plo, pdn⟩ := Hat.out j hlt
      obtain ⟨ad', e', hc'⟩ := (hRp2.drawn hD).cells (by omega)
      cases e'
      have d0 := hc' j hlt
      have d1 := hc' (j - 1) (by omega)
      rw [Addr.add_lit, Nat.zero_add] at d0 d1
      clear hc'
      obtain ⟨ad', e', hc'⟩ := (hW2.drawn hD).cells (by omega)
      cases e'
      have d2 := hc' j hlt
      rw [Addr.add_lit, Nat.zero_add] at d2
      clear hc'
      have hRf3 := hRf.drawn hD
      generalize pts.getD j 0 = p at d0 pf hv phi plo pdn
      generalize pts.getD (j - 1) 0 = p' at d1 pdn
      generalize ws.getD j 0 = u at d2 hb
      unfold fv at d0 d1 d2
      have f1 := @run_wide _ _ ha
      have f2 := @run_wide _ _ hb
      have hkz : ((0 : Nat) : Int) = 0 := rfl
      clear ha hb hB hbel2 hS
      go_wp2_with fail
      refine Calls.drawn (familySum_any 0 p fit (some ⟨gf, 0, none⟩) c _ v _ (by omega) hRf3 c1 (by omega) pf ff hv hvf) ?_
      intro w4 hD4
      have hD5 := hD.trans hD4
      rw [← hD4.cell] at d0 d1 d2
      by_cases h0 : j = 0
      · clear d1 pdn
        subst h0
        go_wp2_with fail
        go_quiet (first | (go_at_call 44; exact Calls.quiet_of_same (gap_any a b g _ hg)) | simp only [f1, f2, phi, plo, hgt])
        go_wp2
        go_roundw
        case rel => exact ⟨0 + 1, by omega, by go_num, hD5.step nq⟩
        case measure => simp [intOf]; omega
      · have pdn' := pdn (by omega)
        have h1 : 0 < j := by omega
        have h2 : (j : Int) - 1 < (c : Int) := by omega
        have h3 : (0 : Int) ≤ (j : Int) - 1 := by omega
        clear pdn h0
        go_wp2_with fail
        go_quiet (first | (go_at_call 44; exact Calls.quiet_of_same (gap_any a b g _ hg)) | simp only [f1, f2, phi, plo, hgt, pdn'])
        go_wp2
        go_roundw
        case rel => exact ⟨j + 1, by omega, by go_num, hD5.step nq⟩
        case measure => simp [intOf]; omega
    · have e1 : ¬ (j : Int) < (c : Int) := by omega
      have hbel3 := hbel2.trans (hD.below _)
      go_upto_region 55 with (fail)
      exact restShared hB hbel3 hS hk n1 n6 (by assumption)
end Go.Proofs.Ytdpogmibahaklaa
