/- The statement on families: the walk of its rules and of its draws. -/
import Derived.Test.YtdpogmibahaklaaM17
import Derived.Deep.Cut
set_option linter.unusedVariables false
set_option linter.unusedSimpArgs false
namespace Go.Proofs.Ytdpogmibahaklaa
open Go.RowKit

/-- What is asked of a rule. -/
def RuleOk (kind x : Nat) (row : List Nat) (k : Nat) : Prop :=
  ∃ q a b e r s m1 m2 m3 m4 want r2 g g1 g2 m5 m6 m7 m8, ruleF kind k = some q ∧ wide q.1 = some a ∧ wide x = some e ∧ o64 .mul a e = some m1 ∧ wide q.2.1 = some b ∧ o64 .add m1 b = some m2 ∧
    wide (row.getD k 0) = some r ∧ o64 .mul m2 r = some m3 ∧ wide q.2.2 = some s ∧ (∃ t, wide (row.getD (k - 1) 0) = some t ∧ o64 .mul s t = some m4) ∧ o64 .sub m3 m4 = some want ∧
    wide (row.getD (k + 1) 0) = some r2 ∧ gapF r2 want = some g ∧ gapF want 0 = some g1 ∧ gapF r 0 = some g2 ∧ o64 .add 4607182418800017408 g1 = some m5 ∧ o64 .mul 4621819117588971520 g2 = some m6 ∧ o64 .add m5 m6 = some m7 ∧
    o64 .mul 4562254508917369340 m7 = some m8 ∧ (FloatKind.f64.format.order g m8 == some Ordering.gt) = false

set_option maxRecDepth 1000000 in
set_option maxHeartbeats 4000000 in
theorem restRules {w0 w : World} {A B : Option Addr} {nc ac mc dc kind n x y gr cr : Nat} {zs ys : List Int} {row : List Nat}
    (hA : ReadsB w0 A nc zs) (hB : ReadsB w0 B mc ys) (hbel : Below w0.heap.size w0 w) (hS : Shown kind n x y) (hk : kind ≤ 4) (n1 : 1 ≤ n) (n6 : n ≤ 6)
    (hR : ReadsF w (some ⟨gr, 0, none⟩) (n + 1) row) (hx : finB x = some true) (hdr : ∀ c, 1 ≤ c → c ≤ 6 → ∃ vals, DrawsOk kind x c vals) (hrule : ∀ k, 1 ≤ k → k < n → RuleOk kind x row k)
    {x2 x3 x4 x9 x11 x12 x13 x14 x15 x16 x17 x18 x19 x20 x21 x22 x23 x24 x25 x26 x27 x28 x29 x30 x31 x32 x33 x34 x35 x36 x37 x38 x39 x40 x41 x42 x43 x44 x45 x46 x47 x48 x49 x50 x51 x52 x53 x54 x55 x56 x57 x58 x59 x60 x61 x62 x63 x64 x65 x66 x67 x68 x69 x70 x71 x72 x73 x74 x75 x76 x77 x78 x79 x80 x81 x82 x83 x84 x85 x86 x87 x88 x89 x90 x91 x92 x93 x94 x95 x96 x97 x98 x99 x100 x101 x102 x103 x104 x105 x106 x107 x108 x109 x110 x111 x112 x113 x114 x115 x116 x117 x118 x119 x120 x121 x122 x123 x124 x125 x126 x127 x128 x129 x130 x131 x132 x133 x134 x135 x136 x137 x138 x139 x140 x141 x142 x143 x144 x145 x146 x147 x148 x149 x150 x151 x152 x153 x154 x155 x156 x157 x158 x159 x160 x161 x162 x163 x164 x165 x166 x167 x168 x169 x170 x171 x172 x173 x174 x175 x176 x177 x178 x179 x180 x181 x182 x183 x184 x185 x186 x187 x188 x189 x190 x191 x192 x193 x194 x195 x196 x197 x198 x199 x200 x201 x202 x203 x204 x205 x206 x207 x208 x209 x210 x211 x212 x213 x214 x215 x216 x217 x218 x219 x220 x221 x222 x223 x224 x225 x226 x227 x228 x229 x230 x231 x232 x233 x234 x235 x236 x237 x238 x239 x240 x241 x242 x243 x244 x245 x246 x247 x248 x249 x250 x251 x252 x253 x254 x255 x256 x257 x258 x259 x260 x261 x262 x263 x264 x265 x266 x267 x268 x269 x270 x271 x272 x273 x274 x275 x276 x277 x278 x279 x280 x281 x282 x283 x284 x285 x286 x287 x288 x289 x290 x291 x292 x293 x294 x295 x296 x297 x298 x299 x300 x301 x302 x303 x304 x305 x306 x307 x308 x309 x310 x311 x312 x313 x314 x315 x316 x317 x318 x319 x320 x321 x322 x323 x324 x325 x326 x327 x328 x329 x330 x331 x332 x333 x334 x335 x336 x337 x338 x339 x340 x341 x342 x343 x344 x345 x346 x347 x348 x349 x350 x351 x352 x353 x354 x355 x356 x357 x358 x359 x360 x361 x362 x363 x364 x365 x366 x367 x368 x369 x370 x371 x372 x373 x374 x375 x376 x377 x378 x379 x380 x381 x382 x383 x384 x385 x386 x387 x388 x389 x390 x391 x392 x393 x394 x395 x396 x397 x398 x399 x400 x401 x402 x403 x404 x405 x406 x407 x408 x409 x410 x411 x412 x413 x414 x415 x416 x417 x418 x419 x420 x421 x422 x423 x424 x425 x426 x427 x428 x429 x430 x431 x432 x433 x434 x435 x436 x437 x438 x439 x440 x441 x442 x443 x444 x445 x446 : Value} {K K' : Act → World → Prop} (hK : ∀ a w, Code.wp Try.prog (restG 11) (bodyPost Try.prog Try.f5 (FamPost w0)) a w → K a w)
    (hK' : ∀ a w, Code.wp Try.prog (tailC 1 (headC (restG 10))) (Exit.then K (bodyPost Try.prog Try.f5 (FamPost w0))) a w → K' a w) :
    Code.wp Try.prog (headC (headC (restG 10))) (Exit.then K' (Exit.then K (bodyPost Try.prog Try.f5 (FamPost w0)))) ⟨#[.slice A nc ac, .slice B mc dc, x2, x3, x4, .int .i64 (kind : Int), .int .i64 (n : Int), .float .f32 x, .slice (some ⟨gr, 0, none⟩) (n + 1) cr, x9, .float .f32 y, x11, x12, x13, x14, x15, x16, x17, x18, x19, x20, x21, x22, x23, x24, x25, x26, x27, x28, x29, x30, x31, x32, x33, x34, x35, x36, x37, x38, x39, x40, x41, x42, x43, x44, x45, x46, x47, x48, x49, x50, x51, x52, x53, x54, x55, x56, x57, x58, x59, x60, x61, x62, x63, x64, x65, x66, x67, x68, x69, x70, x71, x72, x73, x74, x75, x76, x77, x78, x79, x80, x81, x82, x83, x84, x85, x86, x87, x88, x89, x90, x91, x92, x93, x94, x95, x96, x97, x98, x99, x100, x101, x102, x103, x104, x105, x106, x107, x108, x109, x110, x111, x112, x113, x114, x115, x116, x117, x118, x119, x120, x121, x122, x123, x124, x125, x126, x127, x128, x129, x130, x131, x132, x133, x134, x135, x136, x137, x138, x139, x140, x141, x142, x143, x144, x145, x146, x147, x148, x149, x150, x151, x152, x153, x154, x155, x156, x157, x158, x159, x160, x161, x162, x163, x164, x165, x166, x167, x168, x169, x170, x171, x172, x173, x174, x175, x176, x177, x178, x179, x180, x181, x182, x183, x184, x185, x186, x187, x188, x189, x190, x191, x192, x193, x194, x195, x196, x197, x198, x199, x200, x201, x202, x203, x204, x205, x206, x207, x208, x209, x210, x211, x212, x213, x214, x215, x216, x217, x218, x219, x220, x221, x222, x223, x224, x225, x226, x227, x228, x229, x230, x231, x232, x233, x234, x235, x236, x237, x238, x239, x240, x241, x242, x243, x244, x245, x246, x247, x248, x249, x250, x251, x252, x253, x254, x255, x256, x257, x258, x259, x260, x261, x262, x263, x264, x265, x266, x267, x268, x269, x270, x271, x272, x273, x274, x275, x276, x277, x278, x279, x280, x281, x282, x283, x284, x285, x286, x287, x288, x289, x290, x291, x292, x293, x294, x295, x296, x297, x298, x299, x300, x301, x302, x303, x304, x305, x306, x307, x308, x309, x310, x311, x312, x313, x314, x315, x316, x317, x318, x319, x320, x321, x322, x323, x324, x325, x326, x327, x328, x329, x330, x331, x332, x333, x334, x335, x336, x337, x338, x339, x340, x341, x342, x343, x344, x345, x346, x347, x348, x349, x350, x351, x352, x353, x354, x355, x356, x357, x358, x359, x360, x361, x362, x363, x364, x365, x366, x367, x368, x369, x370, x371, x372, x373, x374, x375, x376, x377, x378, x379, x380, x381, x382, x383, x384, x385, x386, x387, x388, x389, x390, x391, x392, x393, x394, x395, x396, x397, x398, x399, x400, x401, x402, x403, x404, x405, x406, x407, x408, x409, x410, x411, x412, x413, x414, x415, x416, x417, x418, x419, x420, x421, x422, x423, x424, x425, x426, x427, x428, x429, x430, x431, x432, x433, x434, x435, x436, x437, x438, x439, x440, x441, x442, x443, x444, x445, x446], []⟩ w := by
  obtain ⟨cd, hc⟩ : ∃ c, c = restG 11 := ⟨_, rfl⟩
  rw [← hc] at hK
  conv at hc => rhs; whnf
  subst hc
  obtain ⟨ce, he'⟩ : ∃ c, c = tailC 1 (headC (restG 10)) := ⟨_, rfl⟩
  rw [← he'] at hK'
  conv at he' => rhs; whnf
  subst he'
  conv => arg 2; whnf
  have Hr := Lib.hid hrule
  clear hrule
  go_wp2_with fail
  go_loopw [16, 17, 18, 19, 20, 21] (fun i _ _ _ _ _ wr => ∃ (j : Nat), 1 ≤ j ∧ j ≤ n ∧ i = .int .i64 (j : Int) ∧ Drawn w wr) (fun i _ _ _ _ _ _ => n - (intOf i).toNat)
  case atStart => exact ⟨1, by omega, by omega, rfl, Drawn.refl _⟩
  case round =>
    obtain ⟨j, j1, hj, rfl, hD⟩ := hrel
    by_cases hlt : j < n
    · have e1 : (j : Int) < (n : Int) := by omega
      obtain ⟨q, a, b, e, r, s, m1, m2, m3, m4, want, r2, g, g1, g2, m5, m6, m7, m8, hq, ha, he, h1, hb, h2, hr, h3, hs, ⟨t, ht, h4⟩, hw, hr2, hg, hg1, hg2, h5, h6, h7, h8, hgt⟩ := Hr.out j j1 hlt
      obtain ⟨ad', e', hc'⟩ := (hR.drawn hD).cells (by omega)
      cases e'
      have d0 := hc' j (by omega)
      have d1 := hc' (j - 1) (by omega)
      have d2 := hc' (j + 1) (by omega)
      rw [Addr.add_lit, Nat.zero_add] at d0 d1 d2
      clear hc'
      generalize row.getD j 0 = p0 at d0 hr
      generalize row.getD (j - 1) 0 = p1 at d1 ht
      generalize row.getD (j + 1) 0 = p2 at d2 hr2
      unfold fv at d0 d1 d2
      have f1 := @run_wide _ _ ha
      have f2 := @run_wide _ _ he
      have f3 := @run_o64 _ _ _ _ h1
      have f4 := @run_wide _ _ hb
      have f5 := @run_o64 _ _ _ _ h2
      have f6 := @run_wide _ _ hr
      have f7 := @run_o64 _ _ _ _ h3
      have f8 := @run_wide _ _ hs
      have f9 := @run_wide _ _ ht
      have f10 := @run_o64 _ _ _ _ h4
      have f11 := @run_o64 _ _ _ _ hw
      have f12 := @run_wide _ _ hr2
      have f13 := @run_o64 _ _ _ _ h5
      have f14 := @run_o64 _ _ _ _ h6
      have f15 := @run_o64 _ _ _ _ h7
      have f16 := @run_o64 _ _ _ _ h8
      have i1 : (j : Int) < (n : Int) + 1 := by omega
      have i2 : (j : Int) - 1 < (n : Int) + 1 := by omega
      have i3 : (0 : Int) ≤ (j : Int) - 1 := by omega
      have i4 : (j : Int) + 1 < (n : Int) + 1 := by omega
      clear ha he h1 hb h2 hr h3 hs ht h4 hw hr2 h5 h6 h7 h8 hA hB hS hR
      go_wp2_with fail
      refine Calls.same (ruleOf_any kind j q _ hk (by omega) hq) ?_
      go_wp2_with fail
      go_quiet (simp only [f1, f2, f3, f4, f5, f6, f7, f8, f9, f10, f11])
      have q0 : (wr.drewN nq).cell? ⟨gr, j, none⟩ = some (.float .f32 p0) := by rw [World.cell?_drewN]; exact d0
      have q2 : (wr.drewN nq).cell? ⟨gr, j + 1, none⟩ = some (.float .f32 p2) := by rw [World.cell?_drewN]; exact d2
      have hD2 := hD.step nq
      clear d0 d1 d2 hD
      generalize wr.drewN nq = wq at *
      go_wp2_with fail
      go_quiet (first | (go_at_call 44; exact Calls.quiet_of_same (gap_any _ _ _ _ (by with_reducible assumption))) | simp only [f6, f12, f13, f14, f15, f16, hgt])
      go_wp2
      go_roundw
      case rel => exact ⟨j + 1, by omega, by omega, by go_num, hD2.step nq⟩
      case measure => simp [intOf]; omega
    · have e1 : ¬ (j : Int) < (n : Int) := by omega
      have hb1 := hbel.trans (hD.below _)
      go_upto_region 19 with (fail)
      exact restDraws hA hB hb1 hS hk n1 n6 hx hdr (by assumption)
end Go.Proofs.Ytdpogmibahaklaa
