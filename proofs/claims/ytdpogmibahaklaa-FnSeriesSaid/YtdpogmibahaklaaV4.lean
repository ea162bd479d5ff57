/- The statement on series: the walk of its last values. -/
import Derived.Test.YtdpogmibahaklaaW13
import Derived.Deep.QuietTactic
import Derived.BigQuiet
import Derived.Deep.Cut
set_option linter.unusedVariables false
set_option linter.unusedSimpArgs false
namespace Go.Proofs.Ytdpogmibahaklaa
open Go.RowKit

theorem reads_pair (w : World) (x y : C) : ReadsC (w.alloc (Obj.cells #[Value.complex .f32 x.1 x.2, Value.complex .f32 y.1 y.2] 26)) (some ⟨w.heap.size, 0, none⟩) 2 [x, y] :=
  ⟨rfl, by omega, fun _ => ⟨_, rfl, fun j hj => by
    rcases (by omega : j = 0 ∨ j = 1) with rfl | rfl
    · rw [Addr.add_lit]; exact World.cell?_alloc_at _ _ _ _ rfl
    · rw [Addr.add_lit]; exact World.cell?_alloc_at _ _ _ _ rfl⟩⟩

theorem shared_pair {a : List C} {z x y : C} (h1 : nestF a z = some x) (h2 : nestF a zero = some y) : sharedF a [z, zero] = some [x, y] := by
  unfold sharedF
  show stepsF _ 2 0 [] = _
  simp [stepsF, h1, h2]

set_option maxRecDepth 1000000 in
set_option maxHeartbeats 4000000 in
theorem rest58 {w0 w : World} {B : Option Addr} {mc dc n ga ca : Nat} {ys : List Int} {a : List C}
    (hRa : RowC w w0.heap.size ga n ca a) (hB : ReadsB w B mc ys) (hbel : Below w0.heap.size w0 w) (Hz : SerOk3 a) (sa : SerC a) (n2 : 2 ≤ n) (n7 : n ≤ 7)
    {x0 x2 x3 x4 x5 x7 x8 x9 x10 x11 x12 x13 x14 x15 x16 x17 x18 x19 x20 x21 x22 x23 x24 x25 x26 x27 x28 x29 x30 x31 x32 x33 x34 x35 x36 x37 x38 x39 x40 x41 x42 x43 x44 x45 x46 x47 x48 x49 x50 x51 x52 x53 x54 x55 x56 x57 x58 x59 x60 x61 x62 x63 x64 x65 x66 x67 x68 x69 x70 x71 x72 x73 x74 x75 x76 x77 x78 x79 x80 x81 x82 x83 x84 x85 x86 x87 x88 x89 x90 x91 x92 x93 x94 x95 x96 x97 x98 x99 x100 x101 x102 x103 x104 x105 x106 x107 x108 x109 x110 x111 x112 x113 x114 x115 x116 x117 x118 x119 x120 x121 x122 x123 x124 x125 x126 x127 x128 x129 x130 x131 x132 x133 x134 x135 x136 x137 x138 x139 x140 x141 x142 x143 x144 x145 x146 x147 x148 x149 x150 x151 x152 x153 x154 x155 x156 x157 x158 x159 x160 x161 x162 x163 x164 x165 x166 x167 x168 x169 x170 x171 x172 x173 x174 x175 x176 x177 x178 x179 x180 x181 x182 x183 x184 x185 x186 x187 x188 x189 x190 x191 x192 x193 x194 x195 x196 x197 x198 x199 x200 x201 x202 x203 x204 x205 x206 x207 x208 x209 x210 x211 x212 x213 x214 x215 x216 x217 x218 x219 x220 x221 x222 x223 x224 x225 x226 x227 x228 x229 x230 x231 x232 x233 x234 x235 x236 x237 x238 x239 x240 x241 x242 x243 x244 x245 x246 x247 x248 x249 x250 x251 x252 x253 x254 x255 x256 x257 x258 x259 x260 x261 x262 x263 x264 x265 x266 x267 x268 x269 x270 x271 x272 x273 x274 x275 x276 x277 x278 x279 x280 x281 x282 x283 x284 x285 x286 x287 x288 x289 x290 x291 x292 x293 x294 x295 x296 x297 x298 x299 x300 x301 x302 x303 x304 x305 x306 x307 x308 x309 x310 x311 x312 x313 x314 x315 x316 x317 x318 x319 x320 x321 x322 x323 x324 x325 x326 x327 x328 x329 x330 x331 x332 x333 x334 x335 x336 x337 x338 x339 x340 x341 x342 x343 x344 x345 x346 x347 x348 x349 x350 x351 x352 x353 x354 x355 x356 x357 x358 x359 x360 x361 x362 x363 x364 x365 x366 x367 x368 x369 x370 x371 x372 x373 x374 x375 x376 x377 x378 x379 x380 x381 x382 x383 x384 x385 x386 x387 x388 x389 x390 x391 x392 x393 x394 x395 x396 x397 x398 x399 x400 x401 x402 x403 x404 x405 x406 x407 x408 x409 x410 x411 x412 x413 x414 x415 x416 x417 x418 x419 x420 x421 x422 x423 x424 x425 x426 x427 x428 x429 x430 x431 x432 x433 : Value} {K : Act → World → Prop} (hK : ∀ a w, Code.wp Try.prog (restC 30) (bodyPost Try.prog Try.f4 (SerPost w0)) a w → K a w) :
    Code.wp Try.prog (headC (restC 29)) (Exit.then K (bodyPost Try.prog Try.f4 (SerPost w0))) ⟨#[x0, .slice B mc dc, x2, x3, x4, x5, .slice (some ⟨ga, 0, none⟩) n ca, x7, x8, x9, x10, x11, x12, x13, x14, x15, x16, x17, x18, x19, x20, x21, x22, x23, x24, x25, x26, x27, x28, x29, x30, x31, x32, x33, x34, x35, x36, x37, x38, x39, x40, x41, x42, x43, x44, x45, x46, x47, x48, x49, x50, x51, x52, x53, x54, x55, x56, x57, x58, x59, x60, x61, x62, x63, x64, x65, x66, x67, x68, x69, x70, x71, x72, x73, x74, x75, x76, x77, x78, x79, x80, x81, x82, x83, x84, x85, x86, x87, x88, x89, x90, x91, x92, x93, x94, x95, x96, x97, x98, x99, x100, x101, x102, x103, x104, x105, x106, x107, x108, x109, x110, x111, x112, x113, x114, x115, x116, x117, x118, x119, x120, x121, x122, x123, x124, x125, x126, x127, x128, x129, x130, x131, x132, x133, x134, x135, x136, x137, x138, x139, x140, x141, x142, x143, x144, x145, x146, x147, x148, x149, x150, x151, x152, x153, x154, x155, x156, x157, x158, x159, x160, x161, x162, x163, x164, x165, x166, x167, x168, x169, x170, x171, x172, x173, x174, x175, x176, x177, x178, x179, x180, x181, x182, x183, x184, x185, x186, x187, x188, x189, x190, x191, x192, x193, x194, x195, x196, x197, x198, x199, x200, x201, x202, x203, x204, x205, x206, x207, x208, x209, x210, x211, x212, x213, x214, x215, x216, x217, x218, x219, x220, x221, x222, x223, x224, x225, x226, x227, x228, x229, x230, x231, x232, x233, x234, x235, x236, x237, x238, x239, x240, x241, x242, x243, x244, x245, x246, x247, x248, x249, x250, x251, x252, x253, x254, x255, x256, x257, x258, x259, x260, x261, x262, x263, x264, x265, x266, x267, x268, x269, x270, x271, x272, x273, x274, x275, x276, x277, x278, x279, x280, x281, x282, x283, x284, x285, x286, x287, x288, x289, x290, x291, x292, x293, x294, x295, x296, x297, x298, x299, x300, x301, x302, x303, x304, x305, x306, x307, x308, x309, x310, x311, x312, x313, x314, x315, x316, x317, x318, x319, x320, x321, x322, x323, x324, x325, x326, x327, x328, x329, x330, x331, x332, x333, x334, x335, x336, x337, x338, x339, x340, x341, x342, x343, x344, x345, x346, x347, x348, x349, x350, x351, x352, x353, x354, x355, x356, x357, x358, x359, x360, x361, x362, x363, x364, x365, x366, x367, x368, x369, x370, x371, x372, x373, x374, x375, x376, x377, x378, x379, x380, x381, x382, x383, x384, x385, x386, x387, x388, x389, x390, x391, x392, x393, x394, x395, x396, x397, x398, x399, x400, x401, x402, x403, x404, x405, x406, x407, x408, x409, x410, x411, x412, x413, x414, x415, x416, x417, x418, x419, x420, x421, x422, x423, x424, x425, x426, x427, x428, x429, x430, x431, x432, x433], []⟩ w := by
  obtain ⟨c, hc⟩ : ∃ c, c = restC 30 := ⟨_, rfl⟩
  rw [← hc] at hK
  conv at hc => rhs; whnf
  subst hc
  conv => arg 2; whnf
  go_wp2_with fail
  refine (b10At_any B mc dc ys 7 7 9 _ hB rfl (by omega) (by omega) (by omega)).mono ?_
  rintro e w' ⟨v, rfl, v0, v1, hw'⟩
  obtain rfl : w = w' := hw'.symm
  clear hw'
  obtain ⟨q, x, q0, q1, q2, q3, q4, q5⟩ := Hz.z v v0 v1
  have hsub : IntKind.i64.wrap (v - 4) = v - 4 := IntWalk.i64_in _ (by omega)
  have f0 := run_fop q0
  go_wp2_with (simp only [f0])
  clear f0 q0
  obtain ⟨y, y1, y2, d, y3, y4⟩ := Hz.o
  refine Calls.below (seriesAt_any a (q, 0) _ n ca x _ hRa.reads sa q1 q2 q3) ?_
  intro w1 hb1
  have hRa1 := hRa.below hb1
  have hB1 := hB.below hb1
  have hbel1 := below_seq hbel hb1
  clear hRa hB hbel hb1
  go_wp2_with fail
  refine (b10At_any B mc dc ys 8 8 8 _ (hB1.below ((Below.refl _ _).alloc (Nat.le_refl _) _)) rfl (by omega) (by omega) (by omega)).mono ?_
  rintro e w' ⟨m, rfl, m0, m1, hw'⟩
  subst hw'
  have hbel2 := hbel1.alloc hbel1.size (Obj.cells #[Value.complex .f32 q 0, Value.complex .f32 0 0] 26)
  have hRa2 := hRa1.below ((Below.refl _ _).alloc (Nat.le_refl _) (Obj.cells #[Value.complex .f32 q 0, Value.complex .f32 0 0] 26))
  have hP := reads_pair w1 (q, 0) zero
  have hadd : IntKind.i64.wrap (1 + m) = 1 + m := IntWalk.i64_in _ (by omega)
  go_wp2_with fail
  refine (seriesShared_any a [(q, 0), zero] _ _ n ca 2 _ (1 + m) [x, y] _ hRa2.reads hP sa (by omega) (by omega) (by omega) ?_ (shared_pair q2 y1)).mono ?_
  · intro p hp
    simp only [List.mem_cons, List.not_mem_nil, or_false] at hp
    rcases hp with rfl | rfl
    · exact ⟨q1, fun v hv => by rw [q2] at hv; cases hv; exact q3⟩
    · exact ⟨⟨by decide +kernel, by decide +kernel⟩, fun v hv => by rw [y1] at hv; cases hv; exact y2⟩
  rintro e w3 ⟨A3, c3, rfl, hO3, hb3⟩
  have R3 := hO3.reads rfl
  have hbel3 := below_seq hbel2 hb3
  obtain ⟨a3, e3, q3'⟩ := R3.cells (by simp)
  subst e3
  have x0' : w3.cell? (a3.add 0) = some (cv x) := q3' 0 (by simp)
  have x1' : w3.cell? (a3.add 1) = some (cv y) := q3' 1 (by simp)
  clear q3' R3 hO3 hb3 hRa1 hRa2 hB1 hbel1 hbel2 hP
  obtain ⟨p1, l1, d1, k1, k2, k3⟩ : ∃ p l dd, minusF y one = some p ∧ longF p = some l ∧ wide l = some dd ∧ (FloatKind.f64.format.order dd c001 == some .lt) = true := by
    simp only [farF, longW, Option.bind_eq_some_iff] at y3
    obtain ⟨p, hp, l, hl, hw⟩ := y3
    exact ⟨p, l, d, hp, hl, hw, by rw [show FloatKind.f64.format.order d c001 = some .lt from y4]; rfl⟩
  obtain ⟨k3, k4⟩ := k3
  have k1' : ∀ (t : TypeId) (w : World), (binOp .sub t (.complex .f32 y.1 y.2) (.complex .f32 1065353216 0)).run Try.prog w = .ok (.complex .f32 p1.1 p1.2) w := @run_minus _ _ _ k1
  have k3' := @run_wide _ _ k3
  unfold c001 at k4
  unfold cv at x0' x1'
  rw [Addr.add_zero'] at x0'
  go_wp2_with fail
  refine Calls.same (sameComplex_any x _ q4 q5) ?_
  rw [Addr.add_succ'] at x1'
  go_wp2_with (first | (go_at_call 16; refine (longOf_any p1 _ _ k2).mono ?_; rintro e w' ⟨rfl, rfl⟩) | simp only [k1', k3', k4])
  go_ret
  exact ⟨rfl, hbel3⟩
end Go.Proofs.Ytdpogmibahaklaa
