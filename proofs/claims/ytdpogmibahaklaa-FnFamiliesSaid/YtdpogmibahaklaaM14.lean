/- The statement on families: the walk of its last values. -/
import Derived.Test.YtdpogmibahaklaaM12
import Derived.Deep.Cut
import Derived.Outline
set_option linter.unusedVariables false
set_option linter.unusedSimpArgs false
namespace Go.Proofs.Ytdpogmibahaklaa
open Go.RowKit

noncomputable def restG (k : Nat) : Code := tailC k (Try.f5.body.getD .skip)
abbrev FamPost (w0 : World) : Ending → World → Prop := fun e w' => e = .returned (.bool true) ∧ Below w0.heap.size w0 w'

/-- The value at the draw's point. -/
structure Shown (kind n x y : Nat) : Prop where
  val : ValOk kind n x y
  eq : (FloatKind.f32.format.order y y == some Ordering.eq) = true

/-- What is asked of one point of a half circle. -/
structure PointOk (ws pts fit : List Nat) (k : Nat) : Prop where
  fin : finB (pts.getD k 0) = some true
  val : ∃ y a b g, famSumF 0 fit (pts.getD k 0) = some y ∧ finB y = some true ∧ wide y = some a ∧ wide (ws.getD k 0) = some b ∧ gapF a b = some g ∧ (FloatKind.f64.format.order g 4576918229304087675 == some Ordering.gt) = false
  hi : (FloatKind.f32.format.order (pts.getD k 0) 1065353216 == some Ordering.gt) = false
  lo : (FloatKind.f32.format.order (pts.getD k 0) 3212836864 == some Ordering.lt) = false
  down : 0 < k → ((FloatKind.f32.format.order (pts.getD k 0) (pts.getD (k - 1) 0) == some Ordering.gt) || (FloatKind.f32.format.order (pts.getD k 0) (pts.getD (k - 1) 0) == some Ordering.eq)) = false

/-- What is asked of the points of a half circle, and of the weights there. -/
structure PointsOk (ws pts fit : List Nat) : Prop where
  hp : pointsF ws.length = some pts
  sp : ∀ k, k < ws.length → SeenOk ws.length (2 * k + 1)
  hf : fitF ws = some fit
  sf : ∀ j k, j < ws.length → k < ws.length → SeenOk ws.length (j * (2 * k + 1))
  lp : pts.length = ws.length
  lf : fit.length = ws.length
  ff : ∀ y ∈ fit, finB y = some true
  at_ : ∀ k, k < ws.length → PointOk ws pts fit k

theorem reads_pairF (w : World) (x y : Nat) : ReadsF (w.alloc (Obj.cells #[Value.float .f32 x, Value.float .f32 y] 36)) (some ⟨w.heap.size, 0, none⟩) 2 [x, y] :=
  ⟨rfl, by omega, fun _ => ⟨_, rfl, fun j hj => by
    rcases (by omega : j = 0 ∨ j = 1) with rfl | rfl
    · rw [Addr.add_lit]; exact World.cell?_alloc_at _ _ _ _ rfl
    · rw [Addr.add_lit]; exact World.cell?_alloc_at _ _ _ _ rfl⟩⟩
end Go.Proofs.Ytdpogmibahaklaa

namespace Go.Proofs.Ytdpogmibahaklaa
open Go.RowKit

set_option maxRecDepth 1000000 in
set_option maxHeartbeats 4000000 in
theorem restShared {w0 w : World} {B : Option Addr} {mc dc kind n x y : Nat} {ys : List Int}
    (hB : ReadsB w0 B mc ys) (hbel : Below w0.heap.size w0 w) (hS : Shown kind n x y) (hk : kind ≤ 4) (n1 : 1 ≤ n) (n6 : n ≤ 6)
    {x0 x2 x3 x4 x8 x9 x11 x12 x13 x14 x15 x16 x17 x18 x19 x20 x21 x22 x23 x24 x25 x26 x27 x28 x29 x30 x31 x32 x33 x34 x35 x36 x37 x38 x39 x40 x41 x42 x43 x44 x45 x46 x47 x48 x49 x50 x51 x52 x53 x54 x55 x56 x57 x58 x59 x60 x61 x62 x63 x64 x65 x66 x67 x68 x69 x70 x71 x72 x73 x74 x75 x76 x77 x78 x79 x80 x81 x82 x83 x84 x85 x86 x87 x88 x89 x90 x91 x92 x93 x94 x95 x96 x97 x98 x99 x100 x101 x102 x103 x104 x105 x106 x107 x108 x109 x110 x111 x112 x113 x114 x115 x116 x117 x118 x119 x120 x121 x122 x123 x124 x125 x126 x127 x128 x129 x130 x131 x132 x133 x134 x135 x136 x137 x138 x139 x140 x141 x142 x143 x144 x145 x146 x147 x148 x149 x150 x151 x152 x153 x154 x155 x156 x157 x158 x159 x160 x161 x162 x163 x164 x165 x166 x167 x168 x169 x170 x171 x172 x173 x174 x175 x176 x177 x178 x179 x180 x181 x182 x183 x184 x185 x186 x187 x188 x189 x190 x191 x192 x193 x194 x195 x196 x197 x198 x199 x200 x201 x202 x203 x204 x205 x206 x207 x208 x209 x210 x211 x212 x213 x214 x215 x216 x217 x218 x219 x220 x221 x222 x223 x224 x225 x226 x227 x228 x229 x230 x231 x232 x233 x234 x235 x236 x237 x238 x239 x240 x241 x242 x243 x244 x245 x246 x247 x248 x249 x250 x251 x252 x253 x254 x255 x256 x257 x258 x259 x260 x261 x262 x263 x264 x265 x266 x267 x268 x269 x270 x271 x272 x273 x274 x275 x276 x277 x278 x279 x280 x281 x282 x283 x284 x285 x286 x287 x288 x289 x290 x291 x292 x293 x294 x295 x296 x297 x298 x299 x300 x301 x302 x303 x304 x305 x306 x307 x308 x309 x310 x311 x312 x313 x314 x315 x316 x317 x318 x319 x320 x321 x322 x323 x324 x325 x326 x327 x328 x329 x330 x331 x332 x333 x334 x335 x336 x337 x338 x339 x340 x341 x342 x343 x344 x345 x346 x347 x348 x349 x350 x351 x352 x353 x354 x355 x356 x357 x358 x359 x360 x361 x362 x363 x364 x365 x366 x367 x368 x369 x370 x371 x372 x373 x374 x375 x376 x377 x378 x379 x380 x381 x382 x383 x384 x385 x386 x387 x388 x389 x390 x391 x392 x393 x394 x395 x396 x397 x398 x399 x400 x401 x402 x403 x404 x405 x406 x407 x408 x409 x410 x411 x412 x413 x414 x415 x416 x417 x418 x419 x420 x421 x422 x423 x424 x425 x426 x427 x428 x429 x430 x431 x432 x433 x434 x435 x436 x437 x438 x439 x440 x441 x442 x443 x444 x445 x446 : Value} {K : Act → World → Prop} (hK : ∀ a w, Code.wp Try.prog (restG 27) (bodyPost Try.prog Try.f5 (FamPost w0)) a w → K a w) :
    Code.wp Try.prog (headC (restG 26)) (Exit.then K (bodyPost Try.prog Try.f5 (FamPost w0))) ⟨#[x0, .slice B mc dc, x2, x3, x4, .int .i64 (kind : Int), .int .i64 (n : Int), .float .f32 x, x8, x9, .float .f32 y, x11, x12, x13, x14, x15, x16, x17, x18, x19, x20, x21, x22, x23, x24, x25, x26, x27, x28, x29, x30, x31, x32, x33, x34, x35, x36, x37, x38, x39, x40, x41, x42, x43, x44, x45, x46, x47, x48, x49, x50, x51, x52, x53, x54, x55, x56, x57, x58, x59, x60, x61, x62, x63, x64, x65, x66, x67, x68, x69, x70, x71, x72, x73, x74, x75, x76, x77, x78, x79, x80, x81, x82, x83, x84, x85, x86, x87, x88, x89, x90, x91, x92, x93, x94, x95, x96, x97, x98, x99, x100, x101, x102, x103, x104, x105, x106, x107, x108, x109, x110, x111, x112, x113, x114, x115, x116, x117, x118, x119, x120, x121, x122, x123, x124, x125, x126, x127, x128, x129, x130, x131, x132, x133, x134, x135, x136, x137, x138, x139, x140, x141, x142, x143, x144, x145, x146, x147, x148, x149, x150, x151, x152, x153, x154, x155, x156, x157, x158, x159, x160, x161, x162, x163, x164, x165, x166, x167, x168, x169, x170, x171, x172, x173, x174, x175, x176, x177, x178, x179, x180, x181, x182, x183, x184, x185, x186, x187, x188, x189, x190, x191, x192, x193, x194, x195, x196, x197, x198, x199, x200, x201, x202, x203, x204, x205, x206, x207, x208, x209, x210, x211, x212, x213, x214, x215, x216, x217, x218, x219, x220, x221, x222, x223, x224, x225, x226, x227, x228, x229, x230, x231, x232, x233, x234, x235, x236, x237, x238, x239, x240, x241, x242, x243, x244, x245, x246, x247, x248, x249, x250, x251, x252, x253, x254, x255, x256, x257, x258, x259, x260, x261, x262, x263, x264, x265, x266, x267, x268, x269, x270, x271, x272, x273, x274, x275, x276, x277, x278, x279, x280, x281, x282, x283, x284, x285, x286, x287, x288, x289, x290, x291, x292, x293, x294, x295, x296, x297, x298, x299, x300, x301, x302, x303, x304, x305, x306, x307, x308, x309, x310, x311, x312, x313, x314, x315, x316, x317, x318, x319, x320, x321, x322, x323, x324, x325, x326, x327, x328, x329, x330, x331, x332, x333, x334, x335, x336, x337, x338, x339, x340, x341, x342, x343, x344, x345, x346, x347, x348, x349, x350, x351, x352, x353, x354, x355, x356, x357, x358, x359, x360, x361, x362, x363, x364, x365, x366, x367, x368, x369, x370, x371, x372, x373, x374, x375, x376, x377, x378, x379, x380, x381, x382, x383, x384, x385, x386, x387, x388, x389, x390, x391, x392, x393, x394, x395, x396, x397, x398, x399, x400, x401, x402, x403, x404, x405, x406, x407, x408, x409, x410, x411, x412, x413, x414, x415, x416, x417, x418, x419, x420, x421, x422, x423, x424, x425, x426, x427, x428, x429, x430, x431, x432, x433, x434, x435, x436, x437, x438, x439, x440, x441, x442, x443, x444, x445, x446], []⟩ w := by
  obtain ⟨c, hc⟩ : ∃ c, c = restG 27 := ⟨_, rfl⟩
  rw [← hc] at hK
  conv at hc => rhs; whnf
  subst hc
  conv => arg 2; whnf
  go_wp2_with fail
  have hb1 : Below w0.heap.size w0 (w.alloc (Obj.cells #[Value.float .f32 x, Value.float .f32 x] 36)) := hbel.alloc hbel.size _
  have hP := reads_pairF w x x
  refine (r8At_any B mc dc ys 44 44 8 _ (hB.below hb1) rfl (by omega) (by omega) (by omega)).mono ?_
  rintro e w' ⟨v, rfl, v0, v1, hw'⟩
  obtain rfl : w.alloc (Obj.cells #[Value.float .f32 x, Value.float .f32 x] 36) = w' := hw'.symm
  clear hw'
  go_wp2_with fail
  generalize w.alloc (Obj.cells #[Value.float .f32 x, Value.float .f32 x] 36) = w1 at *
  have hv2 : ∀ j, j < 2 → ValOk kind n (([x, x] : List Nat).getD j 0) (([y, y] : List Nat).getD j 0) := by
    intro j hj
    rcases (by omega : j = 0 ∨ j = 1) with rfl | rfl
    · exact hS.val
    · exact hS.val
  refine (valuesShared_any kind n [x, x] [y, y] _ 2 2 (1 + v) _ hk (by omega) hP (by omega) (by omega) (by omega) (by omega) rfl hv2).mono ?_
  rintro e w2 ⟨A2, c2, rfl, hO, hb2⟩
  obtain ⟨A', c', hv, hR⟩ := hO.slice
  cases hv
  obtain ⟨g, cap, hv2, _, _, _⟩ := hO.form (by simp)
  cases hv2
  obtain ⟨ad, e', hc⟩ := hR.cells (by simp)
  cases e'
  have d0 : w2.cell? ⟨g, 0, none⟩ = some (.float .f32 y) := by
    have := hc 0 (by simp)
    rw [Addr.add_lit, Nat.zero_add] at this
    exact this
  have d1 : w2.cell? ⟨g, 1, none⟩ = some (.float .f32 y) := by
    have := hc 1 (by simp)
    rw [Addr.add_lit, Nat.zero_add] at this
    exact this
  have he := hS.eq
  have hb3 := below_then hb1 hb2 hb1.size
  clear hc hR hO hb1 hb2 hbel hP hS
  go_wp2_with fail
  go_ret
  exact ⟨by simp [he], hb3⟩
end Go.Proofs.Ytdpogmibahaklaa
