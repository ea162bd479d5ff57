/- The statement on families: the walk of its sums, and of the weights that lead back. -/
import Derived.Test.YtdpogmibahaklaaM15
import Derived.Test.YtdpogmibahaklaaM11
import Derived.Deep.Cut
set_option linter.unusedVariables false
set_option linter.unusedSimpArgs false
namespace Go.Proofs.Ytdpogmibahaklaa
open Go.RowKit

/-- What is asked of the sum. -/
structure ToldOk (kind x : Nat) (ws : List Nat) (sum size : Nat) : Prop where
  val : ∃ y a g b, famSumF kind ws x = some y ∧ finB y = some true ∧ wide y = some a ∧ gapF a sum = some g ∧ o64 .mul 4562254508917369340 size = some b ∧ (FloatKind.f64.format.order g b == some Ordering.gt) = false
/-- What is asked of the weights that lead back. -/
structure BackOk (kind : Nat) (cs out back : List C) (size : Nat) : Prop where
  fin : ∀ z ∈ cs, FinC z
  poly : polyFamF kind cs = some out
  ok : ValC (out.take (trimN out cs.length))
  fam : famOfF kind (out.take (trimN out cs.length)) = some back
  bfin : ∀ z ∈ back, FinC z
  len : back.length = trimN out cs.length
  near : ∀ k, k < back.length → ∃ d b, farwF (back.getD k zero) (cs.getD k zero) = some d ∧ o64 .mul 4587366580439587226 size = some b ∧ (FloatKind.f64.format.order d b == some Ordering.gt) = false

theorem addAllF_len {w : C} {f out r : List C} (h : addAllF w f out = some r) : r.length = out.length := by
  refine stepsF_inv (fun s => s.length = out.length) ?_ _ _ _ _ rfl h
  intro i s s' hs h1
  simp only [Option.bind_eq_some_iff] at h1
  obtain ⟨c, _, d, _, h2⟩ := h1
  cases h2
  rw [List.length_set]; exact hs
theorem polyFamF_len {kind : Nat} {ws r : List C} (h : polyFamF kind ws = some r) : r.length = ws.length := by
  refine stepsF_inv (fun s => s.length = ws.length) ?_ _ _ _ _ (by simp) h
  intro i s s' hs h1
  simp only [Option.bind_eq_some_iff] at h1
  obtain ⟨f, _, h2⟩ := h1
  rw [addAllF_len h2]; exact hs

set_option maxRecDepth 1000000 in
set_option maxHeartbeats 4000000 in
theorem restSums {w0 w : World} {B : Option Addr} {mc dc kind n x y c gw cw gc cc sum size : Nat} {ys : List Int} {ws pts fit : List Nat} {cs out back : List C}
    (hB : ReadsB w0 B mc ys) (hbel : Below w0.heap.size w0 w) (hS : Shown kind n x y) (hk : kind ≤ 4) (n1 : 1 ≤ n) (n6 : n ≤ 6)
    (hW : ReadsF w (some ⟨gw, 0, none⟩) c ws) (hC : ReadsC w (some ⟨gc, 0, none⟩) c cs) (c1 : 1 ≤ c) (c6 : c ≤ 6) (hP : PointsOk ws pts fit) (hw : ∀ y ∈ ws, finB y = some true)
    (hx : finB x = some true) (hT : ToldOk kind x ws sum size) (hBk : BackOk kind cs out back size) (hF : ∀ k, k < c → ∃ f, FamOk kind k f)
    {x0 x2 x3 x4 x8 x9 x11 x12 x13 x14 x15 x16 x17 x18 x19 x20 x21 x27 x28 x29 x30 x31 x32 x33 x34 x35 x36 x37 x38 x39 x40 x41 x42 x43 x44 x45 x46 x47 x48 x49 x50 x51 x52 x53 x54 x55 x56 x57 x58 x59 x60 x61 x62 x63 x64 x65 x66 x67 x68 x69 x70 x71 x72 x73 x74 x75 x76 x77 x78 x79 x80 x81 x82 x83 x84 x85 x86 x87 x88 x89 x90 x91 x92 x93 x94 x95 x96 x97 x98 x99 x100 x101 x102 x103 x104 x105 x106 x107 x108 x109 x110 x111 x112 x113 x114 x115 x116 x117 x118 x119 x120 x121 x122 x123 x124 x125 x126 x127 x128 x129 x130 x131 x132 x133 x134 x135 x136 x137 x138 x139 x140 x141 x142 x143 x144 x145 x146 x147 x148 x149 x150 x151 x152 x153 x154 x155 x156 x157 x158 x159 x160 x161 x162 x163 x164 x165 x166 x167 x168 x169 x170 x171 x172 x173 x174 x175 x176 x177 x178 x179 x180 x181 x182 x183 x184 x185 x186 x187 x188 x189 x190 x191 x192 x193 x194 x195 x196 x197 x198 x199 x200 x201 x202 x203 x204 x205 x206 x207 x208 x209 x210 x211 x212 x213 x214 x215 x216 x217 x218 x219 x220 x221 x222 x223 x224 x225 x226 x227 x228 x229 x230 x231 x232 x233 x234 x235 x236 x237 x238 x239 x240 x241 x242 x243 x244 x245 x246 x247 x248 x249 x250 x251 x252 x253 x254 x255 x256 x257 x258 x259 x260 x261 x262 x263 x264 x265 x266 x267 x268 x269 x270 x271 x272 x273 x274 x275 x276 x277 x278 x279 x280 x281 x282 x283 x284 x285 x286 x287 x288 x289 x290 x291 x292 x293 x294 x295 x296 x297 x298 x299 x300 x301 x302 x303 x304 x305 x306 x307 x308 x309 x310 x311 x312 x313 x314 x315 x316 x317 x318 x319 x320 x321 x322 x323 x324 x325 x326 x327 x328 x329 x330 x331 x332 x333 x334 x335 x336 x337 x338 x339 x340 x341 x342 x343 x344 x345 x346 x347 x348 x349 x350 x351 x352 x353 x354 x355 x356 x357 x358 x359 x360 x361 x362 x363 x364 x365 x366 x367 x368 x369 x370 x371 x372 x373 x374 x375 x376 x377 x378 x379 x380 x381 x382 x383 x384 x385 x386 x387 x388 x389 x390 x391 x392 x393 x394 x395 x396 x397 x398 x399 x400 x401 x402 x403 x404 x405 x406 x407 x408 x409 x410 x411 x412 x413 x414 x415 x416 x417 x418 x419 x420 x421 x422 x423 x424 x425 x426 x427 x428 x429 x430 x431 x432 x433 x434 x435 x436 x437 x438 x439 x440 x441 x442 x443 x444 x445 x446 : Value} {K : Act → World → Prop} (hK : ∀ a w, Code.wp Try.prog (restG 18) (bodyPost Try.prog Try.f5 (FamPost w0)) a w → K a w) :
    Code.wp Try.prog (headC (restG 17)) (Exit.then K (bodyPost Try.prog Try.f5 (FamPost w0))) ⟨#[x0, .slice B mc dc, x2, x3, x4, .int .i64 (kind : Int), .int .i64 (n : Int), .float .f32 x, x8, x9, .float .f32 y, x11, x12, x13, x14, x15, x16, x17, x18, x19, x20, x21, .int .i64 (c : Int), .slice (some ⟨gw, 0, none⟩) c cw, .slice (some ⟨gc, 0, none⟩) c cc, .float .f64 sum, .float .f64 size, x27, x28, x29, x30, x31, x32, x33, x34, x35, x36, x37, x38, x39, x40, x41, x42, x43, x44, x45, x46, x47, x48, x49, x50, x51, x52, x53, x54, x55, x56, x57, x58, x59, x60, x61, x62, x63, x64, x65, x66, x67, x68, x69, x70, x71, x72, x73, x74, x75, x76, x77, x78, x79, x80, x81, x82, x83, x84, x85, x86, x87, x88, x89, x90, x91, x92, x93, x94, x95, x96, x97, x98, x99, x100, x101, x102, x103, x104, x105, x106, x107, x108, x109, x110, x111, x112, x113, x114, x115, x116, x117, x118, x119, x120, x121, x122, x123, x124, x125, x126, x127, x128, x129, x130, x131, x132, x133, x134, x135, x136, x137, x138, x139, x140, x141, x142, x143, x144, x145, x146, x147, x148, x149, x150, x151, x152, x153, x154, x155, x156, x157, x158, x159, x160, x161, x162, x163, x164, x165, x166, x167, x168, x169, x170, x171, x172, x173, x174, x175, x176, x177, x178, x179, x180, x181, x182, x183, x184, x185, x186, x187, x188, x189, x190, x191, x192, x193, x194, x195, x196, x197, x198, x199, x200, x201, x202, x203, x204, x205, x206, x207, x208, x209, x210, x211, x212, x213, x214, x215, x216, x217, x218, x219, x220, x221, x222, x223, x224, x225, x226, x227, x228, x229, x230, x231, x232, x233, x234, x235, x236, x237, x238, x239, x240, x241, x242, x243, x244, x245, x246, x247, x248, x249, x250, x251, x252, x253, x254, x255, x256, x257, x258, x259, x260, x261, x262, x263, x264, x265, x266, x267, x268, x269, x270, x271, x272, x273, x274, x275, x276, x277, x278, x279, x280, x281, x282, x283, x284, x285, x286, x287, x288, x289, x290, x291, x292, x293, x294, x295, x296, x297, x298, x299, x300, x301, x302, x303, x304, x305, x306, x307, x308, x309, x310, x311, x312, x313, x314, x315, x316, x317, x318, x319, x320, x321, x322, x323, x324, x325, x326, x327, x328, x329, x330, x331, x332, x333, x334, x335, x336, x337, x338, x339, x340, x341, x342, x343, x344, x345, x346, x347, x348, x349, x350, x351, x352, x353, x354, x355, x356, x357, x358, x359, x360, x361, x362, x363, x364, x365, x366, x367, x368, x369, x370, x371, x372, x373, x374, x375, x376, x377, x378, x379, x380, x381, x382, x383, x384, x385, x386, x387, x388, x389, x390, x391, x392, x393, x394, x395, x396, x397, x398, x399, x400, x401, x402, x403, x404, x405, x406, x407, x408, x409, x410, x411, x412, x413, x414, x415, x416, x417, x418, x419, x420, x421, x422, x423, x424, x425, x426, x427, x428, x429, x430, x431, x432, x433, x434, x435, x436, x437, x438, x439, x440, x441, x442, x443, x444, x445, x446], []⟩ w := by
  obtain ⟨cd, hc⟩ : ∃ c, c = restG 18 := ⟨_, rfl⟩
  rw [← hc] at hK
  conv at hc => rhs; whnf
  subst hc
  conv => arg 2; whnf
  obtain ⟨v, a, g, b, hv, hvf, ha, hg, hb, hgt⟩ := hT.val
  have f1 := @run_wide _ _ ha
  have f2 := @run_o64 _ _ _ _ hb
  have hl := hC.len
  have hsl : SerC cs := ⟨by omega, by omega, hBk.fin⟩
  have bp := hBk.poly
  have bo := hBk.ok
  have bf := hBk.fam
  have bn := hBk.near
  have bl := hBk.len
  have bb := hBk.bfin
  have tl := trimN_le out c
  have tp := trimN_pos out c c1
  rw [hl] at bo bf bl
  have Bn := Lib.hid bn
  have hll := polyFamF_len bp
  rw [hl] at hll
  clear hT ha hb hBk bn hl
  go_wp2_with fail
  refine Calls.drawn (familySum_any kind x ws (some ⟨gw, 0, none⟩) c cw v _ hk hW c1 (by omega) hx hw hv hvf) ?_
  intro w1 hD1
  have hC1 := hC.drawn hD1
  have hW1 := hW.drawn hD1
  have hb1 := hbel.trans (hD1.below _)
  clear hC hW hbel hv
  go_wp2_with fail
  refine (polyFam_any kind cs (some ⟨gc, 0, none⟩) c cc out _ hk hC1 hsl hF bp bo).mono ?_
  rintro e w2 ⟨pd, pc, rfl, hpd, hRp, hb2⟩
  have htl : (out.take (trimN out c)).length = trimN out c := by rw [List.length_take]; omega
  rw [htl] at hRp ⊢
  have hC2 := hC1.below hb2
  have hW2 := hW1.below hb2
  have hb12 := below_seq hb1 hb2
  have hal : Below w2.heap.size w2 (w2.alloc (Obj.cells #[.slice (some pd) (trimN out c) pc] 29)) := (Below.refl _ _).alloc (Nat.le_refl _) _
  have hC3 := hC2.below hal
  have hW3 := hW2.below hal
  have hR3 := hRp.below hal
  have hb3 := below_seq hb12 hal
  have hx3 : (w2.alloc (Obj.cells #[.slice (some pd) (trimN out c) pc] 29)).cell? ⟨w2.heap.size, 0, none⟩ = some (.slice (some pd) (trimN out c) pc) := by simp
  clear hC1 hW1 hb1 hb2 hb12 hal hC2 hW2 hRp bp
  have Htl := Lib.hid htl
  have Bl := Lib.hid bl
  clear htl bl
  generalize trimN out c = t at *
  go_wp2_with fail
  generalize w2.alloc (Obj.cells #[.slice (some pd) t pc] 29) = w3 at *
  refine (famOf_any kind (out.take t) pd t pc back _ hk hR3 bo (fun k hk => hF k (by omega)) bf bb).mono ?_
  rintro e w4 ⟨Ab, cb, rfl, hO4, hb4⟩
  rw [Bl.out] at hO4 ⊢
  obtain ⟨gb, capb, hvb, _, _, _⟩ := hO4.form (by rw [Bl.out]; exact tp)
  cases hvb
  have hRb : ReadsC w4 (some ⟨gb, 0, none⟩) back.length back := by
    have := hO4.reads Bl.out
    rw [← Bl.out] at this
    exact this
  have hbl : back.length ≤ c := by rw [Bl.out]; exact tl
  have hbm : back.length ≤ 9223372036854775807 := hRb.most
  have Bx := Lib.hid hbl
  clear hbl
  have hC4 := hC3.below hb4
  have hW4 := hW3.below hb4
  have hb5 := below_seq hb3 hb4
  have hx4 := cell_below hb4 hx3
  clear hO4 hC3 hW3 hb3 hx3 hb4 hR3 bo bf bb hsl
  go_wp2_with (first | (go_at_call 44; refine Calls.same (gap_any a sum g _ hg) ?_) | simp only [f1, f2, hgt])
  clear hx4 Bl Htl tl tp
  generalize hbk : back.length = m at *
  go_loopw [37] (fun i wr => ∃ (j : Nat), j ≤ m ∧ i = .int .i64 (j : Int) ∧ Drawn w4 wr) (fun i _ => m - (intOf i).toNat)
  case atStart => exact ⟨0, by omega, rfl, Drawn.refl _⟩
  case round =>
    obtain ⟨j, hj, rfl, hD⟩ := hrel
    by_cases hlt : j < m
    · have e1 : (j : Int) < (m : Int) := by omega
      have hjc : (j : Int) < (c : Int) := by have := Bx.out; omega
      obtain ⟨d, b2, hd, hb2, hgt2⟩ := Bn.out j hlt
      obtain ⟨ad', e', hc'⟩ := (hRb.drawn hD).cells (by omega)
      cases e'
      have d0 := hc' j hlt
      rw [Addr.add_lit, Nat.zero_add] at d0
      clear hc'
      obtain ⟨ad', e', hc'⟩ := (hC4.drawn hD).cells (by omega)
      cases e'
      have d1 := hc' j (by omega)
      rw [Addr.add_lit, Nat.zero_add] at d1
      clear hc'
      generalize back.getD j zero = p at d0 hd
      generalize cs.getD j zero = q at d1 hd
      unfold cv at d0 d1
      have f3 := @run_o64 _ _ _ _ hb2
      clear hb2 hB hb5 hS hP
      go_wp2
      go_quiet (first | (go_at_call 50; exact Calls.quiet_of_same (far_any p q d _ hd)) | simp only [f3, hgt2])
      go_wp2
      go_roundw
      case rel => exact ⟨j + 1, by omega, by go_num, hD.step nq⟩
      case measure => simp [intOf]; omega
    · have e1 : ¬ (j : Int) < (m : Int) := by omega
      have hb6 := hb5.trans (hD.below _)
      have hW6 := hW4.drawn hD
      go_upto_region 45 with (fail)
      exact restPoints hB hb6 hS hk n1 n6 hW6 c1 c6 hP hw (by assumption)
end Go.Proofs.Ytdpogmibahaklaa
