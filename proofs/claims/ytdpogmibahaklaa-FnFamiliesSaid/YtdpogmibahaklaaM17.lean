/- The statement on families: the walk of its draws. -/
import Derived.Test.YtdpogmibahaklaaM16
import Derived.Deep.Cut
set_option linter.unusedVariables false
set_option linter.unusedSimpArgs false
namespace Go.Proofs.Ytdpogmibahaklaa
open Go.RowKit

/-- The weight that a byte chooses. -/
def weightF (v : Nat) : Option Nat := o32 .quo (floatOfInt .f32 ((v : Int) - 8)) 1082130432
/-- The sum and the size, one weight further. -/
def sumSizeF (w y : Nat) (s : Nat × Nat) : Option (Nat × Nat) :=
  (wide w).bind fun a => (wide y).bind fun b => (o64 .mul a b).bind fun m => (o64 .add s.1 m).bind fun sum => (gapF a 0).bind fun g => (gapF b 0).bind fun h => (o64 .add 4607182418800017408 h).bind fun i =>
  (o64 .mul g i).bind fun j => (o64 .mul j 4621819117588971520).bind fun k => (o64 .add s.2 k).bind fun size => some (sum, size)
/-- What is asked of the draws. -/
structure DrawsOk (kind x c : Nat) (vals : List Nat) : Prop where
  val : ∀ k, k < c → ValOk kind k x (vals.getD k 0)
  weight : ∀ v, v < 17 → ∃ w, weightF v = some w ∧ finB w = some true
  all : ∀ ws : List Nat, ws.length = c → (∀ w ∈ ws, ∃ v, v < 17 ∧ weightF v = some w) → ∃ sum size out back pts fit, stepsF (fun k s => sumSizeF (ws.getD k 0) (vals.getD k 0) s) c 0 (0, 4607182418800017408) = some (sum, size) ∧
    ToldOk kind x ws sum size ∧ BackOk kind (ws.map fun w => (w, 0)) out back size ∧ PointsOk ws pts fit
  fam : ∀ k, k < c → ∃ f, FamOk kind k f

set_option maxRecDepth 1000000 in
set_option maxHeartbeats 4000000 in
theorem restDraws {w0 w : World} {A B : Option Addr} {nc ac mc dc kind n x y : Nat} {zs ys : List Int}
    (hA : ReadsB w0 A nc zs) (hB : ReadsB w0 B mc ys) (hbel : Below w0.heap.size w0 w) (hS : Shown kind n x y) (hk : kind ≤ 4) (n1 : 1 ≤ n) (n6 : n ≤ 6)
    (hx : finB x = some true) (hdr : ∀ c, 1 ≤ c → c ≤ 6 → ∃ vals, DrawsOk kind x c vals)
    {x2 x3 x4 x8 x9 x11 x12 x13 x14 x15 x16 x17 x18 x19 x20 x21 x22 x23 x24 x25 x26 x27 x28 x29 x30 x31 x32 x33 x34 x35 x36 x37 x38 x39 x40 x41 x42 x43 x44 x45 x46 x47 x48 x49 x50 x51 x52 x53 x54 x55 x56 x57 x58 x59 x60 x61 x62 x63 x64 x65 x66 x67 x68 x69 x70 x71 x72 x73 x74 x75 x76 x77 x78 x79 x80 x81 x82 x83 x84 x85 x86 x87 x88 x89 x90 x91 x92 x93 x94 x95 x96 x97 x98 x99 x100 x101 x102 x103 x104 x105 x106 x107 x108 x109 x110 x111 x112 x113 x114 x115 x116 x117 x118 x119 x120 x121 x122 x123 x124 x125 x126 x127 x128 x129 x130 x131 x132 x133 x134 x135 x136 x137 x138 x139 x140 x141 x142 x143 x144 x145 x146 x147 x148 x149 x150 x151 x152 x153 x154 x155 x156 x157 x158 x159 x160 x161 x162 x163 x164 x165 x166 x167 x168 x169 x170 x171 x172 x173 x174 x175 x176 x177 x178 x179 x180 x181 x182 x183 x184 x185 x186 x187 x188 x189 x190 x191 x192 x193 x194 x195 x196 x197 x198 x199 x200 x201 x202 x203 x204 x205 x206 x207 x208 x209 x210 x211 x212 x213 x214 x215 x216 x217 x218 x219 x220 x221 x222 x223 x224 x225 x226 x227 x228 x229 x230 x231 x232 x233 x234 x235 x236 x237 x238 x239 x240 x241 x242 x243 x244 x245 x246 x247 x248 x249 x250 x251 x252 x253 x254 x255 x256 x257 x258 x259 x260 x261 x262 x263 x264 x265 x266 x267 x268 x269 x270 x271 x272 x273 x274 x275 x276 x277 x278 x279 x280 x281 x282 x283 x284 x285 x286 x287 x288 x289 x290 x291 x292 x293 x294 x295 x296 x297 x298 x299 x300 x301 x302 x303 x304 x305 x306 x307 x308 x309 x310 x311 x312 x313 x314 x315 x316 x317 x318 x319 x320 x321 x322 x323 x324 x325 x326 x327 x328 x329 x330 x331 x332 x333 x334 x335 x336 x337 x338 x339 x340 x341 x342 x343 x344 x345 x346 x347 x348 x349 x350 x351 x352 x353 x354 x355 x356 x357 x358 x359 x360 x361 x362 x363 x364 x365 x366 x367 x368 x369 x370 x371 x372 x373 x374 x375 x376 x377 x378 x379 x380 x381 x382 x383 x384 x385 x386 x387 x388 x389 x390 x391 x392 x393 x394 x395 x396 x397 x398 x399 x400 x401 x402 x403 x404 x405 x406 x407 x408 x409 x410 x411 x412 x413 x414 x415 x416 x417 x418 x419 x420 x421 x422 x423 x424 x425 x426 x427 x428 x429 x430 x431 x432 x433 x434 x435 x436 x437 x438 x439 x440 x441 x442 x443 x444 x445 x446 : Value} {K : Act → World → Prop} (hK : ∀ a w, Code.wp Try.prog (restG 12) (bodyPost Try.prog Try.f5 (FamPost w0)) a w → K a w) :
    Code.wp Try.prog (headC (restG 11)) (Exit.then K (bodyPost Try.prog Try.f5 (FamPost w0))) ⟨#[.slice A nc ac, .slice B mc dc, x2, x3, x4, .int .i64 (kind : Int), .int .i64 (n : Int), .float .f32 x, x8, x9, .float .f32 y, x11, x12, x13, x14, x15, x16, x17, x18, x19, x20, x21, x22, x23, x24, x25, x26, x27, x28, x29, x30, x31, x32, x33, x34, x35, x36, x37, x38, x39, x40, x41, x42, x43, x44, x45, x46, x47, x48, x49, x50, x51, x52, x53, x54, x55, x56, x57, x58, x59, x60, x61, x62, x63, x64, x65, x66, x67, x68, x69, x70, x71, x72, x73, x74, x75, x76, x77, x78, x79, x80, x81, x82, x83, x84, x85, x86, x87, x88, x89, x90, x91, x92, x93, x94, x95, x96, x97, x98, x99, x100, x101, x102, x103, x104, x105, x106, x107, x108, x109, x110, x111, x112, x113, x114, x115, x116, x117, x118, x119, x120, x121, x122, x123, x124, x125, x126, x127, x128, x129, x130, x131, x132, x133, x134, x135, x136, x137, x138, x139, x140, x141, x142, x143, x144, x145, x146, x147, x148, x149, x150, x151, x152, x153, x154, x155, x156, x157, x158, x159, x160, x161, x162, x163, x164, x165, x166, x167, x168, x169, x170, x171, x172, x173, x174, x175, x176, x177, x178, x179, x180, x181, x182, x183, x184, x185, x186, x187, x188, x189, x190, x191, x192, x193, x194, x195, x196, x197, x198, x199, x200, x201, x202, x203, x204, x205, x206, x207, x208, x209, x210, x211, x212, x213, x214, x215, x216, x217, x218, x219, x220, x221, x222, x223, x224, x225, x226, x227, x228, x229, x230, x231, x232, x233, x234, x235, x236, x237, x238, x239, x240, x241, x242, x243, x244, x245, x246, x247, x248, x249, x250, x251, x252, x253, x254, x255, x256, x257, x258, x259, x260, x261, x262, x263, x264, x265, x266, x267, x268, x269, x270, x271, x272, x273, x274, x275, x276, x277, x278, x279, x280, x281, x282, x283, x284, x285, x286, x287, x288, x289, x290, x291, x292, x293, x294, x295, x296, x297, x298, x299, x300, x301, x302, x303, x304, x305, x306, x307, x308, x309, x310, x311, x312, x313, x314, x315, x316, x317, x318, x319, x320, x321, x322, x323, x324, x325, x326, x327, x328, x329, x330, x331, x332, x333, x334, x335, x336, x337, x338, x339, x340, x341, x342, x343, x344, x345, x346, x347, x348, x349, x350, x351, x352, x353, x354, x355, x356, x357, x358, x359, x360, x361, x362, x363, x364, x365, x366, x367, x368, x369, x370, x371, x372, x373, x374, x375, x376, x377, x378, x379, x380, x381, x382, x383, x384, x385, x386, x387, x388, x389, x390, x391, x392, x393, x394, x395, x396, x397, x398, x399, x400, x401, x402, x403, x404, x405, x406, x407, x408, x409, x410, x411, x412, x413, x414, x415, x416, x417, x418, x419, x420, x421, x422, x423, x424, x425, x426, x427, x428, x429, x430, x431, x432, x433, x434, x435, x436, x437, x438, x439, x440, x441, x442, x443, x444, x445, x446], []⟩ w := by
  obtain ⟨cd, hc⟩ : ∃ c, c = restG 12 := ⟨_, rfl⟩
  rw [← hc] at hK
  conv at hc => rhs; whnf
  subst hc
  conv => arg 2; whnf
  obtain ⟨i0, hi, hz0, hz1, hz2⟩ := info_parts Try.info36
  obtain ⟨j0, hji, hy0, hy1, hy2⟩ := info_parts Try.info26
  go_wp2_with fail
  refine (r8At_any B mc dc ys 43 43 6 _ (hB.below hbel) rfl (by omega) (by omega) (by omega)).mono ?_
  rintro e w' ⟨v, rfl, v0, v1, hw'⟩
  obtain rfl : w = w' := hw'.symm
  obtain ⟨p, rfl⟩ := Int.eq_ofNat_of_zero_le v0
  clear hw'
  go_wp2_with fail
  generalize hN : (1 + (p : Int)) = N
  obtain ⟨c, rfl⟩ : ∃ c : Nat, N = (c : Int) := ⟨1 + p, by omega⟩
  have c1 : 1 ≤ c := by omega
  have c6 : c ≤ 6 := by omega
  clear hN v0 v1
  obtain ⟨vals, hdv, hdw, hda, hdf⟩ := hdr c c1 c6
  have Hdv := Lib.hid hdv
  have Hdw := Lib.hid hdw
  have Hda := Lib.hid hda
  have Hdf := Lib.hid hdf
  clear hdr hdv hdw hda hdf
  have hOw : OwnF (w.alloc (Obj.cells #[] 36)) w0.heap.size (.slice (some ⟨w.heap.size, 0, none⟩) 0 0) [] := ⟨World.ownsRow_lit w #[] 0 hbel.size (by unfold maxLen; omega) rfl⟩
  have hb1 : Below w0.heap.size w0 (w.alloc (Obj.cells #[] 36)) := hbel.alloc hbel.size _
  have hs1 : (w.alloc (Obj.cells #[] 36)).heap.size = w.heap.size + 1 := by simp
  rw [← hs1]
  generalize w.alloc (Obj.cells #[] 36) = w1 at *
  have hOc : OwnC (w1.alloc (Obj.cells #[] 26)) w0.heap.size (.slice (some ⟨w1.heap.size, 0, none⟩) 0 0) [] := ⟨World.ownsRow_lit w1 #[] 0 hb1.size (by unfold maxLen; omega) rfl⟩
  have hOw2 := hOw.below ((Below.refl w1.heap.size w1).alloc (Nat.le_refl _) (Obj.cells #[] 26))
  have hb2 : Below w0.heap.size w0 (w1.alloc (Obj.cells #[] 26)) := hb1.alloc hb1.size _
  clear hOw hb1 hbel hs1
  generalize w1.alloc (Obj.cells #[] 26) = w2 at *
  go_loopw [23, 24, 25, 26, 27, 28, 29, 30] (fun V1 V2 S1 S2 i _ _ _ wr => ∃ (j s1 s2 : Nat) (ws : List Nat), j ≤ c ∧ ws.length = j ∧ i = .int .i64 (j : Int) ∧ S1 = .float .f64 s1 ∧ S2 = .float .f64 s2 ∧ (∀ w ∈ ws, ∃ v, v < 17 ∧ weightF v = some w) ∧
    (∀ ws' : List Nat, ws'.take j = ws → stepsF (fun k s => sumSizeF (ws'.getD k 0) (vals.getD k 0) s) c 0 (0, 4607182418800017408) = stepsF (fun k s => sumSizeF (ws'.getD k 0) (vals.getD k 0) s) (c - j) j (s1, s2)) ∧
    OwnF wr w0.heap.size V1 ws ∧ OwnC wr w0.heap.size V2 (ws.map fun w => (w, 0)) ∧ Below w0.heap.size w0 wr) (fun _ _ _ _ i _ _ _ _ => c - (intOf i).toNat)
  case atStart => exact ⟨0, 0, 4607182418800017408, [], by omega, rfl, rfl, rfl, rfl, by simp, fun ws' _ => rfl, hOw2, hOc, hb2⟩
  case round =>
    clear hOw2 hOc hb2
    obtain ⟨j, s1, s2, ws, hj, hlen, rfl, rfl, rfl, hws, hst, hO, hC, hb⟩ := hrel
    by_cases hlt : j < c
    · have e1 : (j : Int) < (c : Int) := by omega
      go_wp2_with fail
      refine (r8At_any A nc ac zs j (j : Int) 17 _ (hA.below hb) rfl (by omega) (by omega) (by omega)).mono ?_
      rintro e w' ⟨v, rfl, v0, v1, hw'⟩
      obtain rfl : wr = w' := hw'.symm
      obtain ⟨v, rfl⟩ := Int.eq_ofNat_of_zero_le v0
      clear hw'
      have v2 : v < 17 := by omega
      obtain ⟨wt, hwt, hwf⟩ := Hdw.out v v2
      have hval := Hdv.out j hlt
      have hws' : ∀ u ∈ ws ++ [wt], ∃ v, v < 17 ∧ weightF v = some u := by
        intro u hu
        rcases List.mem_append.1 hu with h | h
        · exact hws u h
        · rw [List.mem_singleton] at h; rw [h]; exact ⟨v, v2, hwt⟩
      have hstep : ∃ s', sumSizeF wt (vals.getD j 0) (s1, s2) = some s' := by
        have hf : ∀ u ∈ ws ++ List.replicate (c - j) wt, ∃ v, v < 17 ∧ weightF v = some u := by
          intro u hu
          rcases List.mem_append.1 hu with h | h
          · exact hws u h
          · rw [(List.mem_replicate.1 h).2]; exact ⟨v, v2, hwt⟩
        obtain ⟨sm, sz, _, _, _, _, h1, _⟩ := Hda.out (ws ++ List.replicate (c - j) wt) (by rw [List.length_append, List.length_replicate]; omega) hf
        rw [hst _ (by rw [← hlen, List.take_left])] at h1
        obtain ⟨s', h2, _⟩ := stepsF_at h1 hlt
        refine ⟨s', ?_⟩
        rw [← h2, List.getD_eq_getElem?_getD (l := ws ++ _), List.getElem?_append_right (by omega), hlen, Nat.sub_self, List.getElem?_replicate, if_pos (by omega)]
        rfl
      obtain ⟨⟨t1, t2⟩, hstep⟩ := hstep
      have hst' : ∀ ws' : List Nat, ws'.take (j + 1) = ws ++ [wt] → stepsF (fun k s => sumSizeF (ws'.getD k 0) (vals.getD k 0) s) c 0 (0, 4607182418800017408) = stepsF (fun k s => sumSizeF (ws'.getD k 0) (vals.getD k 0) s) (c - (j + 1)) (j + 1) (t1, t2) := by
        intro ws' h
        have h1 : ws'.take j = ws := by
          have := congrArg (List.take j) h
          rw [List.take_take, Nat.min_eq_left (by omega), ← hlen, List.take_left] at this
          rw [← hlen]; exact this
        have h2 : ws'.getD j 0 = wt := by
          have h3 : (ws'.take (j + 1))[j]? = some wt := by rw [h, List.getElem?_append_right (by omega), hlen, Nat.sub_self]; rfl
          rw [List.getElem?_take_of_lt (by omega)] at h3
          rw [List.getD_eq_getElem?_getD, h3]; rfl
        rw [hst ws' h1, show c - j = (c - (j + 1)) + 1 by omega]
        show (sumSizeF (ws'.getD j 0) (vals.getD j 0) (s1, s2)).bind _ = _
        rw [h2, hstep]
        rfl
      have Hst := Lib.hid hst'
      have Hws := Lib.hid hws'
      clear hst hws hst' hws'
      obtain ⟨q1, q2, row, q3, q4⟩ := hval
      generalize vals.getD j 0 = yv at q2 q4 hstep
      simp only [sumSizeF, Option.bind_eq_some_iff] at hstep
      obtain ⟨a, ha, b, hbb, m, hm, sm, hsm, g, hg, h, hh, i, hi2, jj, hjj, k, hkk, sz, hsz, hs⟩ := hstep
      cases hs
      unfold weightF at hwt
      have f1 := @run_o32 _ _ _ _ hwt
      have f2 := @run_wide _ _ ha
      have f3 := @run_wide _ _ hbb
      have f4 := @run_o64 _ _ _ _ hm
      have f5 := @run_o64 _ _ _ _ hsm
      have f6 := @run_o64 _ _ _ _ hi2
      have f7 := @run_o64 _ _ _ _ hjj
      have f8 := @run_o64 _ _ _ _ hkk
      have f9 := @run_o64 _ _ _ _ hsz
      have Hlen := Lib.hid hlen
      clear hwt ha hbb hm hsm hi2 hjj hkk hsz hlen v0 v1
      go_wp2_with (simp only [f1])
      refine Calls.below (familyAt_any kind j x yv row _ hk (by omega) q1 q3 q4 q2) ?_
      intro w4 hb4
      have hO4 := hO.below hb4
      have hC4 := hC.below hb4
      have hb5 := below_then hb hb4 hb.size
      have hsz5 := hb5.size
      clear hO hC hb hb4
      go_wp2_with (at_builtin; refine wpList_append_own _ rfl (.tmp 232) (.tmp 234) 51 rfl w0.heap.size 36 i0 _ 1 4 Try.underlying51 hi hz0 hz1 hz2 rfl (by decide) _ ws.length (ws.map fv) rfl (hO4.out.alloc _) ⟨w4.heap.size, 0, none⟩ 1 1 [fv wt] rfl rfl ?c1 ?c2 ?c3 ?c4 ?c5 ?_)
      case c1 => first | exact cell_one_new _ _ _ | exact fun j u h => h
      case c2 => first | exact rfl | (intro u hu; simp at hu; subst hu; rfl)
      case c3 => have := Hlen.out; unfold maxLen; omega
      case c4 => have := Hlen.out; omega
      case c5 => first | omega | (simp; omega)
      intro v' w5 hown hgrow _
      have hO5 := OwnF.appended hown
      have hal : Below w4.heap.size w4 (w4.alloc (Obj.cells #[Value.float .f32 wt] 36)) := (Below.refl _ _).alloc (Nat.le_refl _) _
      have hC5 : OwnC w5 w0.heap.size _ _ := ⟨(hC4.below hal).out.kept hgrow (rows_apart (hC4.below hal).out (hO4.out.alloc _) (by decide))⟩
      have hb6 := hO4.grown hb5 hsz5 _ hgrow
      have hsz6 := hb6.size
      clear hown hgrow hal hO4 hC4 hb5
      go_wp2_with (at_builtin; refine wpList_append_own _ rfl (.tmp 236) (.tmp 239) 24 rfl w0.heap.size 26 j0 _ 1 8 Try.underlying24 hji hy0 hy1 hy2 rfl (by decide) _ (ws.map fun w => ((w, 0) : C)).length ((ws.map fun w => ((w, 0) : C)).map cv) rfl (hC5.out.alloc _) ⟨w5.heap.size, 0, none⟩ 1 1 [cv (wt, 0)] rfl rfl ?c1 ?c2 ?c3 ?c4 ?c5 ?_)
      case c1 => first | exact cell_one_new _ _ _ | exact fun j u h => h
      case c2 => first | exact rfl | (intro u hu; simp at hu; subst hu; rfl)
      case c3 => have := Hlen.out; rw [List.length_map]; unfold maxLen; omega
      case c4 => have := Hlen.out; rw [List.length_map]; omega
      case c5 => first | omega | (simp; omega)
      intro v'' w6 hown hgrow _
      have hC6 : OwnC w6 w0.heap.size v'' ((ws.map fun w => ((w, 0) : C)) ++ [(wt, 0)]) := ⟨by rw [List.length_append, List.length_map, List.map_append, List.map_map]; exact hown⟩
      have hal : Below w5.heap.size w5 (w5.alloc (Obj.cells #[Value.complex .f32 wt 0] 26)) := (Below.refl _ _).alloc (Nat.le_refl _) _
      have hO6 : OwnF w6 w0.heap.size _ _ := ⟨(hO5.below hal).out.kept hgrow (rows_apart (hO5.below hal).out (hC5.out.alloc _) (by decide))⟩
      have hb7 := hC5.grown hb6 hsz6 _ hgrow
      have hC7 : OwnC w6 w0.heap.size v'' ((ws ++ [wt]).map fun w => (w, 0)) := by rw [List.map_append]; exact hC6
      have hl5 : (ws ++ [wt]).length = j + 1 := by rw [List.length_append, Hlen.out]; rfl
      clear hown hgrow hal hC6 hC5 hO5 hb6
      go_wp2_with (simp only [f2, f3, f4, f5, f6, f7, f8, f9])
      refine Calls.same (gap_any a 0 g _ hg) ?_
      go_wp2_with (simp only [f2, f3, f4, f5, f6, f7, f8, f9])
      refine Calls.same (gap_any b 0 h _ hh) ?_
      go_wp2_with (simp only [f2, f3, f4, f5, f6, f7, f8, f9])
      go_roundw
      case rel => exact ⟨j + 1, t1, t2, ws ++ [wt], by omega, hl5, by go_num, rfl, rfl, Hws.out, Hst.out, hO6, hC7, hb7⟩
      case measure => simp [intOf]; omega
    · have e1 : ¬ (j : Int) < (c : Int) := by omega
      obtain rfl : j = c := by omega
      obtain ⟨sm, sz, out, back, pts, fit, h1, hT, hBk, hP⟩ := Hda.out ws hlen hws
      rw [hst ws (by rw [← hlen, List.take_length]), Nat.sub_self] at h1
      have h2 := stepsF_zero h1
      cases h2
      obtain ⟨gw, cw, hvw, _, _, _⟩ := hO.form (by omega)
      obtain ⟨Aw, cw', hvw', hRw⟩ := hO.slice
      rw [hvw] at hvw'
      cases hvw'
      subst hvw
      have hcl : (ws.map fun w => ((w, 0) : C)).length = j := by rw [List.length_map]; exact hlen
      obtain ⟨gc, cc, hvc, _, _, _⟩ := hC.form (by omega)
      obtain ⟨Ac, cc', hvc', hRc⟩ := hC.slice
      rw [hvc] at hvc'
      cases hvc'
      subst hvc
      rw [hcl] at hRc ⊢
      rw [hlen] at hRw ⊢
      have hfin : ∀ u ∈ ws, finB u = some true := by
        intro u hu
        obtain ⟨v, hv, hw⟩ := hws u hu
        obtain ⟨u', h1, h2⟩ := Hdw.out v hv
        rw [hw] at h1
        cases h1
        exact h2
      have hdf := Hdf.out
      clear h1 hst hws hO hC
      go_upto_region 35 with (fail)
      exact restSums hB hb hS hk n1 n6 hRw hRc c1 c6 hP hfin hx hT hBk hdf (by assumption)
end Go.Proofs.Ytdpogmibahaklaa
