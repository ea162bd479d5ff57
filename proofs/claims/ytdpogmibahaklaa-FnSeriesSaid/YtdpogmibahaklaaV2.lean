/- The statement on series: the walk of its loops. -/
import Derived.Test.YtdpogmibahaklaaV3
import Derived.Deep.QuietTactic
import Derived.BigQuiet
import Derived.Deep.Cut
set_option linter.unusedVariables false
set_option linter.unusedSimpArgs false
namespace Go.Proofs.Ytdpogmibahaklaa
open Go.RowKit

set_option maxRecDepth 1000000 in
set_option maxHeartbeats 4000000 in
theorem rest18 {w0 w : World} {A B A4 A5 A6 A7 A8 A9 A11 A12 A13 : Option Addr} {nc cc mc dc n ga gb ca cb c4 c5 c6 c7 c8 c9 c11 c12 c13 : Nat} {ys : List Int} {a b iv un ex lsl liv lq lg rt sq ri sl asl aq al t hf tu wy : List C} {sc mo wi : Nat}
    (hRa : RowC w w0.heap.size ga n ca a) (hRb : RowC w w0.heap.size gb n cb b) (hne : ga ≠ gb) (hB : ReadsB w0 B mc ys) (hbel : Below w0.heap.size w0 w)
    (T4 : ReadsC w A4 n iv) (T5 : ReadsC w A5 n un) (T6 : ReadsC w A6 n ex) (T7 : ReadsC w A7 n lg) (T8 : ReadsC w A8 n rt) (T9 : ReadsC w A9 n sq) (T11 : ReadsC w A11 n sl) (T12 : ReadsC w A12 n un) (T13 : ReadsC w A13 n hf)
    (F : SerOk1 n a b iv un ex lsl liv lq lg rt sq ri sl asl aq al t hf sc mo) (G : SerOk2 n (b.set 1 one) tu wy wi) (Hz : SerOk3 a) (n2 : 2 ≤ n) (n7 : n ≤ 7)
    {x2 x3 x4 x9 x11 x13 x15 x17 x19 x20 x21 x23 x25 x27 x28 x29 x30 x31 x32 x33 x34 x35 x36 x37 x38 x39 x40 x41 x42 x43 x44 x45 x46 x47 x48 x49 x50 x51 x52 x53 x54 x55 x56 x57 x58 x59 x60 x61 x62 x63 x64 x65 x66 x67 x68 x69 x70 x71 x72 x73 x74 x75 x76 x77 x78 x79 x80 x81 x82 x83 x84 x85 x86 x87 x88 x89 x90 x91 x92 x93 x94 x95 x96 x97 x98 x99 x100 x101 x102 x103 x104 x105 x106 x107 x108 x109 x110 x111 x112 x113 x114 x115 x116 x117 x118 x119 x120 x121 x122 x123 x124 x125 x126 x127 x128 x129 x130 x131 x132 x133 x134 x135 x136 x137 x138 x139 x140 x141 x142 x143 x144 x145 x146 x147 x148 x149 x150 x151 x152 x153 x154 x155 x156 x157 x158 x159 x160 x161 x162 x163 x164 x165 x166 x167 x168 x169 x170 x171 x172 x173 x174 x175 x176 x177 x178 x179 x180 x181 x182 x183 x184 x185 x186 x187 x188 x189 x190 x191 x192 x193 x194 x195 x196 x197 x198 x199 x200 x201 x202 x203 x204 x205 x206 x207 x208 x209 x210 x211 x212 x213 x214 x215 x216 x217 x218 x219 x220 x221 x222 x223 x224 x225 x226 x227 x228 x229 x230 x231 x232 x233 x234 x235 x236 x237 x238 x239 x240 x241 x242 x243 x244 x245 x246 x247 x248 x249 x250 x251 x252 x253 x254 x255 x256 x257 x258 x259 x260 x261 x262 x263 x264 x265 x266 x267 x268 x269 x270 x271 x272 x273 x274 x275 x276 x277 x278 x279 x280 x281 x282 x283 x284 x285 x286 x287 x288 x289 x290 x291 x292 x293 x294 x295 x296 x297 x298 x299 x300 x301 x302 x303 x304 x305 x306 x307 x308 x309 x310 x311 x312 x313 x314 x315 x316 x317 x318 x319 x320 x321 x322 x323 x324 x325 x326 x327 x328 x329 x330 x331 x332 x333 x334 x335 x336 x337 x338 x339 x340 x341 x342 x343 x344 x345 x346 x347 x348 x349 x350 x351 x352 x353 x354 x355 x356 x357 x358 x359 x360 x361 x362 x363 x364 x365 x366 x367 x368 x369 x370 x371 x372 x373 x374 x375 x376 x377 x378 x379 x380 x381 x382 x383 x384 x385 x386 x387 x388 x389 x390 x391 x392 x393 x394 x395 x396 x397 x398 x399 x400 x401 x402 x403 x404 x405 x406 x407 x408 x409 x410 x411 x412 x413 x414 x415 x416 x417 x418 x419 x420 x421 x422 x423 x424 x425 x426 x427 x428 x429 x430 x431 x432 x433 : Value} {K : Act → World → Prop} (hK : ∀ a w, Code.wp Try.prog (restC 19) (bodyPost Try.prog Try.f4 (SerPost w0)) a w → K a w) :
    Code.wp Try.prog (headC (restC 18)) (Exit.then K (bodyPost Try.prog Try.f4 (SerPost w0))) ⟨#[.slice A nc cc, .slice B mc dc, x2, x3, x4, .int .i64 (n : Int), .slice (some ⟨ga, 0, none⟩) n ca, .slice (some ⟨gb, 0, none⟩) n cb, .slice A4 n c4, x9, .slice A5 n c5, x11, .slice A6 n c6, x13, .slice A7 n c7, x15, .slice A8 n c8, x17, .slice A9 n c9, x19, x20, x21, .slice A11 n c11, x23, .slice A12 n c12, x25, .slice A13 n c13, x27, x28, x29, x30, x31, x32, x33, x34, x35, x36, x37, x38, x39, x40, x41, x42, x43, x44, x45, x46, x47, x48, x49, x50, x51, x52, x53, x54, x55, x56, x57, x58, x59, x60, x61, x62, x63, x64, x65, x66, x67, x68, x69, x70, x71, x72, x73, x74, x75, x76, x77, x78, x79, x80, x81, x82, x83, x84, x85, x86, x87, x88, x89, x90, x91, x92, x93, x94, x95, x96, x97, x98, x99, x100, x101, x102, x103, x104, x105, x106, x107, x108, x109, x110, x111, x112, x113, x114, x115, x116, x117, x118, x119, x120, x121, x122, x123, x124, x125, x126, x127, x128, x129, x130, x131, x132, x133, x134, x135, x136, x137, x138, x139, x140, x141, x142, x143, x144, x145, x146, x147, x148, x149, x150, x151, x152, x153, x154, x155, x156, x157, x158, x159, x160, x161, x162, x163, x164, x165, x166, x167, x168, x169, x170, x171, x172, x173, x174, x175, x176, x177, x178, x179, x180, x181, x182, x183, x184, x185, x186, x187, x188, x189, x190, x191, x192, x193, x194, x195, x196, x197, x198, x199, x200, x201, x202, x203, x204, x205, x206, x207, x208, x209, x210, x211, x212, x213, x214, x215, x216, x217, x218, x219, x220, x221, x222, x223, x224, x225, x226, x227, x228, x229, x230, x231, x232, x233, x234, x235, x236, x237, x238, x239, x240, x241, x242, x243, x244, x245, x246, x247, x248, x249, x250, x251, x252, x253, x254, x255, x256, x257, x258, x259, x260, x261, x262, x263, x264, x265, x266, x267, x268, x269, x270, x271, x272, x273, x274, x275, x276, x277, x278, x279, x280, x281, x282, x283, x284, x285, x286, x287, x288, x289, x290, x291, x292, x293, x294, x295, x296, x297, x298, x299, x300, x301, x302, x303, x304, x305, x306, x307, x308, x309, x310, x311, x312, x313, x314, x315, x316, x317, x318, x319, x320, x321, x322, x323, x324, x325, x326, x327, x328, x329, x330, x331, x332, x333, x334, x335, x336, x337, x338, x339, x340, x341, x342, x343, x344, x345, x346, x347, x348, x349, x350, x351, x352, x353, x354, x355, x356, x357, x358, x359, x360, x361, x362, x363, x364, x365, x366, x367, x368, x369, x370, x371, x372, x373, x374, x375, x376, x377, x378, x379, x380, x381, x382, x383, x384, x385, x386, x387, x388, x389, x390, x391, x392, x393, x394, x395, x396, x397, x398, x399, x400, x401, x402, x403, x404, x405, x406, x407, x408, x409, x410, x411, x412, x413, x414, x415, x416, x417, x418, x419, x420, x421, x422, x423, x424, x425, x426, x427, x428, x429, x430, x431, x432, x433], []⟩ w := by
  obtain ⟨c, hc⟩ : ∃ c, c = restC 19 := ⟨_, rfl⟩
  rw [← hc] at hK
  conv at hc => rhs; whnf
  subst hc
  conv => arg 2; whnf
  go_wp2_with fail
  go_loopw [28, 29, 202] (fun s kk kc wr => ∃ (j v : Nat), j ≤ n ∧ kc = .int .i64 (j : Int) ∧ s = .float .f64 v ∧ stepsF (fun k s => (longW (iv.getD k zero)).bind fun a => (longW (ex.getD k zero)).bind fun b => (longW (rt.getD k zero)).bind fun c => max4F s a b c) (n - j) j v = some sc ∧ Drawn w wr) (fun _ _ i _ => n - (intOf i).toNat)
  case atStart => exact ⟨0, 0, by omega, rfl, rfl, by have := F.hsc; unfold scaleAllF at this; simpa using this, Drawn.refl _⟩
  case round =>
    obtain ⟨j, v, hj, rfl, rfl, hrec, hD⟩ := hrel
    by_cases hlt : j < n
    · obtain ⟨s, hst, hrec⟩ := stepsF_at hrec hlt
      simp only [Option.bind_eq_some_iff] at hst
      obtain ⟨l1, h1, l2, h2, l3, h3, hs⟩ := hst
      obtain ⟨a4, e4, q4⟩ := (T4.drawn hD).cells (by omega)
      obtain ⟨a6, e6, q6⟩ := (T6.drawn hD).cells (by omega)
      obtain ⟨a8, e8, q8⟩ := (T8.drawn hD).cells (by omega)
      subst e4 e6 e8
      have c4' := q4 j hlt
      have c6' := q6 j hlt
      have c8' := q8 j hlt
      clear q4 q6 q8
      generalize iv.getD j zero = u4 at c4' h1
      generalize ex.getD j zero = u6 at c6' h2
      generalize rt.getD j zero = u8 at c8' h3
      unfold cv at c4' c6' c8'
      simp only [longW, Option.bind_eq_some_iff] at h1 h2 h3
      obtain ⟨m1, k1, d1⟩ := h1
      obtain ⟨m2, k2, d2⟩ := h2
      obtain ⟨m3, k3, d3⟩ := h3
      have r1 := @run_wide _ _ d1
      have r2 := @run_wide _ _ d2
      have r3 := @run_wide _ _ d3
      have r4 := @run_max_four _ _ _ _ _ hs
      have hj1 : (0 : Int) ≤ (j : Int) := by omega
      have hj2 : (j : Int) < (n : Int) := by omega
      go_wp2_with fail
      go_quiet (first | (go_at_call 16; first | exact Calls.quiet_of_same (longOf_any u4 _ _ k1) | exact Calls.quiet_of_same (longOf_any u6 _ _ k2) | exact Calls.quiet_of_same (longOf_any u8 _ _ k3)) | simp only [r1, r2, r3, r4])
      go_wp2
      go_roundw
      case rel => exact ⟨j + 1, s, by omega, by go_num, rfl, by simpa using hrec, hD.step nq⟩
      case measure => simp [intOf]; omega
    · obtain rfl := stepsF_end hrec (by omega)
      clear hrec
      have hmo := F.hmo
      simp only [mostF, Option.bind_eq_some_iff] at hmo
      obtain ⟨t1, g1, t2, g2, g3⟩ := hmo
      unfold one64 at g1
      unfold c001 at g2
      have f1 := run_fop g1
      have f2 := run_fop g2
      have f3 := run_fop g3
      have N5 := T5.drawn hD
      have N7 := T7.drawn hD
      have N8 := T8.drawn hD
      have N9 := T9.drawn hD
      have N11 := T11.drawn hD
      have N12 := T12.drawn hD
      have N13 := T13.drawn hD
      have hRa' := hRa.below (hD.below _)
      have hRb' := hRb.below (hD.below _)
      have sa := F.sa
      have hbel' := hbel.trans (hD.below _)
      have hcmp := F.cmp
      have hcmp2 := F.cmp2
      go_wp2_with (simp only [f1, f2, f3])
      clear f1 f2 f3 g1 g2 g3 T4 T5 T6 T7 T8 T9 T11 T12 T13 hRa hRb hbel hD hlt F
      go_loopw [31, 32, 234] (fun kk rr kc wn => ∃ (j : Nat), j ≤ n ∧ kc = .int .i64 (j : Int) ∧ Drawn wr wn) (fun _ _ i _ => n - (intOf i).toNat)
      case atStart => exact ⟨0, by omega, rfl, Drawn.refl _⟩
      case round =>
        obtain ⟨j, hj, rfl, hD⟩ := hrel
        by_cases hlt : j < n
        · obtain ⟨k1, k2, k3, k4⟩ := hcmp j hlt
          have k5 := hcmp2 j
          clear hcmp hcmp2
          obtain ⟨a5, e5, q5⟩ := (N5.drawn hD).cells (by omega)
          obtain ⟨a7, e7, q7⟩ := (N7.drawn hD).cells (by omega)
          obtain ⟨a8, e8, q8⟩ := (N8.drawn hD).cells (by omega)
          obtain ⟨a9, e9, q9⟩ := (N9.drawn hD).cells (by omega)
          obtain ⟨a11, e11, q11⟩ := (N11.drawn hD).cells (by omega)
          obtain ⟨a12, e12, q12⟩ := (N12.drawn hD).cells (by omega)
          obtain ⟨a13, e13, q13⟩ := (N13.drawn hD).cells (by omega)
          obtain ⟨aa, ea, qa⟩ := (hRa'.reads.drawn hD).cells (by omega)
          obtain ⟨ab, eb, qb⟩ := (hRb'.reads.drawn hD).cells (by omega)
          subst e5 e7 e8 e9 e11 e12 e13
          cases ea
          cases eb
          have p5 := q5 j hlt
          have p7 := q7 j hlt
          have p8 := q8 j hlt
          have p9 := q9 j hlt
          have p11 := q11 j hlt
          have p12 := q12 j hlt
          have p13 := q13 j hlt
          have pa := qa j hlt
          have pb := qb j hlt
          clear q5 q7 q8 q9 q11 q12 q13 qa qb N5 N7 N8 N9 N11 N12 N13 hRa' hRb' hB hbel' G Hz
          generalize un.getD j zero = u5 at p5 p12 k1
          generalize lg.getD j zero = u7 at p7 k2
          generalize rt.getD j zero = u8 at p8 k4
          generalize sq.getD j zero = u9 at p9 k3
          generalize sl.getD j zero = u11 at p11 k5
          generalize hf.getD j zero = u13 at p13 k4
          generalize a.getD j zero = ua at pa k3 k5
          generalize b.getD j zero = ub at pb k2
          unfold cv at p5 p7 p8 p9 p11 p12 p13 pa pb
          rw [Addr.add_lit, Nat.zero_add] at pa pb
          obtain ⟨s1, l1, d1, m1, n1, o1, i1⟩ := near_facts k1
          obtain ⟨s2, l2, d2, m2, n2', o2, i2⟩ := near_facts k2
          obtain ⟨s3, l3, d3, m3, n3, o3, i3⟩ := near_facts k3
          obtain ⟨s4, l4, d4, m4, n4, o4, i4⟩ := near_facts k4
          have m1' := @run_minus _ _ _ m1
          have m2' := @run_minus _ _ _ m2
          have m3' := @run_minus _ _ _ m3
          have m4' := @run_minus _ _ _ m4
          have o1' := @run_wide _ _ o1
          have o2' := @run_wide _ _ o2
          have o3' := @run_wide _ _ o3
          have o4' := @run_wide _ _ o4
          have hj1 : (0 : Int) ≤ (j : Int) := by omega
          have hj2 : (j : Int) < (n : Int) := by omega
          have hsub : IntKind.i64.wrap ((n : Int) - 1) = (n : Int) - 1 := IntWalk.i64_in _ (by omega)
          by_cases hz : j = 0
          · rw [if_pos hz] at m1
            have hz' : ((j : Int) == 0) = true := by simp [hz]
            clear hz
            have m1'' : ∀ (t : TypeId) (w : World), (binOp .sub t (.complex .f32 u5.1 u5.2) (.complex .f32 1065353216 0)).run Try.prog w = .ok (.complex .f32 s1.1 s1.2) w := @run_minus _ _ _ m1
            clear m1'
            go_wp2_with fail
            simp only [List.append_eq, List.cons_append, List.nil_append]
            go_quiet (first | (go_at_call 16; first | exact Calls.quiet_of_same (longOf_any s1 _ _ n1) | exact Calls.quiet_of_same (longOf_any s2 _ _ n2') | exact Calls.quiet_of_same (longOf_any s3 _ _ n3) | exact Calls.quiet_of_same (longOf_any s4 _ _ n4)) | simp only [m1'', m2', m3', m4', o1', o2', o3', o4', i1, i2, i3, i4])
            clear m1 m1'' m2 m2' m3 m3' m4 m4' o1 o1' o2 o2' o3 o3' o4 o4' i1 i2 i3 i4 n1 n2' n3 n4 p5 p7 p8 p9 p12 p13 pb k1 k2 k3 k4
            have hDq := hD.step nq
            have p11' := ((Drawn.step (Drawn.refl _) nq).cell _).trans p11
            have pa' := ((Drawn.step (Drawn.refl _) nq).cell _).trans pa
            clear pa p11 hD
            go_wp2_with fail
            generalize wr.drewN nq = wq at p11' pa' hDq ⊢
            by_cases hk : (j : Int) < (n : Int) - 1
            · obtain ⟨s5, l5, d5, m5, n5, o5, i5⟩ := near_facts (k5 (by omega))
              have m5' := @run_minus _ _ _ m5
              have o5' := @run_wide _ _ o5
              unfold c001 at i5
              go_quiet (first | (go_at_call 16; exact Calls.quiet_of_same (longOf_any s5 _ _ n5)) | simp only [m5', o5', i5])
              go_wp2
              go_roundw
              case rel => exact ⟨j + 1, by omega, by go_num, hDq.step _⟩
              case measure => simp [intOf]; omega
            · have hk' : decide ((j : Int) < (n : Int) - 1) = false := decide_eq_false hk
              go_quiet (fail)
              go_wp2
              go_roundw
              case rel => exact ⟨j + 1, by omega, by go_num, hDq.step _⟩
              case measure => simp [intOf]; omega
          · rw [if_neg hz] at m1
            have m1'' : ∀ (t : TypeId) (w : World), (binOp .sub t (.complex .f32 u5.1 u5.2) (.complex .f32 0 0)).run Try.prog w = .ok (.complex .f32 s1.1 s1.2) w := @run_minus _ _ _ m1
            clear m1'
            go_wp2_with fail
            simp only [List.append_eq, List.cons_append, List.nil_append]
            go_quiet (first | (go_at_call 16; first | exact Calls.quiet_of_same (longOf_any s1 _ _ n1) | exact Calls.quiet_of_same (longOf_any s2 _ _ n2') | exact Calls.quiet_of_same (longOf_any s3 _ _ n3) | exact Calls.quiet_of_same (longOf_any s4 _ _ n4)) | simp only [m1'', m2', m3', m4', o1', o2', o3', o4', i1, i2, i3, i4])
            clear m1 m1'' m2 m2' m3 m3' m4 m4' o1 o1' o2 o2' o3 o3' o4 o4' i1 i2 i3 i4 n1 n2' n3 n4 p5 p7 p8 p9 p12 p13 pb k1 k2 k3 k4
            have hDq := hD.step nq
            have p11' := ((Drawn.step (Drawn.refl _) nq).cell _).trans p11
            have pa' := ((Drawn.step (Drawn.refl _) nq).cell _).trans pa
            clear pa p11 hD
            go_wp2_with fail
            generalize wr.drewN nq = wq at p11' pa' hDq ⊢
            by_cases hk : (j : Int) < (n : Int) - 1
            · obtain ⟨s5, l5, d5, m5, n5, o5, i5⟩ := near_facts (k5 (by omega))
              have m5' := @run_minus _ _ _ m5
              have o5' := @run_wide _ _ o5
              unfold c001 at i5
              go_quiet (first | (go_at_call 16; exact Calls.quiet_of_same (longOf_any s5 _ _ n5)) | simp only [m5', o5', i5])
              go_wp2
              go_roundw
              case rel => exact ⟨j + 1, by omega, by go_num, hDq.step _⟩
              case measure => simp [intOf]; omega
            · have hk' : decide ((j : Int) < (n : Int) - 1) = false := decide_eq_false hk
              go_quiet (fail)
              go_wp2
              go_roundw
              case rel => exact ⟨j + 1, by omega, by go_num, hDq.step _⟩
              case measure => simp [intOf]; omega
        · have hRa'' := hRa'.below (hD.below _)
          have hRb'' := hRb'.below (hD.below _)
          have hbel'' := hbel'.trans (hD.below _)
          clear hcmp hcmp2 N5 N7 N8 N9 N11 N12 N13 hRa' hRb' hbel'
          go_upto_region 38 with (fail)
          exact rest22 hRa'' hRb'' hne hB hbel'' G Hz n2 n7 sa (by assumption)
end Go.Proofs.Ytdpogmibahaklaa
