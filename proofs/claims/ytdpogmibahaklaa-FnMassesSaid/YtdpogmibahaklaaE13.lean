/- The statement on masses: the numbers that are drawn for the fit. -/
import Derived.Test.YtdpogmibahaklaaE9
import Derived.Test.YtdpogmibahaklaaE3
import Derived.Test.YtdpogmibahaklaaE10
import Derived.Deep.RegionWith
import Derived.Test.YtdpogmibahaklaaM12
import Derived.Maps.AppendAt
set_option linter.unusedVariables false
set_option linter.unusedSimpArgs false
namespace Go.Proofs.Ytdpogmibahaklaa
open Go.RowKit

noncomputable def restN (k : Nat) : Code := tailC k (Try.f6.body.getD .skip)
abbrev MassPost (w0 : World) : Ending → World → Prop := fun e w' => e = .returned (.bool true) ∧ Below w0.heap.size w0 w'

def finsE (x : Nat) : Bool := finB x == some true
def valE (p : List C) : Bool := decide (1 ≤ p.length) && decide (p.length ≤ 16) && (p.all fun z => finsE z.1 && finsE z.2) && (decide (p.length = 1) || !isZ (p.getD (p.length - 1) zero))
theorem finsE_iff {x : Nat} : finsE x = true ↔ finB x = some true := by simp [finsE]
theorem valE_ok {p : List C} (h : valE p = true) : ValC p := by
  simp only [valE, Bool.and_eq_true, decide_eq_true_eq, Bool.or_eq_true, List.all_eq_true, Bool.not_eq_true'] at h
  exact ⟨h.1.1.1, h.1.1.2, fun x hx => ⟨finsE_iff.1 (h.1.2 x hx).1, finsE_iff.1 (h.1.2 x hx).2⟩, h.2⟩
theorem mean_eq : fitPolyF [0, 1065353216, 1073741824] [1065353216, 1073741824, 1086324736] [1065353216, 1065353216, 1065353216] (0 + 1) = some [1077936128] := by kernel_rfl
theorem mean_terms : fitTerms [1077936128] = [(1077936128, 0)] := by kernel_rfl
theorem mean_val : valE [(1077936128, 0)] = true := by kernel_rfl
theorem mean_far : farwF (1077936128, 0) (1077936128, 0) = some 0 := by kernel_rfl
theorem mean_lt : (FloatKind.f64.format.order 0 4562254508917369340 == some Ordering.lt) = true := by kernel_rfl
theorem mean_fin : ∀ y ∈ [0, 1065353216, 1073741824, 1086324736], finB y = some true := by decide +kernel
theorem mean_pos : ∀ y ∈ [1065353216], (FloatKind.f32.format.order y 0 == some Ordering.lt) = false := by decide +kernel
theorem reads3 (w : World) (a b c : Nat) : ReadsF (w.alloc (Obj.cells #[.float .f32 a, .float .f32 b, .float .f32 c] 36)) (some ⟨w.heap.size, 0, none⟩) 3 [a, b, c] := by
  refine ⟨rfl, by omega, fun _ => ⟨_, rfl, fun j hj => ?_⟩⟩
  rw [Addr.add_lit, Nat.zero_add]
  match j, hj with
  | 0, _ => exact World.cell?_alloc_at _ _ _ _ rfl
  | 1, _ => exact World.cell?_alloc_at _ _ _ _ rfl
  | 2, _ => exact World.cell?_alloc_at _ _ _ _ rfl

set_option maxRecDepth 1000000 in
set_option maxHeartbeats 4000000 in
theorem massEnd {w0 w : World} (hbel : Below w0.heap.size w0 w)
    {x0 x1 x2 x3 x4 x5 x6 x7 x8 x9 x10 x11 x12 x13 x14 x15 x16 x17 x18 x19 x20 x21 x22 x23 x24 x25 x26 x27 x28 x29 x30 x31 x32 x33 x34 x35 x36 x37 x38 x39 x40 x41 x42 x43 x44 x45 x46 x47 x48 x49 x50 x51 x52 x53 x54 x55 x56 x57 x58 x59 x60 x61 x62 x63 x64 x65 x66 x67 x68 x69 x70 x71 x72 x73 x74 x75 x76 x77 x78 x79 x80 x81 x82 x83 x84 x85 x86 x87 x88 x89 x90 x91 x92 x93 x94 x95 x96 x97 x98 x99 x100 x101 x102 x103 x104 x105 x106 x107 x108 x109 x110 x111 x112 x113 x114 x115 x116 x117 x118 x119 x120 x121 x122 x123 x124 x125 x126 x127 x128 x129 x130 x131 x132 x133 x134 x135 x136 x137 x138 x139 x140 x141 x142 x143 x144 x145 x146 x147 x148 x149 x150 x151 x152 x153 x154 x155 x156 x157 x158 x159 x160 x161 x162 x163 x164 x165 x166 x167 x168 x169 x170 x171 x172 x173 x174 x175 x176 x177 x178 x179 x180 x181 x182 x183 x184 x185 x186 x187 x188 x189 x190 x191 x192 x193 x194 x195 x196 x197 x198 x199 x200 x201 x202 x203 x204 x205 x206 x207 x208 x209 x210 x211 x212 x213 x214 x215 x216 x217 x218 x219 x220 x221 x222 x223 x224 x225 x226 x227 x228 x229 x230 x231 x232 x233 x234 x235 x236 x237 x238 x239 x240 x241 x242 x243 x244 x245 x246 x247 x248 x249 x250 x251 x252 x253 x254 x255 x256 x257 x258 x259 x260 x261 x262 x263 x264 x265 x266 x267 x268 x269 x270 x271 x272 x273 x274 x275 x276 x277 x278 x279 : Value} {K : Act → World → Prop} (hK : ∀ a w, Code.wp Try.prog (restN 21) (bodyPost Try.prog Try.f6 (MassPost w0)) a w → K a w) :
    Code.wp Try.prog (headC (restN 20)) (Exit.then K (bodyPost Try.prog Try.f6 (MassPost w0))) ⟨#[x0, x1, x2, x3, x4, x5, x6, x7, x8, x9, x10, x11, x12, x13, x14, x15, x16, x17, x18, x19, x20, x21, x22, x23, x24, x25, x26, x27, x28, x29, x30, x31, x32, x33, x34, x35, x36, x37, x38, x39, x40, x41, x42, x43, x44, x45, x46, x47, x48, x49, x50, x51, x52, x53, x54, x55, x56, x57, x58, x59, x60, x61, x62, x63, x64, x65, x66, x67, x68, x69, x70, x71, x72, x73, x74, x75, x76, x77, x78, x79, x80, x81, x82, x83, x84, x85, x86, x87, x88, x89, x90, x91, x92, x93, x94, x95, x96, x97, x98, x99, x100, x101, x102, x103, x104, x105, x106, x107, x108, x109, x110, x111, x112, x113, x114, x115, x116, x117, x118, x119, x120, x121, x122, x123, x124, x125, x126, x127, x128, x129, x130, x131, x132, x133, x134, x135, x136, x137, x138, x139, x140, x141, x142, x143, x144, x145, x146, x147, x148, x149, x150, x151, x152, x153, x154, x155, x156, x157, x158, x159, x160, x161, x162, x163, x164, x165, x166, x167, x168, x169, x170, x171, x172, x173, x174, x175, x176, x177, x178, x179, x180, x181, x182, x183, x184, x185, x186, x187, x188, x189, x190, x191, x192, x193, x194, x195, x196, x197, x198, x199, x200, x201, x202, x203, x204, x205, x206, x207, x208, x209, x210, x211, x212, x213, x214, x215, x216, x217, x218, x219, x220, x221, x222, x223, x224, x225, x226, x227, x228, x229, x230, x231, x232, x233, x234, x235, x236, x237, x238, x239, x240, x241, x242, x243, x244, x245, x246, x247, x248, x249, x250, x251, x252, x253, x254, x255, x256, x257, x258, x259, x260, x261, x262, x263, x264, x265, x266, x267, x268, x269, x270, x271, x272, x273, x274, x275, x276, x277, x278, x279], []⟩ w := by
  obtain ⟨cc, hc⟩ : ∃ c, c = restN 21 := ⟨_, rfl⟩
  rw [← hc] at hK
  conv at hc => rhs; whnf
  subst hc
  conv => arg 2; whnf
  have b1 : Below w.heap.size w (w.alloc (Obj.cells #[.float .f32 0, .float .f32 1065353216, .float .f32 1073741824] 36)) := (Below.refl _ _).alloc (Nat.le_refl _) _
  have r1 := reads3 w 0 1065353216 1073741824
  have b2 := (Below.refl _ (w.alloc (Obj.cells #[.float .f32 0, .float .f32 1065353216, .float .f32 1073741824] 36))).alloc (Nat.le_refl _) (Obj.cells #[.float .f32 1065353216, .float .f32 1073741824, .float .f32 1086324736] 36)
  have r2 := reads3 (w.alloc (Obj.cells #[.float .f32 0, .float .f32 1065353216, .float .f32 1073741824] 36)) 1065353216 1073741824 1086324736
  have b3 := (Below.refl _ ((w.alloc (Obj.cells #[.float .f32 0, .float .f32 1065353216, .float .f32 1073741824] 36)).alloc (Obj.cells #[.float .f32 1065353216, .float .f32 1073741824, .float .f32 1086324736] 36))).alloc (Nat.le_refl _) (Obj.cells #[.float .f32 1065353216, .float .f32 1065353216, .float .f32 1065353216] 36)
  have r3 := reads3 ((w.alloc (Obj.cells #[.float .f32 0, .float .f32 1065353216, .float .f32 1073741824] 36)).alloc (Obj.cells #[.float .f32 1065353216, .float .f32 1073741824, .float .f32 1086324736] 36)) 1065353216 1065353216 1065353216
  have r1' := (r1.below b2).below b3
  have r2' := r2.below b3
  have hb4 := below_seq (below_seq (below_seq hbel b1) b2) b3
  clear r1 r2 b1 b2 b3
  rw [World.size_alloc] at r2' r3
  rw [World.size_alloc] at r3
  go_wp2_with fail
  generalize ((w.alloc (Obj.cells #[.float .f32 0, .float .f32 1065353216, .float .f32 1073741824] 36)).alloc (Obj.cells #[.float .f32 1065353216, .float .f32 1073741824, .float .f32 1086324736] 36)).alloc (Obj.cells #[.float .f32 1065353216, .float .f32 1065353216, .float .f32 1065353216] 36) = w3 at *
  have hf := fit59_any _ _ _ (some ⟨w.heap.size, 0, none⟩) (some ⟨w.heap.size + 1, 0, none⟩) (some ⟨w.heap.size + 1 + 1, 0, none⟩) 3 3 3 3 0 [1077936128] w3 r1' r2' r3 (by omega) (by omega) (by omega)
    (fun y hy => mean_fin y (by simp at hy ⊢; omega)) (fun y hy => mean_fin y (by simp at hy ⊢; omega)) (fun y hy => mean_fin y (by simp at hy ⊢; omega)) (fun y hy => mean_pos y (by simp at hy ⊢; omega)) mean_eq (by rw [mean_terms]; exact valE_ok mean_val)
  rw [mean_terms] at hf
  refine hf.mono ?_
  rintro e w5 ⟨ad, c5, rfl, _, hR, hb5⟩
  have hb6 := below_seq hb4 hb5
  obtain ⟨ad', e', hc⟩ := hR.cells (by simp)
  cases e'
  have c0 := hc 0 (by simp)
  have c1 := cell_below ((Below.refl w5.heap.size w5).alloc (Nat.le_refl _) (Obj.cells #[.slice (some ad) 1 c5] 29)) c0
  have hb7 : Below w0.heap.size w0 (w5.alloc (Obj.cells #[.slice (some ad) 1 c5] 29)) := hb6.alloc (by have := hb6.size; omega) _
  unfold cv at c1
  rw [show ad.add 0 = ad by simp [Addr.add]] at c1
  clear hc hf c0 r1' r2' r3
  go_wp2_with (first | (go_at_call 50; refine Calls.same (far_any (1077936128, 0) (1077936128, 0) 0 _ mean_far) ?_) | simp only [mean_lt])
  go_ret
  exact ⟨rfl, hb7⟩
end Go.Proofs.Ytdpogmibahaklaa

namespace Go.Proofs.Ytdpogmibahaklaa
open Go.RowKit

/-- The fit of drawn numbers. -/
structure FitOk (d : Nat) (xs ys ws l : List Nat) : Prop where
  eq : fitPolyF xs ys ws (d + 1) = some l
  val : ValC (fitTerms l)
  fx : ∀ y ∈ xs, finB y = some true
  fy : ∀ y ∈ ys, finB y = some true
  fw : ∀ y ∈ ws, finB y = some true
  pw : ∀ x ∈ ws, (FloatKind.f32.format.order x 0 == some Ordering.lt) = false
  at_ : ∀ k, k ≤ d → ∃ v a b g, nestF (fitTerms l) (xs.getD k 0, 0) = some v ∧ FinC v ∧ wide v.1 = some a ∧ wide (ys.getD k 0) = some b ∧ gapF a b = some g ∧ (FloatKind.f64.format.order g 4587366580439587226 == some Ordering.gt) = false

set_option maxRecDepth 1000000 in
set_option maxHeartbeats 4000000 in
theorem massFits {w0 w : World} {xs ys ws l : List Nat} {d g1 g2 g3 c1 c2 c3 : Nat} (hbel : Below w0.heap.size w0 w) (hd : d ≤ 2)
    (hX : ReadsF w (some ⟨g1, 0, none⟩) (d + 1) xs) (hY : ReadsF w (some ⟨g2, 0, none⟩) (d + 1) ys) (hW : ReadsF w (some ⟨g3, 0, none⟩) (d + 1) ws) (hF : FitOk d xs ys ws l)
    {x0 x1 x2 x3 x4 x5 x6 x7 x8 x9 x10 x11 x12 x13 x14 x15 x16 x17 x18 x19 x24 x25 x26 x27 x28 x29 x30 x31 x32 x33 x34 x35 x36 x37 x38 x39 x40 x41 x42 x43 x44 x45 x46 x47 x48 x49 x50 x51 x52 x53 x54 x55 x56 x57 x58 x59 x60 x61 x62 x63 x64 x65 x66 x67 x68 x69 x70 x71 x72 x73 x74 x75 x76 x77 x78 x79 x80 x81 x82 x83 x84 x85 x86 x87 x88 x89 x90 x91 x92 x93 x94 x95 x96 x97 x98 x99 x100 x101 x102 x103 x104 x105 x106 x107 x108 x109 x110 x111 x112 x113 x114 x115 x116 x117 x118 x119 x120 x121 x122 x123 x124 x125 x126 x127 x128 x129 x130 x131 x132 x133 x134 x135 x136 x137 x138 x139 x140 x141 x142 x143 x144 x145 x146 x147 x148 x149 x150 x151 x152 x153 x154 x155 x156 x157 x158 x159 x160 x161 x162 x163 x164 x165 x166 x167 x168 x169 x170 x171 x172 x173 x174 x175 x176 x177 x178 x179 x180 x181 x182 x183 x184 x185 x186 x187 x188 x189 x190 x191 x192 x193 x194 x195 x196 x197 x198 x199 x200 x201 x202 x203 x204 x205 x206 x207 x208 x209 x210 x211 x212 x213 x214 x215 x216 x217 x218 x219 x220 x221 x222 x223 x224 x225 x226 x227 x228 x229 x230 x231 x232 x233 x234 x235 x236 x237 x238 x239 x240 x241 x242 x243 x244 x245 x246 x247 x248 x249 x250 x251 x252 x253 x254 x255 x256 x257 x258 x259 x260 x261 x262 x263 x264 x265 x266 x267 x268 x269 x270 x271 x272 x273 x274 x275 x276 x277 x278 x279 : Value} {K : Act → World → Prop} (hK : ∀ a w, Code.wp Try.prog (restN 18) (bodyPost Try.prog Try.f6 (MassPost w0)) a w → K a w) :
    Code.wp Try.prog (headC (restN 17)) (Exit.then K (bodyPost Try.prog Try.f6 (MassPost w0))) ⟨#[x0, x1, x2, x3, x4, x5, x6, x7, x8, x9, x10, x11, x12, x13, x14, x15, x16, x17, x18, x19, .int .i64 (d : Int), .slice (some ⟨g1, 0, none⟩) (d + 1) c1, .slice (some ⟨g2, 0, none⟩) (d + 1) c2, .slice (some ⟨g3, 0, none⟩) (d + 1) c3, x24, x25, x26, x27, x28, x29, x30, x31, x32, x33, x34, x35, x36, x37, x38, x39, x40, x41, x42, x43, x44, x45, x46, x47, x48, x49, x50, x51, x52, x53, x54, x55, x56, x57, x58, x59, x60, x61, x62, x63, x64, x65, x66, x67, x68, x69, x70, x71, x72, x73, x74, x75, x76, x77, x78, x79, x80, x81, x82, x83, x84, x85, x86, x87, x88, x89, x90, x91, x92, x93, x94, x95, x96, x97, x98, x99, x100, x101, x102, x103, x104, x105, x106, x107, x108, x109, x110, x111, x112, x113, x114, x115, x116, x117, x118, x119, x120, x121, x122, x123, x124, x125, x126, x127, x128, x129, x130, x131, x132, x133, x134, x135, x136, x137, x138, x139, x140, x141, x142, x143, x144, x145, x146, x147, x148, x149, x150, x151, x152, x153, x154, x155, x156, x157, x158, x159, x160, x161, x162, x163, x164, x165, x166, x167, x168, x169, x170, x171, x172, x173, x174, x175, x176, x177, x178, x179, x180, x181, x182, x183, x184, x185, x186, x187, x188, x189, x190, x191, x192, x193, x194, x195, x196, x197, x198, x199, x200, x201, x202, x203, x204, x205, x206, x207, x208, x209, x210, x211, x212, x213, x214, x215, x216, x217, x218, x219, x220, x221, x222, x223, x224, x225, x226, x227, x228, x229, x230, x231, x232, x233, x234, x235, x236, x237, x238, x239, x240, x241, x242, x243, x244, x245, x246, x247, x248, x249, x250, x251, x252, x253, x254, x255, x256, x257, x258, x259, x260, x261, x262, x263, x264, x265, x266, x267, x268, x269, x270, x271, x272, x273, x274, x275, x276, x277, x278, x279], []⟩ w := by
  obtain ⟨cc, hc⟩ : ∃ c, c = restN 18 := ⟨_, rfl⟩
  rw [← hc] at hK
  conv at hc => rhs; whnf
  subst hc
  conv => arg 2; whnf
  obtain ⟨h1, h2, h3, h4, h5, h6, h7⟩ := hF
  have Hat := Lib.hid h7
  have hlx := hX.len
  clear h7
  go_wp2_with fail
  refine (fit59_any xs ys ws _ _ _ (d + 1) c1 c2 c3 d l _ hX hY hW (by omega) (by omega) (by omega) h3 h4 h5 h6 h1 h2).mono ?_
  rintro e w4 ⟨ad, c4, rfl, hB4, hR, hb4⟩
  have hX4 := hX.below hb4
  have hY4 := hY.below hb4
  have hbel4 := below_seq hbel hb4
  have A5 : Below w4.heap.size w4 (w4.alloc (Obj.cells #[.slice (some ad) (fitTerms l).length c4] 29)) := (Below.refl _ _).alloc (Nat.le_refl _) _
  have k5 : (w4.alloc (Obj.cells #[.slice (some ad) (fitTerms l).length c4] 29)).cell? ⟨w4.heap.size, 0, none⟩ = some (.slice (some ad) (fitTerms l).length c4) := by simp
  have hX5 := hX4.below A5
  have hY5 := hY4.below A5
  have hR5 := hR.below A5
  have hbel5 := below_seq hbel4 A5
  clear hX hY hW hX4 hY4 hR hbel hbel4 hb4 A5 h1 h4 h5 h6
  generalize fitTerms l = p at *
  go_wp2_with fail
  generalize w4.alloc (Obj.cells #[.slice (some ad) p.length c4] 29) = w5 at *
  go_loopw [27, 28, 29] (fun i _ _ wr => ∃ (j : Nat), j ≤ d + 1 ∧ i = .int .i64 (j : Int) ∧ Below w5.heap.size w5 wr) (fun i _ _ _ => d + 1 - (intOf i).toNat)
  case atStart => exact ⟨0, by omega, rfl, Below.refl _ _⟩
  case round =>
    obtain ⟨j, hj, rfl, hbr⟩ := hrel
    by_cases hlt : j < d + 1
    · have e1 : (j : Int) ≤ (d : Int) := by omega
      have e2 : (j : Int) < (d : Int) + 1 := by omega
      have e3 : (j : Int) < ((d + 1 : Nat) : Int) := by omega
      obtain ⟨v, a, b, g, q1, q2, q3, q4, q5, q6⟩ := Hat.out j (by omega)
      have k6 := cell_below hbr k5
      obtain ⟨ad1, e', hc⟩ := (hX5.below hbr).cells (by omega)
      cases e'
      have c6 := hc j hlt
      obtain ⟨ad2, e', hc'⟩ := (hY5.below hbr).cells (by omega)
      cases e'
      have c7 := hc' j hlt
      rw [Addr.add_lit, Nat.zero_add] at c6 c7
      clear hc hc'
      have hfx : FinC (xs.getD j 0, 0) := ⟨h3 _ (getD_mem (by omega)), by show finB 0 = some true; decide +kernel⟩
      generalize xs.getD j 0 = x at *
      generalize ys.getD j 0 = y at *
      unfold fv at c6 c7
      have hR6 := hR5.below hbr
      go_wp2_with fail
      go_region_with (first | (go_at_call 43; refine Calls.below (polyAt_any p (x, 0) v (some ad) p.length c4 _ (hR6.drawn (Drawn.one _)) h2 hfx q1 q2) ?_; rintro w7 hb7; unfold cv))
      all_goals
        have c8 := cell_below hb7 ((Drawn.cell (Drawn.one wr) _).trans c7)
        have hb8 : Below w5.heap.size w5 w7 := hbr.trans (((Drawn.one wr).below _).trans (hb7.mono (hbr.trans ((Drawn.one wr).below _)).size))
        have f1 := @run_wide _ _ q3
        have f2 := @run_wide _ _ q4
        clear c6 c7 k6
        go_wp2_with (first | (go_at_call 44; refine Calls.same (gap_any a b g _ q5) ?_) | simp only [f1, f2, q6])
        go_roundw
        case rel => exact ⟨j + 1, by omega, by go_num, hb8⟩
        case measure => simp [intOf]; omega
    · have e1 : ¬ (j : Int) ≤ (d : Int) := by omega
      go_upto_region 40 with (fail)
      exact massEnd (below_seq hbel5 hbr) (by assumption)
end Go.Proofs.Ytdpogmibahaklaa

namespace Go.Proofs.Ytdpogmibahaklaa
open Go.RowKit

def xD : List Nat := [3212836864, 0, 1065353216]
theorem xD_ok : ∀ j : Nat, j < 3 → o32 .sub (floatOfInt .f32 (j : Int)) 1065353216 = some (xD.getD j 0) := by decide +kernel
theorem xD_take {j : Nat} (h : j < 3) : xD.take (j + 1) = xD.take j ++ [xD.getD j 0] := by
  match j, h with
  | 0, _ => rfl
  | 1, _ => rfl
  | 2, _ => rfl
theorem quart_ok {v : Nat} (h : v < 17) : o32 .quo (floatOfInt .f32 ((v : Int) - 8)) 1082130432 = some (qF (v + 8)) := by
  have := (q_ok (show v + 8 < 33 by omega)).2.2
  rw [show (((v + 8 : Nat) : Int)) - 16 = (v : Int) - 8 by omega] at this
  exact this
/-- Whatever is drawn, the fit is near. -/
def FitsOk : Prop := ∀ (d : Nat) (vs : List Nat), d ≤ 2 → vs.length = d + 1 → (∀ v ∈ vs, v < 17) → ∃ l, FitOk d (xD.take (d + 1)) (vs.map fun v => qF (v + 8)) (List.replicate (d + 1) 1065353216) l

theorem apart_new {u v v' : Value} {N : Nat} (hu : ∀ k, u.ownBlock = some k → k < N) (h : u.ownBlock ≠ v.ownBlock) (hat : v'.ownBlock = v.ownBlock ∨ v'.ownBlock = some N) : u.ownBlock ≠ v'.ownBlock := by
  rcases hat with e | e
  · rw [e]; exact h
  · rw [e]; intro e'; have := hu _ e'; omega
theorem OwnF.lt {w : World} {B : Nat} {v : Value} {xs : List Nat} (h : OwnF w B v xs) : ∀ k, v.ownBlock = some k → k < w.heap.size := fun k hk => (h.out.lt k hk).2
theorem OwnF.other {w w' : World} {B : Nat} {u v : Value} {xs : List Nat} (h : OwnF w B u xs) (o : Obj) (hg : (w.alloc o).grownBy w' v.ownBlock) (hne : u.ownBlock ≠ v.ownBlock) : OwnF w' B u xs := ⟨(h.out.alloc _).kept hg (.inr hne)⟩

set_option maxRecDepth 1000000 in
set_option maxHeartbeats 4000000 in
theorem massDraws {w0 w : World} {A B : Option Addr} {nc ac mc dc : Nat} {zs ys : List Int} (hA : ReadsB w0 A nc zs) (hB : ReadsB w0 B mc ys) (hbel : Below w0.heap.size w0 w) (hF : FitsOk)
    {x2 x3 x4 x5 x6 x7 x8 x9 x10 x11 x12 x13 x14 x15 x16 x17 x18 x19 x20 x21 x22 x23 x24 x25 x26 x27 x28 x29 x30 x31 x32 x33 x34 x35 x36 x37 x38 x39 x40 x41 x42 x43 x44 x45 x46 x47 x48 x49 x50 x51 x52 x53 x54 x55 x56 x57 x58 x59 x60 x61 x62 x63 x64 x65 x66 x67 x68 x69 x70 x71 x72 x73 x74 x75 x76 x77 x78 x79 x80 x81 x82 x83 x84 x85 x86 x87 x88 x89 x90 x91 x92 x93 x94 x95 x96 x97 x98 x99 x100 x101 x102 x103 x104 x105 x106 x107 x108 x109 x110 x111 x112 x113 x114 x115 x116 x117 x118 x119 x120 x121 x122 x123 x124 x125 x126 x127 x128 x129 x130 x131 x132 x133 x134 x135 x136 x137 x138 x139 x140 x141 x142 x143 x144 x145 x146 x147 x148 x149 x150 x151 x152 x153 x154 x155 x156 x157 x158 x159 x160 x161 x162 x163 x164 x165 x166 x167 x168 x169 x170 x171 x172 x173 x174 x175 x176 x177 x178 x179 x180 x181 x182 x183 x184 x185 x186 x187 x188 x189 x190 x191 x192 x193 x194 x195 x196 x197 x198 x199 x200 x201 x202 x203 x204 x205 x206 x207 x208 x209 x210 x211 x212 x213 x214 x215 x216 x217 x218 x219 x220 x221 x222 x223 x224 x225 x226 x227 x228 x229 x230 x231 x232 x233 x234 x235 x236 x237 x238 x239 x240 x241 x242 x243 x244 x245 x246 x247 x248 x249 x250 x251 x252 x253 x254 x255 x256 x257 x258 x259 x260 x261 x262 x263 x264 x265 x266 x267 x268 x269 x270 x271 x272 x273 x274 x275 x276 x277 x278 x279 : Value} {K : Act → World → Prop} (hK : ∀ a w, Code.wp Try.prog (restN 13) (bodyPost Try.prog Try.f6 (MassPost w0)) a w → K a w) :
    Code.wp Try.prog (headC (restN 12)) (Exit.then K (bodyPost Try.prog Try.f6 (MassPost w0))) ⟨#[.slice A nc ac, .slice B mc dc, x2, x3, x4, x5, x6, x7, x8, x9, x10, x11, x12, x13, x14, x15, x16, x17, x18, x19, x20, x21, x22, x23, x24, x25, x26, x27, x28, x29, x30, x31, x32, x33, x34, x35, x36, x37, x38, x39, x40, x41, x42, x43, x44, x45, x46, x47, x48, x49, x50, x51, x52, x53, x54, x55, x56, x57, x58, x59, x60, x61, x62, x63, x64, x65, x66, x67, x68, x69, x70, x71, x72, x73, x74, x75, x76, x77, x78, x79, x80, x81, x82, x83, x84, x85, x86, x87, x88, x89, x90, x91, x92, x93, x94, x95, x96, x97, x98, x99, x100, x101, x102, x103, x104, x105, x106, x107, x108, x109, x110, x111, x112, x113, x114, x115, x116, x117, x118, x119, x120, x121, x122, x123, x124, x125, x126, x127, x128, x129, x130, x131, x132, x133, x134, x135, x136, x137, x138, x139, x140, x141, x142, x143, x144, x145, x146, x147, x148, x149, x150, x151, x152, x153, x154, x155, x156, x157, x158, x159, x160, x161, x162, x163, x164, x165, x166, x167, x168, x169, x170, x171, x172, x173, x174, x175, x176, x177, x178, x179, x180, x181, x182, x183, x184, x185, x186, x187, x188, x189, x190, x191, x192, x193, x194, x195, x196, x197, x198, x199, x200, x201, x202, x203, x204, x205, x206, x207, x208, x209, x210, x211, x212, x213, x214, x215, x216, x217, x218, x219, x220, x221, x222, x223, x224, x225, x226, x227, x228, x229, x230, x231, x232, x233, x234, x235, x236, x237, x238, x239, x240, x241, x242, x243, x244, x245, x246, x247, x248, x249, x250, x251, x252, x253, x254, x255, x256, x257, x258, x259, x260, x261, x262, x263, x264, x265, x266, x267, x268, x269, x270, x271, x272, x273, x274, x275, x276, x277, x278, x279], []⟩ w := by
  obtain ⟨cc, hc⟩ : ∃ c, c = restN 13 := ⟨_, rfl⟩
  rw [← hc] at hK
  conv at hc => rhs; whnf
  subst hc
  conv => arg 2; whnf
  obtain ⟨i0, hi, hz0, hz1, hz2⟩ := info_parts Try.info36
  have HF := Lib.hid hF
  clear hF
  go_wp2_with fail
  refine (r8At_any B mc dc ys 42 42 3 _ (hB.below hbel) rfl (by omega) (by omega) (by omega)).mono ?_
  rintro e w1 ⟨v, rfl, v0, v3, hw1⟩
  subst w1
  obtain ⟨d, rfl⟩ := Int.eq_ofNat_of_zero_le v0
  have hd : d ≤ 2 := by omega
  clear v0 v3
  have hO1 : OwnF (w.alloc (.cells #[] 36)) w.heap.size (.slice (some ⟨w.heap.size, 0, none⟩) 0 0) [] := ⟨World.ownsRow_lit w #[] 0 (Nat.le_refl _) (by unfold maxLen; omega) rfl⟩
  have hO2 : OwnF ((w.alloc (.cells #[] 36)).alloc (.cells #[] 36)) w.heap.size (.slice (some ⟨w.heap.size + 1, 0, none⟩) 0 0) [] := by
    have := World.ownsRow_lit (base := w.heap.size) (w.alloc (.cells #[] 36)) (e := 36) (size := 1) #[] 0 (by simp) (by unfold maxLen; omega) rfl
    rw [World.size_alloc] at this
    exact ⟨this⟩
  have hO3 : OwnF (((w.alloc (.cells #[] 36)).alloc (.cells #[] 36)).alloc (.cells #[] 36)) w.heap.size (.slice (some ⟨w.heap.size + 1 + 1, 0, none⟩) 0 0) [] := by
    have := World.ownsRow_lit (base := w.heap.size) ((w.alloc (.cells #[] 36)).alloc (.cells #[] 36)) (e := 36) (size := 1) #[] 0 (by simp; omega) (by unfold maxLen; omega) rfl
    rw [World.size_alloc, World.size_alloc] at this
    exact ⟨this⟩
  have A2 := (Below.refl (w.alloc (.cells #[] 36)).heap.size (w.alloc (.cells #[] 36))).alloc (Nat.le_refl _) (.cells #[] 36)
  have A3 := (Below.refl ((w.alloc (.cells #[] 36)).alloc (.cells #[] 36)).heap.size ((w.alloc (.cells #[] 36)).alloc (.cells #[] 36))).alloc (Nat.le_refl _) (.cells #[] 36)
  have hO1' := (hO1.below A2).below A3
  have hO2' := hO2.below A3
  have A1 := (Below.refl w.heap.size w).alloc (Nat.le_refl _) (.cells #[] 36)
  have hbw := below_seq (below_seq (below_seq hbel A1) A2) A3
  have hsz : w.heap.size ≤ (((w.alloc (.cells #[] 36)).alloc (.cells #[] 36)).alloc (.cells #[] 36)).heap.size := by simp; omega
  clear hO1 hO2 A1 A2 A3
  go_wp2_with fail
  have hw0 := hbel.size
  clear hbel
  generalize ((w.alloc (.cells #[] 36)).alloc (.cells #[] 36)).alloc (.cells #[] 36) = w3 at *
  go_loopw [21, 22, 23, 24] (fun v1 v2 v3 i wr => ∃ (j : Nat) (vs : List Nat), j ≤ d + 1 ∧ i = .int .i64 (j : Int) ∧ vs.length = j ∧ (∀ v ∈ vs, v < 17) ∧
    OwnF wr w.heap.size v1 (xD.take j) ∧ OwnF wr w.heap.size v2 (vs.map fun v => qF (v + 8)) ∧ OwnF wr w.heap.size v3 (List.replicate j 1065353216) ∧
    v1.ownBlock ≠ v2.ownBlock ∧ v1.ownBlock ≠ v3.ownBlock ∧ v2.ownBlock ≠ v3.ownBlock ∧ Below w0.heap.size w0 wr ∧ w.heap.size ≤ wr.heap.size) (fun _ _ _ i _ => d + 1 - (intOf i).toNat)
  case atStart => exact ⟨0, [], by omega, rfl, rfl, by simp, hO1', hO2', hO3, (by simp only [Value.ownBlock]; intro e; have := Option.some.inj e; omega), (by simp only [Value.ownBlock]; intro e; have := Option.some.inj e; omega), (by simp only [Value.ownBlock]; intro e; have := Option.some.inj e; omega), hbw, hsz⟩
  case round =>
    clear hO1' hO2' hO3 hbw hsz
    obtain ⟨j, vs, hj, rfl, hl, hvs, hO1, hO2, hO3, n12, n13, n23, hb, hsz⟩ := hrel
    have HL := Lib.hid hl
    clear hl
    by_cases hlt : j < d + 1
    · have e1 : (j : Int) ≤ (d : Int) := by omega
      have l1 : (xD.take j).length = j := by rw [List.length_take]; show min j 3 = j; omega
      have l2 : (vs.map fun v => qF (v + 8)).length = j := by rw [List.length_map]; exact HL.out
      have L1 := Lib.hid l1
      have L2 := Lib.hid l2
      have r1 := @run_o32 _ _ _ _ (xD_ok j (by omega))
      generalize hxj : xD.getD j 0 = xj at *
      have HX := Lib.hid hxj
      clear l1 l2 hxj
      generalize hX : xD.take j = X at *
      generalize hY : (vs.map fun v => qF (v + 8)) = Y at *
      have HXX := Lib.hid hX
      have HYY := Lib.hid hY
      clear hX hY
      go_wp2_with (first | (at_builtin; refine wpList_append_own_at _ rfl (.tmp 201) (.tmp 205) 51 rfl w.heap.size 36 i0 _ 1 4 Try.underlying51 hi hz0 hz1 hz2 rfl (by decide) _ X.length (X.map fv) rfl (hO1.out.alloc _) ⟨wr.heap.size, 0, none⟩ 1 1 [fv xj] rfl rfl ?c1 ?c2 ?c3 ?c4 ?c5 ?_) | simp only [r1])
      case c1 => first | exact cell_one_new _ _ _ | exact fun j u h => h
      case c2 => first | rfl | (intro u hu; simp at hu; subst hu; rfl)
      case c3 => have := L1.out; unfold maxLen; omega
      case c4 => have := L1.out; omega
      case c5 => first | (rw [World.size_alloc]; omega) | omega
      intro v1' w5 hown hgrow _ hat
      have hP1 := OwnF.appended hown
      have hP2 := hO2.other _ hgrow n12.symm
      have hP3 := hO3.other _ hgrow n13.symm
      have hat' : v1'.ownBlock = u21.ownBlock ∨ v1'.ownBlock = some (wr.heap.size + 1) := by
        have : v1'.ownBlock = u21.ownBlock ∨ v1'.ownBlock = some (wr.alloc (.cells #[fv xj] 36)).heap.size := hat
        rw [World.size_alloc] at this
        exact this
      have m12 := (apart_new (fun k hk => by have := hO2.lt k hk; omega) n12.symm hat').symm
      have m13 := (apart_new (fun k hk => by have := hO3.lt k hk; omega) n13.symm hat').symm
      have hb5 := (hO1.mono (show w0.heap.size ≤ w.heap.size by omega)).grown hb hb.size _ hgrow
      have hs5 : w.heap.size ≤ w5.heap.size := by have := hgrow.size; rw [World.size_alloc] at this; omega
      clear hown hgrow hat hat' hO1 hO2 hO3 n12 n13
      go_wp2_with fail
      refine (r8At_any A nc ac zs j _ 17 _ (hA.below hb5) rfl (by omega) (by omega) (by omega)).mono ?_
      rintro e w6 ⟨q, rfl, q0, q1, hw6⟩
      subst w6
      obtain ⟨q, rfl⟩ := Int.eq_ofNat_of_zero_le q0
      have hq17 : q < 17 := by omega
      have r2 := @run_o32 _ _ _ _ (quart_ok hq17)
      clear q0 q1
      generalize hyq : qF (q + 8) = yq at *
      have HQ := Lib.hid hyq
      clear hyq
      go_wp2_with (first | (at_builtin; refine wpList_append_own_at _ rfl (.tmp 207) (.tmp 214) 51 rfl w.heap.size 36 i0 _ 1 4 Try.underlying51 hi hz0 hz1 hz2 rfl (by decide) _ Y.length (Y.map fv) rfl (hP2.out.alloc _) ⟨w5.heap.size, 0, none⟩ 1 1 [fv yq] rfl rfl ?d1 ?d2 ?d3 ?d4 ?d5 ?_) | simp only [r2])
      case d1 => first | exact cell_one_new _ _ _ | exact fun j u h => h
      case d2 => first | rfl | (intro u hu; simp at hu; subst hu; rfl)
      case d3 => have := L2.out; unfold maxLen; omega
      case d4 => have := L2.out; omega
      case d5 => first | (rw [World.size_alloc]; omega) | omega
      intro v2' w6 hown hgrow _ hat
      have hQ2 := OwnF.appended hown
      have hQ1 := hP1.other _ hgrow m12
      have hQ3 := hP3.other _ hgrow n23.symm
      have hat' : v2'.ownBlock = u22.ownBlock ∨ v2'.ownBlock = some (w5.heap.size + 1) := by
        have : v2'.ownBlock = u22.ownBlock ∨ v2'.ownBlock = some (w5.alloc (.cells #[fv yq] 36)).heap.size := hat
        rw [World.size_alloc] at this
        exact this
      have p12 := apart_new (fun k hk => by have := hP1.lt k hk; omega) m12 hat'
      have p23 := (apart_new (fun k hk => by have := hP3.lt k hk; omega) n23.symm hat').symm
      have hb6 := (hP2.mono (show w0.heap.size ≤ w.heap.size by omega)).grown hb5 hb5.size _ hgrow
      have hs6 : w.heap.size ≤ w6.heap.size := by have := hgrow.size; rw [World.size_alloc] at this; omega
      clear hown hgrow hat hat' hP1 hP2 hP3 m12 n23
      go_wp2_with (first | (at_builtin; refine wpList_append_own_at _ rfl (.tmp 216) (.tmp 217) 51 rfl w.heap.size 36 i0 _ 1 4 Try.underlying51 hi hz0 hz1 hz2 rfl (by decide) _ (List.replicate j 1065353216).length ((List.replicate j 1065353216).map fv) rfl (hQ3.out.alloc _) ⟨w6.heap.size, 0, none⟩ 1 1 [fv 1065353216] rfl rfl ?e1 ?e2 ?e3 ?e4 ?e5 ?_) | fail)
      case e1 => first | exact cell_one_new _ _ _ | exact fun j u h => h
      case e2 => first | rfl | (intro u hu; simp at hu; subst hu; rfl)
      case e3 => rw [List.length_replicate]; unfold maxLen; omega
      case e4 => rw [List.length_replicate]; omega
      case e5 => first | (rw [World.size_alloc]; omega) | omega
      intro v3' w7 hown hgrow _ hat
      have hR3 : OwnF w7 w.heap.size v3' (List.replicate j 1065353216 ++ [1065353216]) := ⟨by rw [List.length_append, List.length_replicate, List.map_append, List.map_replicate]; exact hown⟩
      have hR1 := hQ1.other _ hgrow m13
      have hR2 := hQ2.other _ hgrow p23
      have hat' : v3'.ownBlock = u23.ownBlock ∨ v3'.ownBlock = some (w6.heap.size + 1) := hat
      have s13 := apart_new (fun k hk => by have := hQ1.lt k hk; omega) m13 hat'
      have s23 := apart_new (fun k hk => by have := hQ2.lt k hk; omega) p23 hat'
      have hb7 := (hQ3.mono (show w0.heap.size ≤ w.heap.size by omega)).grown hb6 hb6.size _ hgrow
      have hs7 : w.heap.size ≤ w7.heap.size := by have := hgrow.size; rw [World.size_alloc] at this; omega
      clear hown hgrow hat hat' hQ1 hQ2 hQ3 m13 p23
      have hvs' : ∀ v ∈ vs ++ [q], v < 17 := by
        intro v hv
        rcases List.mem_append.1 hv with h | h
        · exact hvs v h
        · rw [List.mem_singleton] at h; omega
      have hl' : (vs ++ [q]).length = j + 1 := by rw [List.length_append, HL.out]; rfl
      have hR1' : OwnF w7 w.heap.size v1' (xD.take (j + 1)) := by rw [xD_take (by omega), HX.out, HXX.out]; exact hR1
      have hR2' : OwnF w7 w.heap.size v2' ((vs ++ [q]).map fun v => qF (v + 8)) := by rw [List.map_append, HYY.out]; show OwnF _ _ _ (Y ++ [qF (q + 8)]); rw [HQ.out]; exact hR2
      have hR3' : OwnF w7 w.heap.size v3' (List.replicate (j + 1) 1065353216) := by rw [List.replicate_succ']; exact hR3
      clear hR1 hR2 hR3
      go_wp2
      go_roundw
      case rel => exact ⟨j + 1, vs ++ [q], by omega, by go_num, hl', hvs', hR1', hR2', hR3', p12, s13, s23, hb7, hs7⟩
      case measure => simp [intOf]; omega
    · have e1 : ¬ (j : Int) ≤ (d : Int) := by omega
      obtain rfl : j = d + 1 := by omega
      have l1 : (xD.take (d + 1)).length = d + 1 := by rw [List.length_take]; show min (d + 1) 3 = d + 1; omega
      have l2 : (vs.map fun v => qF (v + 8)).length = d + 1 := by rw [List.length_map]; exact HL.out
      have l3 : (List.replicate (d + 1) 1065353216).length = d + 1 := List.length_replicate
      obtain ⟨l, hFit⟩ := HF.out d vs hd HL.out hvs
      obtain ⟨g1, c1, rfl, _, _, _⟩ := hO1.form (by omega)
      obtain ⟨g2, c2, rfl, _, _, _⟩ := hO2.form (by omega)
      obtain ⟨g3, c3, rfl, _, _, _⟩ := hO3.form (by omega)
      obtain ⟨A1, c1', h1, hX⟩ := hO1.slice
      obtain ⟨A2, c2', h2, hY⟩ := hO2.slice
      obtain ⟨A3, c3', h3, hW⟩ := hO3.slice
      cases h1
      cases h2
      cases h3
      rw [l1] at hX ⊢
      rw [l2] at hY ⊢
      rw [l3] at hW ⊢
      go_upto_region 31 with (fail)
      exact massFits hb hd hX hY hW hFit (by assumption)
end Go.Proofs.Ytdpogmibahaklaa
