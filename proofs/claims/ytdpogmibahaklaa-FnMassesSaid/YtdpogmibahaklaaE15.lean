/- The statement on masses: its walk. -/
import Derived.Test.YtdpogmibahaklaaE13
set_option linter.unusedVariables false
set_option linter.unusedSimpArgs false
namespace Go.Proofs.Ytdpogmibahaklaa
open Go.RowKit

/-- The two masses of a polynomial are near one another. -/
structure NearOk (n : Nat) (xs ws : List Nat) (p : List C) (ma : C) (ri : List C) (a b ex : C) (lo d lw t u : Nat) : Prop where
  val : ValC p
  at_ : ∀ i v, i < n → nestF p (xs.getD i 0, 0) = some v → FinC v
  mass : massF p xs ws = some ma
  fm : FinC ma
  rise : risePolyF p = some ri
  rval : ValC ri
  rtrim : trimN ri ri.length = ri.length
  ha : nestF ri one = some a
  fa : FinC a
  hb : nestF ri (3212836864, 0) = some b
  fb : FinC b
  he : minusF a b = some ex
  fe : FinC ex
  long : longPolyF p = some lo
  fl : finB lo = some true
  far : farwF ma ex = some d
  wl : wide lo = some lw
  ht : o64 .add 4607182418800017408 lw = some t
  hu : o64 .mul 4576918229304087675 t = some u
  gt : (FloatKind.f64.format.order d u == some Ordering.gt) = false
/-- The nodes' weights make 2, and whatever polynomial is drawn, its masses are near. -/
structure MassesOk (n : Nat) (xs ws : List Nat) (S : Nat) : Prop where
  even : EvenOk n xs ws
  lx : xs.length = n
  lw : ws.length = n
  sum : ∃ g, gapF S 4611686018427387904 = some g ∧ (FloatKind.f64.format.order g 4562254508917369340 == some Ordering.gt) = false
  near : ∀ p, Terms p → p.length ≤ 2 * n → ∃ ma ri a b ex lo d lw t u, NearOk n xs ws p ma ri a b ex lo d lw t u

set_option maxRecDepth 1000000 in
set_option maxHeartbeats 4000000 in
theorem massMass {w0 w : World} {A B : Option Addr} {nc ac mc dc n S : Nat} {zs ys : List Int} {xs ws : List Nat} (hA : ReadsB w0 A nc zs) (hB : ReadsB w0 B mc ys) (hAb : 0 < nc → ∀ ad, A = some ad → ad.block < w0.heap.size)
    (hbel : Below w0.heap.size w0 w) (hF : FitsOk) (hM : MassesOk n xs ws S) (n1 : 1 ≤ n) (n8 : n ≤ 8)
    {x2 x3 x4 x6 x7 x8 x10 x11 x12 x13 x14 x15 x16 x17 x18 x19 x20 x21 x22 x23 x24 x25 x26 x27 x28 x29 x30 x31 x32 x33 x34 x35 x36 x37 x38 x39 x40 x41 x42 x43 x44 x45 x46 x47 x48 x49 x50 x51 x52 x53 x54 x55 x56 x57 x58 x59 x60 x61 x62 x63 x64 x65 x66 x67 x68 x69 x70 x71 x72 x73 x74 x75 x76 x77 x78 x79 x80 x81 x82 x83 x84 x85 x86 x87 x88 x89 x90 x91 x92 x93 x94 x95 x96 x97 x98 x99 x100 x101 x102 x103 x104 x105 x106 x107 x108 x109 x110 x111 x112 x113 x114 x115 x116 x117 x118 x119 x120 x121 x122 x123 x124 x125 x126 x127 x128 x129 x130 x131 x132 x133 x134 x135 x136 x137 x138 x139 x140 x141 x142 x143 x144 x145 x146 x147 x148 x149 x150 x151 x152 x153 x154 x155 x156 x157 x158 x159 x160 x161 x162 x163 x164 x165 x166 x167 x168 x169 x170 x171 x172 x173 x174 x175 x176 x177 x178 x179 x180 x181 x182 x183 x184 x185 x186 x187 x188 x189 x190 x191 x192 x193 x194 x195 x196 x197 x198 x199 x200 x201 x202 x203 x204 x205 x206 x207 x208 x209 x210 x211 x212 x213 x214 x215 x216 x217 x218 x219 x220 x221 x222 x223 x224 x225 x226 x227 x228 x229 x230 x231 x232 x233 x234 x235 x236 x237 x238 x239 x240 x241 x242 x243 x244 x245 x246 x247 x248 x249 x250 x251 x252 x253 x254 x255 x256 x257 x258 x259 x260 x261 x262 x263 x264 x265 x266 x267 x268 x269 x270 x271 x272 x273 x274 x275 x276 x277 x278 x279 : Value} {K : Act → World → Prop} (hK : ∀ a w, Code.wp Try.prog (restN 8) (bodyPost Try.prog Try.f6 (MassPost w0)) a w → K a w) :
    Code.wp Try.prog (headC (restN 7)) (Exit.then K (bodyPost Try.prog Try.f6 (MassPost w0))) ⟨#[.slice A nc ac, .slice B mc dc, x2, x3, x4, .int .i64 (n : Int), x6, x7, x8, .float .f64 S, x10, x11, x12, x13, x14, x15, x16, x17, x18, x19, x20, x21, x22, x23, x24, x25, x26, x27, x28, x29, x30, x31, x32, x33, x34, x35, x36, x37, x38, x39, x40, x41, x42, x43, x44, x45, x46, x47, x48, x49, x50, x51, x52, x53, x54, x55, x56, x57, x58, x59, x60, x61, x62, x63, x64, x65, x66, x67, x68, x69, x70, x71, x72, x73, x74, x75, x76, x77, x78, x79, x80, x81, x82, x83, x84, x85, x86, x87, x88, x89, x90, x91, x92, x93, x94, x95, x96, x97, x98, x99, x100, x101, x102, x103, x104, x105, x106, x107, x108, x109, x110, x111, x112, x113, x114, x115, x116, x117, x118, x119, x120, x121, x122, x123, x124, x125, x126, x127, x128, x129, x130, x131, x132, x133, x134, x135, x136, x137, x138, x139, x140, x141, x142, x143, x144, x145, x146, x147, x148, x149, x150, x151, x152, x153, x154, x155, x156, x157, x158, x159, x160, x161, x162, x163, x164, x165, x166, x167, x168, x169, x170, x171, x172, x173, x174, x175, x176, x177, x178, x179, x180, x181, x182, x183, x184, x185, x186, x187, x188, x189, x190, x191, x192, x193, x194, x195, x196, x197, x198, x199, x200, x201, x202, x203, x204, x205, x206, x207, x208, x209, x210, x211, x212, x213, x214, x215, x216, x217, x218, x219, x220, x221, x222, x223, x224, x225, x226, x227, x228, x229, x230, x231, x232, x233, x234, x235, x236, x237, x238, x239, x240, x241, x242, x243, x244, x245, x246, x247, x248, x249, x250, x251, x252, x253, x254, x255, x256, x257, x258, x259, x260, x261, x262, x263, x264, x265, x266, x267, x268, x269, x270, x271, x272, x273, x274, x275, x276, x277, x278, x279], []⟩ w := by
  obtain ⟨cc, hc⟩ : ∃ c, c = restN 8 := ⟨_, rfl⟩
  rw [← hc] at hK
  conv at hc => rhs; whnf
  subst hc
  conv => arg 2; whnf
  obtain ⟨hev, lx, lw, ⟨g, hg, hgt⟩, hnear⟩ := hM
  have HF := Lib.hid hF
  have Hn := Lib.hid hnear
  have Hev := Lib.hid hev
  clear hF hnear hev
  go_wp2_with fail
  all_goals
    refine (r8At_any B mc dc ys 41 41 _ _ (hB.below hbel) rfl (by omega) (by omega) (by omega)).mono ?_
    rintro e w1 ⟨v, rfl, v0, v3, hw1⟩
    subst w1
    obtain ⟨q, rfl⟩ := Int.eq_ofNat_of_zero_le v0
    have hq8 : q + 1 ≤ 8 := by omega
    have hq2 : q + 1 ≤ 2 * n := by omega
    have hq1 : (1 : Int) + (q : Int) = ((q + 1 : Nat) : Int) := by omega
    have hwr : IntKind.i64.wrap (1 + (q : Int)) = 1 + (q : Int) := IntWalk.i64_in _ (by omega)
    clear v0 v3
    have hp := r8Poly_any A nc ac zs (q + 1) w (hA.below hbel) (by omega) (by omega) (fun hn ad hA' => by have := hAb hn ad hA'; have := hbel.size; omega)
    rw [← hq1] at hp
    have HP := Lib.hid hp
    clear hq1 hp
    go_wp2_with fail
    refine HP.out.mono ?_
    rintro e w2 ⟨gp, cp, p, rfl, hl, hT, hR, hb2⟩
    clear HP hwr
    have hbel2 := below_seq hbel hb2
    obtain ⟨ma, ri, a, b, ex, lo, d, lw', t, u, hN⟩ := Hn.out p hT (by omega)
    have A3 : Below w2.heap.size w2 (w2.alloc (Obj.cells #[.slice (some ⟨gp, 0, none⟩) (q + 1) cp] 29)) := (Below.refl _ _).alloc (Nat.le_refl _) _
    have k3 : (w2.alloc (Obj.cells #[.slice (some ⟨gp, 0, none⟩) (q + 1) cp] 29)).cell? ⟨w2.heap.size, 0, none⟩ = some (.slice (some ⟨gp, 0, none⟩) (q + 1) cp) := by simp
    have hR3 := hR.below A3
    have hbel3 := below_seq hbel2 A3
    clear hR hbel hbel2 hb2 A3
    go_wp2_with fail
    generalize hbq : w2.heap.size = bq at *
    generalize w2.alloc (Obj.cells #[.slice (some ⟨gp, 0, none⟩) (q + 1) cp] 29) = w3 at *
    have p1 := massOf_any p (some ⟨gp, 0, none⟩) (q + 1) cp n xs ws ma w3 hR3 hN.val n1 n8 Hev.out lx lw hN.at_ hN.mass hN.fm
    unfold cv at p1
    refine Calls.below p1 ?_
    intro w4 hb4
    have k4 := cell_below hb4 k3
    have hR4 := hR3.below hb4
    have hbel4 := below_seq hbel3 hb4
    clear p1 k3 hR3 hbel3 hb4
    go_wp2_with fail
    have p2 := exact_any p (some ⟨gp, 0, none⟩) (q + 1) cp ri a b ex w4 hR4 hN.val hN.rise hN.rval hN.rtrim hN.ha hN.fa hN.hb hN.fb hN.he hN.fe
    unfold cv at p2
    refine Calls.below p2 ?_
    intro w5 hb5
    have k5 := cell_below hb5 k4
    have hR5 := hR4.below hb5
    have hbel5 := below_seq hbel4 hb5
    clear p2 k4 hR4 hbel4 hb5
    go_wp2_with fail
    refine Calls.below (longPoly_any p (some ⟨gp, 0, none⟩) (q + 1) cp lo w5 hR5 hN.val hN.long hN.fl) ?_
    intro w6 hb6
    have hbel6 := below_seq hbel5 hb6
    have f1 := @run_wide _ _ hN.wl
    have f2 := @run_o64 _ _ _ _ hN.ht
    have f3 := @run_o64 _ _ _ _ hN.hu
    have f4 := hN.gt
    have hf := far_any ma ex d w6 hN.far
    unfold cv at hf
    clear k5 hR5 hbel5 hb6
    go_upto_region 21 with (first | (go_at_call 44; refine Calls.same (gap_any S 4611686018427387904 g _ hg) ?_) | (go_at_call 50; refine Calls.same hf ?_) | simp only [f1, f2, f3, f4, hgt])
    exact massDraws hA hB hbel6 HF.out (by assumption)
end Go.Proofs.Ytdpogmibahaklaa

namespace Go.Proofs.Ytdpogmibahaklaa
open Go.RowKit

/-- A node and its weight. -/
structure NodeAt (n : Nat) (xs ws : List Nat) (i : Nat) (row : List Nat) (a g p q g2 b : Nat) : Prop where
  hrow : rowF 2 n (xs.getD i 0) = some row
  fx : finB (xs.getD i 0) = some true
  fy : finB (row.getD n 0) = some true
  ha : wide (row.getD n 0) = some a
  hg : gapF a 0 = some g
  gt1 : (FloatKind.f64.format.order g 4562254508917369340 == some Ordering.gt) = false
  le : ((FloatKind.f32.format.order (ws.getD i 0) 0 == some Ordering.lt) || (FloatKind.f32.format.order (ws.getD i 0) 0 == some Ordering.eq)) = false
  ge1 : ((FloatKind.f32.format.order (xs.getD i 0) 1065353216 == some Ordering.gt) || (FloatKind.f32.format.order (xs.getD i 0) 1065353216 == some Ordering.eq)) = false
  le1 : ((FloatKind.f32.format.order (xs.getD i 0) 3212836864 == some Ordering.lt) || (FloatKind.f32.format.order (xs.getD i 0) 3212836864 == some Ordering.eq)) = false
  dn : 0 < i → ((FloatKind.f32.format.order (xs.getD i 0) (xs.getD (i - 1) 0) == some Ordering.gt) || (FloatKind.f32.format.order (xs.getD i 0) (xs.getD (i - 1) 0) == some Ordering.eq)) = false
  hp : wide (xs.getD i 0) = some p
  hq : wide (xs.getD (n - 1 - i) 0) = some q
  hg2 : gapF p (Op.negFloat .f64 q) = some g2
  gt2 : (FloatKind.f64.format.order g2 4562254508917369340 == some Ordering.gt) = false
  hb : wide (ws.getD i 0) = some b
def sumW (ws : List Nat) (i : Nat) (s : Nat) : Option Nat := (wide (ws.getD i 0)).bind fun b => o64 .add s b
/-- What the numbers of the statement must give. -/
def MassAll : Prop := FitsOk ∧ ∀ n, 1 ≤ n → n ≤ 8 → ∃ xs ws S, (∀ i, i < n → ∃ row a g p q g2 b, NodeAt n xs ws i row a g p q g2 b) ∧ stepsF (sumW ws) n 0 0 = some S ∧ MassesOk n xs ws S

set_option maxRecDepth 1000000 in
set_option maxHeartbeats 4000000 in
theorem masses_walk (hall : MassAll) (A B : Option Addr) (nc ac mc dc : Nat) (zs ys : List Int) (w0 : World) (hA : ReadsB w0 A nc zs) (hB : ReadsB w0 B mc ys) (hn : nc ≤ 48) (hm : mc ≤ 48) :
    Calls Try.prog 6 #[.slice A nc ac, .slice B mc dc] w0 fun e w' => e = .returned (.bool true) ∧ Below w0.heap.size w0 w' := by
  have hmix : Try.prog.follows .mixedOrders = true := by kernel_rfl
  have hn64 : ∀ (b : Nat), Op.unary .neg (.float .f64 b) = pure (.float .f64 (Op.negFloat .f64 b)) := fun _ => rfl
  have hAb : 0 < nc → ∀ ad, A = some ad → ad.block < w0.heap.size := by
    intro h0 ad e
    obtain ⟨ad', e', hc⟩ := hA.cells h0
    rw [e] at e'
    cases e'
    have := World.block_lt_of_cell? w0 _ (hc 0 h0)
    rw [show ad.add 0 = ad by simp [Addr.add]] at this
    exact this
  obtain ⟨hF, hN⟩ := hall
  go_enter Try.func6, Try.ntmps6
  go_wp2_with fail
  refine Calls.same (r8Long_any _ _ _ _ _ _ _ hn hm) ?_
  go_wp2_with fail
  refine (r8At_any B mc dc ys 40 40 8 _ hB rfl (by omega) (by omega) (by omega)).mono ?_
  rintro e w1 ⟨v, rfl, v0, v3, hw1⟩
  subst w1
  obtain ⟨q, rfl⟩ := Int.eq_ofNat_of_zero_le v0
  obtain ⟨n, hnq⟩ : ∃ n : Nat, n = q + 1 := ⟨_, rfl⟩
  have n1 : 1 ≤ n := by omega
  have n8 : n ≤ 8 := by omega
  have hw : IntKind.i64.wrap (1 + (q : Int)) = (n : Int) := by rw [IntWalk.i64_in _ (by omega)]; omega
  clear v0 v3 hnq
  obtain ⟨xs, ws, S, hat, hsum, hM⟩ := hN n n1 n8
  have hlx := hM.lx
  have hlw := hM.lw
  have he := even_any n xs ws w0 n1 n8 hM.even
  rw [hlx, hlw] at he
  have HF := Lib.hid hF
  have HM := Lib.hid hM
  have Hat := Lib.hid hat
  have HE := Lib.hid he
  clear hF hM hat hN he hlx hlw
  go_wp2_with fail
  refine HE.out.mono ?_
  rintro e w3 ⟨X, cx, Y, cy, rfl, hX, hY, hb3⟩
  clear HE hw
  go_wp2_with fail
  go_loopw [9, 10, 11, 12] (fun s i _ _ wr => ∃ (j S' : Nat), j ≤ n ∧ i = .int .i64 (j : Int) ∧ s = .float .f64 S' ∧ stepsF (sumW ws) (n - j) j S' = some S ∧ Below w3.heap.size w3 wr) (fun _ i _ _ _ => n - (intOf i).toNat)
  case atStart => exact ⟨0, 0, by omega, rfl, rfl, hsum, Below.refl _ _⟩
  case round =>
    clear hsum
    obtain ⟨j, S', hj, rfl, rfl, hrec, hbr⟩ := hrel
    by_cases hlt : j < n
    · have e1 : (j : Int) < (n : Int) := by omega
      obtain ⟨S2, hst, hrec⟩ := stepsF_at hrec hlt
      simp only [sumW, Option.bind_eq_some_iff] at hst
      obtain ⟨b', hb', hS2⟩ := hst
      obtain ⟨row, a, g, p, q, g2, b, hA'⟩ := Hat.out j hlt
      obtain ⟨x1, x2, x3, x4, x5, x6, x7, x8, x9, x10, x11, x12, x13, x14, x15⟩ := hA'
      rw [x15] at hb'
      cases hb'
      obtain ⟨ad, rfl, hc⟩ := (hX.below hbr).cells (by omega)
      have c1 := hc j hlt
      have c2 := hc (j - 1) (by omega)
      have c3 := hc (n - 1 - j) (by omega)
      obtain ⟨bd, rfl, hc'⟩ := (hY.below hbr).cells (by omega)
      have c4 := hc' j hlt
      clear hc hc'
      generalize xs.getD j 0 = x at *
      generalize xs.getD (j - 1) 0 = x' at *
      generalize xs.getD (n - 1 - j) 0 = x'' at *
      generalize ws.getD j 0 = u at *
      generalize hy : row.getD n 0 = y at *
      unfold fv at c1 c2 c3 c4
      go_wp2_with fail
      refine Calls.below (familyAt_any 2 n x y row _ (by omega) (by omega) x2 x1 hy x3) ?_
      intro w5 hb5
      have d1 := cell_below hb5 c1
      have d2 := cell_below hb5 c2
      have d3 := cell_below hb5 c3
      have d4 := cell_below hb5 c4
      have hb6 := hbr.trans (hb5.mono hbr.size)
      have f1 := @run_wide _ _ x4
      have f2 := @run_wide _ _ x11
      have f3 := @run_wide _ _ x12
      have f4 := @run_wide _ _ x15
      have f5 := @run_o64 _ _ _ _ hS2
      have e2 : (n : Int) - 1 - (j : Int) < (n : Int) := by omega
      have e3 : (0 : Int) ≤ (n : Int) - 1 - (j : Int) := by omega
      have e5 : IntKind.i64.wrap ((n : Int) - 1) = (n : Int) - 1 := IntWalk.i64_in _ (by omega)
      have e6 : IntKind.i64.wrap ((n : Int) - 1 - (j : Int)) = (n : Int) - 1 - (j : Int) := IntWalk.i64_in _ (by omega)
      have e7 : ((n : Int) - 1 - (j : Int)).toNat = n - 1 - j := by omega
      clear c1 c2 c3 c4 x1 x2 x3 x4 x11 x12 x15 hS2 hy
      by_cases h0 : j = 0
      · clear x10 d2
        have hz : (decide ((0 : Int) < (j : Int))) = false := by simp [h0]
        have hz2 : ¬ (0 : Int) < (j : Int) := by omega
        have hz3 : ¬ 0 < j := by omega
        have hz4 : decide (0 < j) = false := by simp [h0]
        clear h0
        go_wp2_with fail
        go_quiet (first | (go_at_call 44; exact Calls.quiet_of_same (gap_any _ _ _ _ (by with_reducible assumption))) | simp only [f1, f2, f3, hn64, x6, x7, x8, x9, x14])
        go_wp2_with (simp only [f4, f5])
        go_roundw
        case rel => exact ⟨j + 1, S2, by omega, by go_num, rfl, hrec, hb6.trans (((Drawn.refl w5).step nq).below _)⟩
        case measure => simp [intOf]; omega
      · have x10' := x10 (by omega)
        have hz : (decide ((0 : Int) < (j : Int))) = true := by simp; omega
        have hz2 : (0 : Int) < (j : Int) := by omega
        have hz3 : 0 < j := by omega
        have hz4 : decide (0 < j) = true := by simp; omega
        have e8 : (j : Int) - 1 < (n : Int) := by omega
        have e9 : (0 : Int) ≤ (j : Int) - 1 := by omega
        have e10 : ((j : Int) - 1).toNat = j - 1 := by omega
        clear x10 h0
        go_wp2_with fail
        go_quiet (first | (go_at_call 44; exact Calls.quiet_of_same (gap_any _ _ _ _ (by with_reducible assumption))) | simp only [f1, f2, f3, hn64, x6, x7, x8, x9, x14, x10'])
        go_wp2_with (simp only [f4, f5])
        go_roundw
        case rel => exact ⟨j + 1, S2, by omega, by go_num, rfl, hrec, hb6.trans (((Drawn.refl w5).step nq).below _)⟩
        case measure => simp [intOf]; omega
    · have e1 : ¬ (j : Int) < (n : Int) := by omega
      have e2 := stepsF_end hrec (by omega)
      subst e2
      go_upto_region 15 with (fail)
      exact massMass hA hB hAb (hb3.trans (hbr.mono hb3.size)) HF.out HM.out n1 n8 (by assumption)
end Go.Proofs.Ytdpogmibahaklaa
