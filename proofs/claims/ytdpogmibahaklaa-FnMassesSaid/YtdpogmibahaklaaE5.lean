/- The program's fit: the loop that builds its rows. -/
import Derived.Test.YtdpogmibahaklaaE4
import Derived.Deep.QuietTactic
import Derived.Deep.RegionWith
import Derived.BigQuiet
import Derived.Deep.Cut
import Derived.Outline
set_option linter.unusedVariables false
set_option linter.unusedSimpArgs false
namespace Go.Proofs.Ytdpogmibahaklaa
open Go.RowKit

noncomputable def restM (k : Nat) : Code := tailC k (Try.f59.body.getD .skip)
/-- The rows so far: a slice of slices that the call has made. -/
structure RowsW (w0 w : World) (v : Value) (m : Nat) (gs : List Nat) (rs : List (List Nat)) : Prop where
  own : w.ownsRow w0.heap.size 51 1 v gs.length (gs.map (slv m))
  mat : Mat w w0.heap.size m gs rs
  bel : Below w0.heap.size w0 w
theorem RowF.drew {w : World} {B g n : Nat} {xs : List Nat} (h : RowF w B g n xs) : RowF w.drew B g n xs := ⟨h.len, h.base, h.own.drew⟩
theorem rowF_of_made {w1 : World} {B g n : Nat} (h : w1.ownsRow B 36 1 (.slice (some ⟨g, 0, none⟩) n n) n (madeCells #[Value.float .f32 0] n).toList) (hB : B ≤ g) : RowF w1 B g n (List.replicate n 0) := by
  refine ⟨by simp, hB, ?_⟩
  have e : (madeCells #[Value.float .f32 0] n).toList = (List.replicate n 0).map fv := by
    rw [toList_madeCells_one, List.map_replicate]
    rfl
  rw [← e]
  exact h
theorem set_same (row : List Nat) (k : Nat) : row.set k (row.getD k 0) = row := by
  apply List.ext_getElem?
  intro j
  rw [List.getElem?_set]
  split
  · rename_i h
    subst h
    split
    · rename_i h2
      rw [List.getD_eq_getElem?_getD, List.getElem?_eq_getElem h2]
      rfl
    · rename_i h2
      rw [List.getElem?_eq_none (by omega)]
  · rfl
theorem getD_set_self {row : List Nat} {k a : Nat} (h : k < row.length) : (row.set k a).getD k 0 = a := by
  rw [List.getD_eq_getElem?_getD, List.getElem?_set_self h]
  rfl
theorem fitSteps_len {xs ws : List Nat} {i : Nat} : ∀ (n k : Nat) (row r : List Nat), stepsF (fun k row => (fitOneF xs ws (i + k) (row.getD k 0)).bind fun a => some (row.set k a)) n k row = some r → r.length = row.length := by
  intro n k row r h
  refine stepsF_inv (fun s => s.length = row.length) ?_ _ _ _ _ rfl h
  intro j s s' hs h1
  simp only [Option.bind_eq_some_iff] at h1
  obtain ⟨a, _, h2⟩ := h1
  cases h2
  rw [List.length_set]; exact hs

set_option maxRecDepth 1000000 in
set_option maxHeartbeats 4000000 in
theorem fitLoopA {w0 w : World} {A B D : Option Addr} {m ca cb cd d : Nat} {xs ys ws : List Nat} {rows : List (List Nat)} {v : Value}
    (hA : ReadsF w0 A m xs) (hB : ReadsF w0 B m ys) (hD : ReadsF w0 D m ws) (m2 : m ≤ 16) (hd : d ≤ 4) (h : fitRowsF xs ys ws (d + 1) = some rows) (h0 : RowsW w0 w v (d + 2) [] [])
    {x3 x4 x5 x6 x7 x8 x9 x10 x13 x14 x15 x16 x17 x18 x19 x20 x21 x22 x23 x24 x25 x26 x27 x28 x29 x30 x31 x32 x33 x34 x35 x36 x37 x38 x39 x40 x41 x42 x43 x44 x45 x46 x47 x48 x49 x50 x51 x52 x53 x54 x55 x56 x57 x58 x59 x60 x61 x62 x63 x64 x65 x66 x67 x68 x69 x70 x71 x72 x73 x74 x75 x76 x77 x78 x79 x80 x81 x82 x83 x84 x85 x86 x87 x88 x89 x90 x91 x92 x93 x94 x95 x96 x97 x98 x99 x100 x101 x102 x103 x104 x105 x106 x107 x108 x109 x110 x111 x112 x113 x114 x115 x116 x117 x118 x119 x120 x121 x122 x123 x124 x125 x126 x127 x128 x129 x130 x131 x132 x133 x134 x135 x136 x137 x138 x139 x140 x141 x142 x143 x144 x145 x146 x147 x148 x149 x150 x151 x152 x153 x154 x155 x156 x157 x158 x159 x160 x161 x162 x163 x164 x165 x166 x167 x168 x169 x170 x171 x172 x173 x174 x175 x176 x177 x178 x179 x180 x181 x182 x183 x184 x185 x186 x187 x188 x189 x190 x191 x192 x193 x194 x195 x196 x197 x198 x199 x200 x201 x202 x203 x204 x205 x206 x207 x208 x209 x210 x211 x212 x213 x214 x215 x216 x217 x218 x219 x220 x221 x222 x223 x224 x225 x226 x227 x228 x229 x230 x231 x232 x233 x234 x235 x236 x237 x238 x239 x240 x241 x242 x243 x244 x245 x246 x247 x248 x249 x250 x251 x252 x253 x254 x255 x256 x257 x258 x259 x260 x261 x262 x263 x264 x265 x266 x267 x268 x269 x270 x271 x272 x273 x274 x275 x276 x277 x278 x279 x280 x281 x282 x283 x284 x285 x286 x287 x288 x289 x290 x291 x292 x293 x294 x295 x296 x297 x298 : Value} {K K1 : Act → World → Prop} {PP : Ending → World → Prop}
    (hK : ∀ a w, Code.wp Try.prog (tailC 1 (headC (restM 6))) (Exit.then K1 (bodyPost Try.prog Try.f59 PP)) a w → K a w)
    (hK1 : ∀ (y13 y14 y15 y16 y17 y18 y19 y20 y21 y22 y23 y24 y25 y26 y27 y28 y29 y30 y31 y32 y33 y34 y35 y36 y37 y38 y39 y40 y41 y42 y43 y44 y45 y46 y47 y48 y49 y50 y51 y52 y53 y54 y55 y56 y57 y58 y59 y60 y61 y62 y63 y64 y65 y66 y67 y68 y69 y70 y71 y72 y73 y74 y75 y76 y77 y78 y79 y80 y81 y82 y83 y84 y85 y86 y87 y88 y89 y90 y91 y92 y93 y94 y95 y96 y97 y98 y99 y100 y101 y102 y103 y104 y105 y106 y107 y108 y109 y110 y111 y112 y113 y114 y115 y116 y117 y118 y119 y120 y121 y122 y123 y124 y125 y126 y127 y128 y129 y130 y131 y132 y133 y134 y135 y136 y137 y138 y139 y140 y141 y142 y143 y144 y145 y146 y147 y148 y149 y150 y151 y152 y153 y154 y155 y156 y157 y158 y159 y160 y161 y162 y163 y164 y165 y166 y167 y168 y169 y170 y171 y172 y173 y174 y175 y176 y177 y178 y179 y180 y181 y182 y183 y184 y185 y186 y187 y188 y189 y190 y191 y192 y193 y194 y195 y196 y197 y198 y199 y200 y201 y202 y203 y204 y205 y206 y207 y208 y209 y210 y211 y212 y213 y214 y215 y216 y217 y218 y219 y220 y221 y222 y223 y224 y225 y226 y227 y228 y229 y230 y231 y232 y233 y234 y235 y236 y237 y238 y239 y240 y241 y242 y243 y244 y245 y246 y247 y248 y249 y250 y251 y252 y253 y254 y255 y256 y257 y258 y259 y260 y261 y262 y263 y264 y265 y266 y267 y268 y269 y270 y271 y272 y273 y274 y275 y276 y277 y278 y279 y280 y281 y282 y283 y284 y285 y286 y287 y288 y289 y290 y291 y292 y293 y294 y295 y296 y297 y298 v' : Value) (gs : List Nat) (w' : World), RowsW w0 w' v' (d + 2) gs rows → gs.length = d + 1 → K1 ⟨#[.slice A m ca, .slice B m cb, .slice D m cd, x3, x4, x5, x6, x7, x8, x9, x10, .int .i64 ((d : Int) + 1), v', y13, y14, y15, y16, y17, y18, y19, y20, y21, y22, y23, y24, y25, y26, y27, y28, y29, y30, y31, y32, y33, y34, y35, y36, y37, y38, y39, y40, y41, y42, y43, y44, y45, y46, y47, y48, y49, y50, y51, y52, y53, y54, y55, y56, y57, y58, y59, y60, y61, y62, y63, y64, y65, y66, y67, y68, y69, y70, y71, y72, y73, y74, y75, y76, y77, y78, y79, y80, y81, y82, y83, y84, y85, y86, y87, y88, y89, y90, y91, y92, y93, y94, y95, y96, y97, y98, y99, y100, y101, y102, y103, y104, y105, y106, y107, y108, y109, y110, y111, y112, y113, y114, y115, y116, y117, y118, y119, y120, y121, y122, y123, y124, y125, y126, y127, y128, y129, y130, y131, y132, y133, y134, y135, y136, y137, y138, y139, y140, y141, y142, y143, y144, y145, y146, y147, y148, y149, y150, y151, y152, y153, y154, y155, y156, y157, y158, y159, y160, y161, y162, y163, y164, y165, y166, y167, y168, y169, y170, y171, y172, y173, y174, y175, y176, y177, y178, y179, y180, y181, y182, y183, y184, y185, y186, y187, y188, y189, y190, y191, y192, y193, y194, y195, y196, y197, y198, y199, y200, y201, y202, y203, y204, y205, y206, y207, y208, y209, y210, y211, y212, y213, y214, y215, y216, y217, y218, y219, y220, y221, y222, y223, y224, y225, y226, y227, y228, y229, y230, y231, y232, y233, y234, y235, y236, y237, y238, y239, y240, y241, y242, y243, y244, y245, y246, y247, y248, y249, y250, y251, y252, y253, y254, y255, y256, y257, y258, y259, y260, y261, y262, y263, y264, y265, y266, y267, y268, y269, y270, y271, y272, y273, y274, y275, y276, y277, y278, y279, y280, y281, y282, y283, y284, y285, y286, y287, y288, y289, y290, y291, y292, y293, y294, y295, y296, y297, y298], []⟩ w') :
    Code.wp Try.prog (headC (headC (restM 6))) (Exit.then K (Exit.then K1 (bodyPost Try.prog Try.f59 PP))) ⟨#[.slice A m ca, .slice B m cb, .slice D m cd, x3, x4, x5, x6, x7, x8, x9, x10, .int .i64 ((d : Int) + 1), v, x13, x14, x15, x16, x17, x18, x19, x20, x21, x22, x23, x24, x25, x26, x27, x28, x29, x30, x31, x32, x33, x34, x35, x36, x37, x38, x39, x40, x41, x42, x43, x44, x45, x46, x47, x48, x49, x50, x51, x52, x53, x54, x55, x56, x57, x58, x59, x60, x61, x62, x63, x64, x65, x66, x67, x68, x69, x70, x71, x72, x73, x74, x75, x76, x77, x78, x79, x80, x81, x82, x83, x84, x85, x86, x87, x88, x89, x90, x91, x92, x93, x94, x95, x96, x97, x98, x99, x100, x101, x102, x103, x104, x105, x106, x107, x108, x109, x110, x111, x112, x113, x114, x115, x116, x117, x118, x119, x120, x121, x122, x123, x124, x125, x126, x127, x128, x129, x130, x131, x132, x133, x134, x135, x136, x137, x138, x139, x140, x141, x142, x143, x144, x145, x146, x147, x148, x149, x150, x151, x152, x153, x154, x155, x156, x157, x158, x159, x160, x161, x162, x163, x164, x165, x166, x167, x168, x169, x170, x171, x172, x173, x174, x175, x176, x177, x178, x179, x180, x181, x182, x183, x184, x185, x186, x187, x188, x189, x190, x191, x192, x193, x194, x195, x196, x197, x198, x199, x200, x201, x202, x203, x204, x205, x206, x207, x208, x209, x210, x211, x212, x213, x214, x215, x216, x217, x218, x219, x220, x221, x222, x223, x224, x225, x226, x227, x228, x229, x230, x231, x232, x233, x234, x235, x236, x237, x238, x239, x240, x241, x242, x243, x244, x245, x246, x247, x248, x249, x250, x251, x252, x253, x254, x255, x256, x257, x258, x259, x260, x261, x262, x263, x264, x265, x266, x267, x268, x269, x270, x271, x272, x273, x274, x275, x276, x277, x278, x279, x280, x281, x282, x283, x284, x285, x286, x287, x288, x289, x290, x291, x292, x293, x294, x295, x296, x297, x298], []⟩ w := by
  obtain ⟨cc, hc⟩ : ∃ c, c = tailC 1 (headC (restM 6)) := ⟨_, rfl⟩
  rw [← hc] at hK
  conv at hc => rhs; whnf
  subst hc
  conv => arg 2; whnf
  obtain ⟨i0, hi, hz0, hz1, hz2⟩ := info_parts Try.info36
  obtain ⟨i1, hi', hy0, hy1, hy2⟩ := info_parts Try.info51
  have lx := hA.len
  unfold fitRowsF at h
  have HK := Lib.hid hK1
  clear hK1
  go_wp2_with fail
  go_loopw [12, 13, 14, 15, 16, 17, 18, 19, 78] (fun v _ _ _ _ _ _ _ i wr => ∃ (k : Nat) (gs : List Nat) (rs : List (List Nat)), k ≤ d + 1 ∧ i = .int .i64 (k : Int) ∧ gs.length = k ∧
    stepsF (fun i rows => (fitRowF xs ys ws (d + 1) i).bind fun r => some (rows ++ [r])) (d + 1 - k) k rs = some rows ∧ RowsW w0 wr v (d + 2) gs rs) (fun _ _ _ _ _ _ _ _ i _ => d + 1 - (intOf i).toNat)
  case atStart => exact ⟨0, [], [], by omega, rfl, rfl, h, h0⟩
  case round =>
    clear h h0
    obtain ⟨k, gs, rs, hk, rfl, hgs, hrec, hR⟩ := hrel
    have Hgs := Lib.hid hgs
    clear hgs
    by_cases hlt : k < d + 1
    · have e1 : (k : Int) < (d : Int) + 1 := by omega
      obtain ⟨rs', hst, hrec⟩ := stepsF_at hrec hlt
      simp only [fitRowF, Option.bind_eq_some_iff] at hst
      obtain ⟨r, ⟨row, hrow, aL, haL, hr⟩, hrs⟩ := hst
      cases hr
      cases hrs
      have hrl := fitSteps_len _ _ _ _ hrow
      rw [List.length_replicate] at hrl
      have Hrl := Lib.hid hrl
      have HaL := Lib.hid haL
      have hb := hR.bel
      have hbs := hb.size
      clear hrl haL
      go_wp2_with (at_make; refine wpList_make_full _ rfl (.tmp 82) (.tmp 82) 51 rfl w0.heap.size 36 i0 _ 1 Try.underlying51 hi hz0 hz1 .i64 .i64 _ _ (d + 2) rfl rfl ?q1 ?q2 ?m1 ?m2 ?m3 ?_)
      case q1 => omega
      case q2 => omega
      case m1 => rw [hz2]; omega
      case m2 => unfold maxLen; omega
      case m3 => exact hbs
      intro w3 hown hgrow
      rw [Nat.mul_one] at hown
      have hN := rowF_of_made hown hbs
      have hb3 : Below wr.heap.size wr w3 := (Below.refl _ _).grown hgrow (Nat.le_refl _) (by intro k hk; cases hk)
      clear hown hgrow
      have hRb := hR
      generalize hwb : wr = wb at *
      generalize hg : wb.heap.size = g at *
      go_wp2_with fail
      go_loopw [15, 16, 17, 85] (fun _ _ _ i wq => ∃ (p : Nat) (rw' : List Nat), p ≤ d + 1 ∧ i = .int .i64 (p : Int) ∧ stepsF (fun q row => (fitOneF xs ws (k + q) (row.getD q 0)).bind fun a => some (row.set q a)) (d + 1 - p) p rw' = some row ∧ RowF wq w0.heap.size g (d + 2) rw' ∧ Below g wb wq) (fun _ _ _ i _ => d + 1 - (intOf i).toNat)
      case atStart => exact ⟨0, _, by omega, rfl, hrow, hN, hb3⟩
      case round =>
        have Hrec := Lib.hid hrec
        clear hrow hN hb3 hR hrec
        obtain ⟨p, r', hp, rfl, hrw, hN, hbq⟩ := hrel
        by_cases hpt : p < d + 1
        · have e2 : (p : Int) < (d : Int) + 1 := by omega
          obtain ⟨r'', hst, hrw⟩ := stepsF_at hrw hpt
          simp only [Option.bind_eq_some_iff] at hst
          obtain ⟨aE, haE, hr'⟩ := hst
          cases hr'
          unfold fitOneF at haE
          rw [lx] at haE
          have hN0 : RowF wr w0.heap.size g (d + 2) (r'.set p (r'.getD p 0)) := by rw [set_same]; exact hN
          go_wp2_with fail
          go_loopw [16, 17, 90] (fun _ _ i wz => ∃ (j a : Nat), j ≤ m ∧ i = .int .i64 (j : Int) ∧ stepsF (fun j a => (powF (xs.getD j 0) (k + p)).bind fun q => (o32 .mul (ws.getD j 0) q).bind fun t => o32 .add a t) (m - j) j a = some aE ∧ RowF wz w0.heap.size g (d + 2) (r'.set p a) ∧ Below g wb wz) (fun _ _ i _ => m - (intOf i).toNat)
          case atStart => exact ⟨0, _, by omega, rfl, haE, hN0, hbq⟩
          case round =>
            have hlr := hN.len
            have HR := Lib.hid hrw
            clear haE hN0 hN hbq hrw
            obtain ⟨j, a, hj, rfl, hjs, hN, hbq⟩ := hrel
            have hbq' : Below wb.heap.size wb wr := by rw [hg]; exact hbq
            have hb0 := hRb.bel.trans (hbq'.mono hRb.bel.size)
            by_cases hjt : j < m
            · have e3 : (j : Int) < (m : Int) := by omega
              obtain ⟨a', hst, hjs⟩ := stepsF_at hjs hjt
              simp only [Option.bind_eq_some_iff] at hst
              obtain ⟨q, hq, t, ht, ha'⟩ := hst
              obtain ⟨ad, rfl, hc⟩ := (hA.below hb0).cells (by omega)
              have c1 := hc j hjt
              obtain ⟨dd, rfl, hc'⟩ := (hD.below hb0).cells (by omega)
              have c2 := hc' j hjt
              have c3 := hN.cell (show p < d + 2 by omega)
              rw [getD_set_self (by omega)] at c3
              have c4 := hN.frozen p
              clear hc hc'
              generalize xs.getD j 0 = x at c1 hq
              generalize ws.getD j 0 = u at c2 ht
              unfold fv at c1 c2
              have f1 := @run_o32 _ _ _ _ ht
              have f2 := @run_o32 _ _ _ _ ha'
              have e4 : (p : Int) < (d : Int) + 2 := by omega
              have e5 : (p : Int) < ((d + 2 : Nat) : Int) := by omega
              have e6 : IntKind.i64.wrap ((k : Int) + (p : Int)) = (k : Int) + (p : Int) := IntWalk.i64_in _ (by omega)
              clear ht ha'
              go_wp2_with fail
              refine region_last (by kernel_rfl) (by kernel_rfl) rfl ?_
              simp only [List.dropLast]
              repeat (go_big_quiet_step (first | (go_at_call 131; exact Calls.quiet_of_same (powerOf_any x (k + p) q _ _ (by first | omega | (rw [e6]; omega)) (by omega) hq)) | simp only [f1, f2]))
              refine wpQuiet_nil ?_
              intro nq K hKK
              go_simp
              refine hKK _ _ ?_
              clear hKK K
              have hN9 : RowF ((wr.drewN nq).setCell ⟨g, p, none⟩ (.float .f32 a')) w0.heap.size g (d + 2) (r'.set p a') := by
                have h9 := (hN.below (((Drawn.refl wr).step nq).below _)).stored p a'
                rw [List.set_set] at h9
                exact h9
              have hb9 : Below g wb ((wr.drewN nq).setCell ⟨g, p, none⟩ (.float .f32 a')) := (hbq.trans (((Drawn.refl wr).step nq).below _)).setCell (Nat.le_refl g) _
              clear hN hbq hbq' hb0 c1 c2 c3 c4
              go_wp2
              go_roundw
              case rel => exact ⟨j + 1, a', by omega, by go_num, hjs, hN9, hb9⟩
              case measure => simp [intOf]; omega
            · have e3 : ¬ (j : Int) < (m : Int) := by omega
              have e4 := stepsF_end hjs (by omega)
              subst e4
              go_wp2_with fail
              go_roundw
              case rel => exact ⟨p + 1, r'.set p a, by omega, by go_num, HR.out, hN, hbq⟩
              case measure => simp [intOf]; omega
        · have e2 : ¬ (p : Int) < (d : Int) + 1 := by omega
          have e3 := stepsF_end hrw (by omega)
          subst e3
          have haL := HaL.out
          unfold fitLastF at haL
          rw [lx] at haL
          have hrl := Hrl.out
          have hN0 : RowF wr w0.heap.size g (d + 2) (r'.set (d + 1) (r'.getD (d + 1) 0)) := by rw [set_same]; exact hN
          go_wp2_with fail
          go_loopw [18, 19, 115] (fun _ _ i wz => ∃ (j a : Nat), j ≤ m ∧ i = .int .i64 (j : Int) ∧ stepsF (fun j a => (powF (xs.getD j 0) k).bind fun q => (o32 .mul (ws.getD j 0) q).bind fun t => (o32 .mul t (ys.getD j 0)).bind fun u => o32 .add a u) (m - j) j a = some aL ∧ RowF wz w0.heap.size g (d + 2) (r'.set (d + 1) a) ∧ Below g wb wz) (fun _ _ i _ => m - (intOf i).toNat)
          case atStart => exact ⟨0, _, by omega, rfl, haL, hN0, hbq⟩
          case round =>
            clear haL hN0 hN hbq
            obtain ⟨j, a, hj, rfl, hjs, hN, hbq⟩ := hrel
            have hbq' : Below wb.heap.size wb wr := by rw [hg]; exact hbq
            have hb0 := hRb.bel.trans (hbq'.mono hRb.bel.size)
            by_cases hjt : j < m
            · have e3 : (j : Int) < (m : Int) := by omega
              obtain ⟨a', hst, hjs⟩ := stepsF_at hjs hjt
              simp only [Option.bind_eq_some_iff] at hst
              obtain ⟨q, hq, t, ht, t2, ht2, ha'⟩ := hst
              obtain ⟨ad, rfl, hc⟩ := (hA.below hb0).cells (by omega)
              have c1 := hc j hjt
              obtain ⟨dd, rfl, hc'⟩ := (hD.below hb0).cells (by omega)
              have c2 := hc' j hjt
              obtain ⟨bd, rfl, hc2⟩ := (hB.below hb0).cells (by omega)
              have c5 := hc2 j hjt
              have c3 := hN.cell (show d + 1 < d + 2 by omega)
              rw [getD_set_self (by omega)] at c3
              have c4 := hN.frozen (d + 1)
              clear hc hc' hc2
              generalize xs.getD j 0 = x at c1 hq
              generalize ws.getD j 0 = u at c2 ht
              generalize ys.getD j 0 = y at c5 ht2
              unfold fv at c1 c2 c5
              have f1 := @run_o32 _ _ _ _ ht
              have f3 := @run_o32 _ _ _ _ ht2
              have f2 := @run_o32 _ _ _ _ ha'
              have e4 : (d : Int) + 1 < ((d + 2 : Nat) : Int) := by omega
              have e5 : ((d : Int) + 1).toNat = d + 1 := by omega
              clear ht ha' ht2
              go_wp2_with fail
              refine region_last (by kernel_rfl) (by kernel_rfl) rfl ?_
              simp only [List.dropLast]
              repeat (go_big_quiet_step (first | (go_at_call 131; exact Calls.quiet_of_same (powerOf_any x k q _ _ rfl (by omega) hq)) | simp only [f1, f2, f3]))
              refine wpQuiet_nil ?_
              intro nq K hKK
              go_simp
              refine hKK _ _ ?_
              clear hKK K
              have hN9 : RowF ((wr.drewN nq).setCell ⟨g, d + 1, none⟩ (.float .f32 a')) w0.heap.size g (d + 2) (r'.set (d + 1) a') := by
                have h9 := (hN.below (((Drawn.refl wr).step nq).below _)).stored (d + 1) a'
                rw [List.set_set] at h9
                exact h9
              have hb9 : Below g wb ((wr.drewN nq).setCell ⟨g, d + 1, none⟩ (.float .f32 a')) := (hbq.trans (((Drawn.refl wr).step nq).below _)).setCell (Nat.le_refl g) _
              clear hN hbq hbq' hb0 c1 c2 c3 c4 c5
              go_wp2
              go_roundw
              case rel => exact ⟨j + 1, a', by omega, by go_num, hjs, hN9, hb9⟩
              case measure => simp [intOf]; omega
            · have e3 : ¬ (j : Int) < (m : Int) := by omega
              have e4 := stepsF_end hjs (by omega)
              subst e4
              have Hgl := Hgs.out
              have hOw := hRb.own.kept (row := none) (w' := wr) ⟨hbq'.os, hbq'.tape, hbq'.output, hbq'.size, fun i hi _ => hbq'.block i hi⟩ (by cases u12.ownBlock <;> simp)
              have hMt := hRb.mat.below hbq'
              have hgn : g ∉ gs := fun hm => by have := hRb.mat.lt g hm; omega
              have hMt2 := hMt.push hN hgn
              have hsz := hb0.size
              clear hjs
              go_wp2_with (at_builtin; refine wpList_append_own _ rfl (.tmp 140) (.tmp 142) 109 rfl w0.heap.size 51 i1 _ 1 24 Try.underlying109 hi' hy0 hy1 hy2 rfl (by decide) _ gs.length (gs.map (slv (d + 2))) rfl (hOw.alloc _) ⟨wr.heap.size, 0, none⟩ 1 1 [slv (d + 2) g] rfl rfl ?c1 ?c2 ?c3 ?c4 ?c5 ?_)
              case c1 => first | exact cell_one_new _ _ _ | exact fun j u h => h
              case c2 => first | rfl | (intro u hu; simp at hu; subst hu; rfl)
              case c3 => unfold maxLen; omega
              case c4 => omega
              case c5 => first | (rw [World.size_alloc]; omega) | omega
              intro v' w5 hown hgrow _
              have hal : Below wr.heap.size wr (wr.alloc (Obj.cells #[slv (d + 2) g] 51)) := (Below.refl _ _).alloc (Nat.le_refl _) _
              have hLa := hOw.alloc (o := Obj.cells #[slv (d + 2) g] 51)
              have hM5 := (hMt2.below hal).grown hgrow (fun g' hg' => by
                obtain ⟨i, hi, rfl⟩ := List.mem_iff_getElem.1 hg'
                have hr := ((hMt2.below hal).at_ i hi).own
                rw [List.getD_eq_getElem?_getD, List.getElem?_eq_getElem hi] at hr
                rcases rows_apart hr hLa (by decide) with h | h
                · cases h
                · exact fun e => h e.symm)
              have hb5 : Below w0.heap.size w0 w5 := (hb0.alloc hsz _).grown hgrow (by rw [World.size_alloc]; omega) (fun k hk => (hLa.lt k hk).1)
              have hown5 : w5.ownsRow w0.heap.size 51 1 v' (gs ++ [g]).length ((gs ++ [g]).map (slv (d + 2))) := by
                rw [List.length_append, List.map_append]
                exact hown
              have hR5 : RowsW w0 w5 v' (d + 2) (gs ++ [g]) (rs ++ [r'.set (d + 1) a]) := ⟨hown5, hM5, hb5⟩
              have hl5 : (gs ++ [g]).length = k + 1 := by rw [List.length_append, Hgl]; rfl
              clear hown hgrow hOw hMt hMt2 hal hLa hM5 hb5 hown5 hbq hbq' hb0 hN
              go_wp2
              go_roundw
              case rel => exact ⟨k + 1, gs ++ [g], rs ++ [r'.set (d + 1) a], by omega, by go_num, hl5, Hrec.out, hR5⟩
              case measure => simp [intOf]; omega
    · have e1 : ¬ (k : Int) < (d : Int) + 1 := by omega
      have e2 := stepsF_end hrec (by omega)
      subst e2
      have hgl := Hgs.out
      go_wp2_with fail
      exact HK.out _ _ _ _ _ _ _ _ _ _ _ _ _ _ _ _ _ _ _ _ _ _ _ _ _ _ _ _ _ _ _ _ _ _ _ _ _ _ _ _ _ _ _ _ _ _ _ _ _ _ _ _ _ _ _ _ _ _ _ _ _ _ _ _ _ _ _ _ _ _ _ _ _ _ _ _ _ _ _ _ _ _ _ _ _ _ _ _ _ _ _ _ _ _ _ _ _ _ _ _ _ _ _ _ _ _ _ _ _ _ _ _ _ _ _ _ _ _ _ _ _ _ _ _ _ _ _ _ _ _ _ _ _ _ _ _ _ _ _ _ _ _ _ _ _ _ _ _ _ _ _ _ _ _ _ _ _ _ _ _ _ _ _ _ _ _ _ _ _ _ _ _ _ _ _ _ _ _ _ _ _ _ _ _ _ _ _ _ _ _ _ _ _ _ _ _ _ _ _ _ _ _ _ _ _ _ _ _ _ _ _ _ _ _ _ _ _ _ _ _ _ _ _ _ _ _ _ _ _ _ _ _ _ _ _ _ _ _ _ _ _ _ _ _ _ _ _ _ _ _ _ _ _ _ _ _ _ _ _ _ _ _ _ _ _ _ _ _ _ _ _ _ _ _ _ _ _ _ _ _ _ _ _ _ _ _ _ gs wr hR (by omega)
end Go.Proofs.Ytdpogmibahaklaa
