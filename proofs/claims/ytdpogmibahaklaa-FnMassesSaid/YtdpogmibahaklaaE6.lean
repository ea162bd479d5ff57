/- The program's fit: the loop that makes its rows' left parts 0. -/
import Derived.Test.YtdpogmibahaklaaE5
import Derived.Deep.CutRange
set_option linter.unusedVariables false
set_option linter.unusedSimpArgs false
namespace Go.Proofs.Ytdpogmibahaklaa
open Go.RowKit

/-- The rows, the outer slice at a place that is known. -/
structure RowsG (w0 w : World) (go n cap m : Nat) (gs : List Nat) (rs : List (List Nat)) : Prop where
  own : w.ownsRow w0.heap.size 51 1 (.slice (some ⟨go, 0, none⟩) n cap) n (gs.map (slv m))
  len : gs.length = n
  mat : Mat w w0.heap.size m gs rs
  bel : Below w0.heap.size w0 w
  out : go ∉ gs
theorem RowsW.toG {w0 w : World} {v : Value} {m : Nat} {gs : List Nat} {rs : List (List Nat)} (h : RowsW w0 w v m gs rs) (hn : 0 < gs.length) : ∃ go cap, v = .slice (some ⟨go, 0, none⟩) gs.length cap ∧ RowsG w0 w go gs.length cap m gs rs := by
  obtain ⟨h1, h2, h3⟩ := h
  have hL : OwnL w w0.heap.size v (gs.map (slv m)) := ⟨by rw [List.length_map]; exact h1⟩
  obtain ⟨go, cap, e, _, _⟩ := hL.form (by rw [List.length_map]; exact hn)
  rw [List.length_map] at e
  subst e
  refine ⟨go, cap, rfl, h1, rfl, h2, h3, fun hm => ?_⟩
  obtain ⟨i, hi, e⟩ := List.mem_iff_getElem.1 hm
  have hr := (h2.at_ i hi).own
  rw [List.getD_eq_getElem?_getD, List.getElem?_eq_getElem hi] at hr
  rcases rows_apart hr h1 (by decide) with h | h
  · cases h
  · exact h (by simp [Value.ownBlock, e])
namespace RowsG
variable {w0 w : World} {go n cap m : Nat} {gs : List Nat} {rs : List (List Nat)}
theorem outer (h : RowsG w0 w go n cap m gs rs) {i : Nat} (hi : i < n) : w.cell? ⟨go, i, none⟩ = some (.slice (some ⟨gs.getD i 0, 0, none⟩) m m) := by
  have hl := h.len
  have := h.own.cells (g := go) rfl i (slv m (gs.getD i 0)) (by rw [List.getElem?_map, List.getD_eq_getElem?_getD, List.getElem?_eq_getElem (by omega)]; rfl)
  rw [Addr.add_lit, Nat.zero_add] at this
  exact this
theorem cell (h : RowsG w0 w go n cap m gs rs) {i j : Nat} (hi : i < n) (hj : j < m) : w.cell? ⟨gs.getD i 0, j, none⟩ = some (.float .f32 (cellF rs i j)) := (h.mat.at_ i (by rw [h.len]; exact hi)).cell hj
theorem frozen (h : RowsG w0 w go n cap m gs rs) {i : Nat} (hi : i < n) (j : Nat) : w.frozen? ⟨gs.getD i 0, j, none⟩ = false := (h.mat.at_ i (by rw [h.len]; exact hi)).frozen j
theorem drawn (h : RowsG w0 w go n cap m gs rs) {w' : World} (hd : Drawn w w') : RowsG w0 w' go n cap m gs rs :=
  ⟨h.own.kept (row := none) ⟨(hd.below 0).os, (hd.below 0).tape, (hd.below 0).output, (hd.below 0).size, fun i _ _ => (hd.below (i + 1)).block i (by omega)⟩ (by simp [Value.ownBlock]), h.len, h.mat.below (hd.below _), h.bel.trans (hd.below _), h.out⟩
theorem base (h : RowsG w0 w go n cap m gs rs) {i : Nat} (hi : i < n) : w0.heap.size ≤ gs.getD i 0 := (h.mat.at_ i (by rw [h.len]; exact hi)).base
theorem mem (h : RowsG w0 w go n cap m gs rs) {i : Nat} (hi : i < n) : gs.getD i 0 ∈ gs := by
  have := h.len
  rw [List.getD_eq_getElem?_getD, List.getElem?_eq_getElem (by omega)]
  exact List.getElem_mem _
/-- A number is stored. -/
theorem stored (h : RowsG w0 w go n cap m gs rs) {i : Nat} (hi : i < n) (j x : Nat) : RowsG w0 (w.setCell ⟨gs.getD i 0, j, none⟩ (.float .f32 x)) go n cap m gs (rs.set i ((rs.getD i []).set j x)) :=
  ⟨ownsRow_setCell_other h.own (by simp only [Value.ownBlock]; intro e; exact h.out (by rw [Option.some.inj e]; exact h.mem hi)) _, h.len, h.mat.stored (by rw [h.len]; exact hi) j x, h.bel.setCell (h.base hi) _, h.out⟩
theorem getD_swap {α : Type} (xs : List α) (k a i : Nat) (d : α) (hk : k < xs.length) (ha : a < xs.length) :
    ((xs.set k (xs.getD a d)).set a (xs.getD k d)).getD i d = xs.getD (if i = a then k else if i = k then a else i) d := by
  rw [List.getD_eq_getElem?_getD, List.getElem?_set, List.length_set]
  by_cases h1 : i = a
  · subst h1
    simp [ha]
  · rw [if_neg (fun e => h1 e.symm), if_neg h1, List.getElem?_set]
    by_cases h2 : i = k
    · subst h2
      simp [hk]
    · rw [if_neg (fun e => h2 e.symm), if_neg h2, List.getD_eq_getElem?_getD]
/-- Two rows change places. -/
theorem swapped (h : RowsG w0 w go n cap m gs rs) {k a : Nat} (hk : k < n) (ha : a < n) :
    RowsG w0 ((w.setCell ⟨go, k, none⟩ (.slice (some ⟨gs.getD a 0, 0, none⟩) m m)).setCell ⟨go, a, none⟩ (.slice (some ⟨gs.getD k 0, 0, none⟩) m m)) go n cap m ((gs.set k (gs.getD a 0)).set a (gs.getD k 0)) (swapF rs k a) := by
  have hl := h.len
  have hlr := h.mat.len
  have hB : w0.heap.size ≤ go := (h.own.lt go rfl).1
  have hs := h.own.stored (g := go) k (slv m (gs.getD a 0))
  have hs2 := hs.1.stored (g := go) a (slv m (gs.getD k 0))
  refine ⟨?_, by rw [List.length_set, List.length_set]; exact hl, ⟨by rw [List.length_set, List.length_set]; unfold swapF; rw [List.length_set, List.length_set]; exact hlr, fun i hi => ?_, ?_⟩, (h.bel.setCell hB _).setCell hB _, ?_⟩
  · have e := hs2.1
    rw [← List.map_set, ← List.map_set] at e
    exact e
  · rw [List.length_set, List.length_set] at hi
    rw [getD_swap gs k a i 0 (by omega) (by omega)]
    unfold swapF
    rw [getD_swap rs k a i [] (by omega) (by omega)]
    have hj : (if i = a then k else if i = k then a else i) < gs.length := by split; omega; split <;> omega
    generalize (if i = a then k else if i = k then a else i) = j at hj ⊢
    have hne : go ≠ gs.getD j 0 := fun e => h.out (by rw [e]; exact h.mem (by omega))
    exact ((h.mat.at_ j hj).other hne _).other hne _
  · rw [List.Nodup, List.pairwise_iff_getElem]
    intro i j hi hj hij
    rw [List.length_set, List.length_set] at hi hj
    have e1 := getD_swap gs k a i 0 (by omega) (by omega)
    have e2 := getD_swap gs k a j 0 (by omega) (by omega)
    rw [List.getD_eq_getElem?_getD, List.getElem?_eq_getElem (by rw [List.length_set, List.length_set]; exact hi)] at e1
    rw [List.getD_eq_getElem?_getD, List.getElem?_eq_getElem (by rw [List.length_set, List.length_set]; exact hj)] at e2
    simp only [Option.getD_some] at e1 e2
    rw [e1, e2]
    refine h.mat.ne ?_ ?_ ?_
    · split; omega; split <;> omega
    · split; omega; split <;> omega
    · split <;> split <;> (try split) <;> (try split) <;> omega
  · intro hm
    obtain ⟨i, hi, e⟩ := List.mem_iff_getElem.1 hm
    rw [List.length_set, List.length_set] at hi
    have e1 := getD_swap gs k a i 0 (by omega) (by omega)
    rw [List.getD_eq_getElem?_getD, List.getElem?_eq_getElem (by rw [List.length_set, List.length_set]; exact hi)] at e1
    simp only [Option.getD_some] at e1
    refine h.out ?_
    rw [← e, e1]
    refine h.mem ?_
    split; omega; split <;> omega
theorem second (h : RowsG w0 w go n cap m gs rs) {k a : Nat} (ha : a < n) (v : Value) : ∃ u, (w.setCell ⟨go, k, none⟩ v).drew.cell? ⟨go, a, none⟩ = some u ∧ (w.setCell ⟨go, k, none⟩ v).drew.frozen? ⟨go, a, none⟩ = false := by
  have hs := (h.own.stored (g := go) k v).1.drew
  have hl := h.len
  have hlt : a < ((gs.map (slv m)).set k v).length := by rw [List.length_set, List.length_map]; omega
  have hc := hs.cells (g := go) rfl a _ (List.getElem?_eq_getElem hlt)
  rw [Addr.add_lit, Nat.zero_add] at hc
  exact ⟨_, hc, hs.frozenAt (g := go) a⟩
end RowsG

set_option maxRecDepth 1000000 in
set_option maxHeartbeats 4000000 in
theorem fitLoopB {w0 w : World} {d go cap : Nat} {gs : List Nat} {rs rE : List (List Nat)} (hd : d ≤ 4) (h : stepsF (roundF (d + 1)) (d + 1) 0 rs = some rE) (h0 : RowsG w0 w go (d + 1) cap (d + 2) gs rs)
    {x0 x1 x2 x3 x4 x5 x6 x7 x8 x9 x10 x13 x14 x15 x16 x17 x18 x19 x20 x21 x22 x23 x24 x25 x26 x27 x28 x29 x30 x31 x32 x33 x34 x35 x36 x37 x38 x39 x40 x41 x42 x43 x44 x45 x46 x47 x48 x49 x50 x51 x52 x53 x54 x55 x56 x57 x58 x59 x60 x61 x62 x63 x64 x65 x66 x67 x68 x69 x70 x71 x72 x73 x74 x75 x76 x77 x78 x79 x80 x81 x82 x83 x84 x85 x86 x87 x88 x89 x90 x91 x92 x93 x94 x95 x96 x97 x98 x99 x100 x101 x102 x103 x104 x105 x106 x107 x108 x109 x110 x111 x112 x113 x114 x115 x116 x117 x118 x119 x120 x121 x122 x123 x124 x125 x126 x127 x128 x129 x130 x131 x132 x133 x134 x135 x136 x137 x138 x139 x140 x141 x142 x143 x144 x145 x146 x147 x148 x149 x150 x151 x152 x153 x154 x155 x156 x157 x158 x159 x160 x161 x162 x163 x164 x165 x166 x167 x168 x169 x170 x171 x172 x173 x174 x175 x176 x177 x178 x179 x180 x181 x182 x183 x184 x185 x186 x187 x188 x189 x190 x191 x192 x193 x194 x195 x196 x197 x198 x199 x200 x201 x202 x203 x204 x205 x206 x207 x208 x209 x210 x211 x212 x213 x214 x215 x216 x217 x218 x219 x220 x221 x222 x223 x224 x225 x226 x227 x228 x229 x230 x231 x232 x233 x234 x235 x236 x237 x238 x239 x240 x241 x242 x243 x244 x245 x246 x247 x248 x249 x250 x251 x252 x253 x254 x255 x256 x257 x258 x259 x260 x261 x262 x263 x264 x265 x266 x267 x268 x269 x270 x271 x272 x273 x274 x275 x276 x277 x278 x279 x280 x281 x282 x283 x284 x285 x286 x287 x288 x289 x290 x291 x292 x293 x294 x295 x296 x297 x298 : Value} {K K1 : Act → World → Prop} {PP : Ending → World → Prop}
    (hK : ∀ a w, Code.wp Try.prog (tailC 1 (headC (restM 7))) (Exit.then K1 (bodyPost Try.prog Try.f59 PP)) a w → K a w)
    (hK1 : ∀ (y9 y20 y21 y22 y23 y24 y25 y26 y27 y28 y29 y30 y31 y32 y33 y34 y35 y36 y37 y38 y39 y40 y41 y42 y43 y44 y45 y46 y47 y48 y49 y50 y51 y52 y53 y54 y55 y56 y57 y58 y59 y60 y61 y62 y63 y64 y65 y66 y67 y68 y69 y70 y71 y72 y73 y74 y75 y76 y77 y78 y79 y80 y81 y82 y83 y84 y85 y86 y87 y88 y89 y90 y91 y92 y93 y94 y95 y96 y97 y98 y99 y100 y101 y102 y103 y104 y105 y106 y107 y108 y109 y110 y111 y112 y113 y114 y115 y116 y117 y118 y119 y120 y121 y122 y123 y124 y125 y126 y127 y128 y129 y130 y131 y132 y133 y134 y135 y136 y137 y138 y139 y140 y141 y142 y143 y144 y145 y146 y147 y148 y149 y150 y151 y152 y153 y154 y155 y156 y157 y158 y159 y160 y161 y162 y163 y164 y165 y166 y167 y168 y169 y170 y171 y172 y173 y174 y175 y176 y177 y178 y179 y180 y181 y182 y183 y184 y185 y186 y187 y188 y189 y190 y191 y192 y193 y194 y195 y196 y197 y198 y199 y200 y201 y202 y203 y204 y205 y206 y207 y208 y209 y210 y211 y212 y213 y214 y215 y216 y217 y218 y219 y220 y221 y222 y223 y224 y225 y226 y227 y228 y229 y230 y231 y232 y233 y234 y235 y236 y237 y238 y239 y240 y241 y242 y243 y244 y245 y246 y247 y248 y249 y250 y251 y252 y253 y254 y255 y256 y257 y258 y259 y260 y261 y262 y263 y264 y265 y266 y267 y268 y269 y270 y271 y272 y273 y274 y275 y276 y277 y278 y279 y280 y281 y282 y283 y284 y285 y286 y287 y288 y289 y290 y291 y292 y293 y294 y295 y296 y297 y298 : Value) (gs : List Nat) (w' : World), RowsG w0 w' go (d + 1) cap (d + 2) gs rE → K1 ⟨#[x0, x1, x2, x3, x4, x5, x6, x7, x8, y9, x10, .int .i64 ((d : Int) + 1), .slice (some ⟨go, 0, none⟩) (d + 1) cap, x13, x14, x15, x16, x17, x18, x19, y20, y21, y22, y23, y24, y25, y26, y27, y28, y29, y30, y31, y32, y33, y34, y35, y36, y37, y38, y39, y40, y41, y42, y43, y44, y45, y46, y47, y48, y49, y50, y51, y52, y53, y54, y55, y56, y57, y58, y59, y60, y61, y62, y63, y64, y65, y66, y67, y68, y69, y70, y71, y72, y73, y74, y75, y76, y77, y78, y79, y80, y81, y82, y83, y84, y85, y86, y87, y88, y89, y90, y91, y92, y93, y94, y95, y96, y97, y98, y99, y100, y101, y102, y103, y104, y105, y106, y107, y108, y109, y110, y111, y112, y113, y114, y115, y116, y117, y118, y119, y120, y121, y122, y123, y124, y125, y126, y127, y128, y129, y130, y131, y132, y133, y134, y135, y136, y137, y138, y139, y140, y141, y142, y143, y144, y145, y146, y147, y148, y149, y150, y151, y152, y153, y154, y155, y156, y157, y158, y159, y160, y161, y162, y163, y164, y165, y166, y167, y168, y169, y170, y171, y172, y173, y174, y175, y176, y177, y178, y179, y180, y181, y182, y183, y184, y185, y186, y187, y188, y189, y190, y191, y192, y193, y194, y195, y196, y197, y198, y199, y200, y201, y202, y203, y204, y205, y206, y207, y208, y209, y210, y211, y212, y213, y214, y215, y216, y217, y218, y219, y220, y221, y222, y223, y224, y225, y226, y227, y228, y229, y230, y231, y232, y233, y234, y235, y236, y237, y238, y239, y240, y241, y242, y243, y244, y245, y246, y247, y248, y249, y250, y251, y252, y253, y254, y255, y256, y257, y258, y259, y260, y261, y262, y263, y264, y265, y266, y267, y268, y269, y270, y271, y272, y273, y274, y275, y276, y277, y278, y279, y280, y281, y282, y283, y284, y285, y286, y287, y288, y289, y290, y291, y292, y293, y294, y295, y296, y297, y298], []⟩ w') :
    Code.wp Try.prog (headC (headC (restM 7))) (Exit.then K (Exit.then K1 (bodyPost Try.prog Try.f59 PP))) ⟨#[x0, x1, x2, x3, x4, x5, x6, x7, x8, x9, x10, .int .i64 ((d : Int) + 1), .slice (some ⟨go, 0, none⟩) (d + 1) cap, x13, x14, x15, x16, x17, x18, x19, x20, x21, x22, x23, x24, x25, x26, x27, x28, x29, x30, x31, x32, x33, x34, x35, x36, x37, x38, x39, x40, x41, x42, x43, x44, x45, x46, x47, x48, x49, x50, x51, x52, x53, x54, x55, x56, x57, x58, x59, x60, x61, x62, x63, x64, x65, x66, x67, x68, x69, x70, x71, x72, x73, x74, x75, x76, x77, x78, x79, x80, x81, x82, x83, x84, x85, x86, x87, x88, x89, x90, x91, x92, x93, x94, x95, x96, x97, x98, x99, x100, x101, x102, x103, x104, x105, x106, x107, x108, x109, x110, x111, x112, x113, x114, x115, x116, x117, x118, x119, x120, x121, x122, x123, x124, x125, x126, x127, x128, x129, x130, x131, x132, x133, x134, x135, x136, x137, x138, x139, x140, x141, x142, x143, x144, x145, x146, x147, x148, x149, x150, x151, x152, x153, x154, x155, x156, x157, x158, x159, x160, x161, x162, x163, x164, x165, x166, x167, x168, x169, x170, x171, x172, x173, x174, x175, x176, x177, x178, x179, x180, x181, x182, x183, x184, x185, x186, x187, x188, x189, x190, x191, x192, x193, x194, x195, x196, x197, x198, x199, x200, x201, x202, x203, x204, x205, x206, x207, x208, x209, x210, x211, x212, x213, x214, x215, x216, x217, x218, x219, x220, x221, x222, x223, x224, x225, x226, x227, x228, x229, x230, x231, x232, x233, x234, x235, x236, x237, x238, x239, x240, x241, x242, x243, x244, x245, x246, x247, x248, x249, x250, x251, x252, x253, x254, x255, x256, x257, x258, x259, x260, x261, x262, x263, x264, x265, x266, x267, x268, x269, x270, x271, x272, x273, x274, x275, x276, x277, x278, x279, x280, x281, x282, x283, x284, x285, x286, x287, x288, x289, x290, x291, x292, x293, x294, x295, x296, x297, x298], []⟩ w := by
  obtain ⟨cc, hc⟩ : ∃ c, c = tailC 1 (headC (restM 7)) := ⟨_, rfl⟩
  rw [← hc] at hK
  conv at hc => rhs; whnf
  subst hc
  conv => arg 2; whnf
  have HK := Lib.hid hK1
  clear hK1
  go_wp2_with fail
  go_loopw [20, 21, 22, 23, 24, 25, 146] (fun _ _ _ _ _ _ i wr => ∃ (k : Nat) (gs : List Nat) (rs : List (List Nat)), k ≤ d + 1 ∧ i = .int .i64 (k : Int) ∧
    stepsF (roundF (d + 1)) (d + 1 - k) k rs = some rE ∧ RowsG w0 wr go (d + 1) cap (d + 2) gs rs) (fun _ _ _ _ _ _ i _ => d + 1 - (intOf i).toNat)
  case atStart => exact ⟨0, gs, rs, by omega, rfl, h, h0⟩
  case round =>
    clear h h0
    obtain ⟨k, gs, rs, hk, rfl, hrec, hR⟩ := hrel
    by_cases hlt : k < d + 1
    · have e1 : (k : Int) < (d : Int) + 1 := by omega
      obtain ⟨rs', hst, hrec⟩ := stepsF_at hrec hlt
      simp only [roundF, Option.bind_eq_some_iff] at hst
      obtain ⟨aE, haE, hst⟩ := hst
      split at hst
      · cases hst
      · rename_i hpz
        unfold pivotF at haE
        have Hst := Lib.hid hst
        have Hrec := Lib.hid hrec
        have Hpz := Lib.hid hpz
        clear hst hrec hpz
        have hwr : ∃ wx, wx = wr := ⟨_, rfl⟩
        obtain ⟨wr0, hwr⟩ := hwr
        go_wp2_with fail
        go_loopw [21, 22] (fun a i wq => ∃ (p a' : Nat), k + 1 ≤ p ∧ p ≤ d + 1 ∧ i = .int .i64 (p : Int) ∧ a = .int .i64 (a' : Int) ∧ k ≤ a' ∧ a' < d + 1 ∧
          stepsF (fun i at_ => some (if FloatKind.f32.format.order (magF (cellF rs i k)) (magF (cellF rs at_ k)) == some .gt then i else at_)) (d + 1 - p) p a' = some aE ∧ Drawn wr0 wq) (fun _ i _ => d + 1 - (intOf i).toNat)
        case atStart => exact ⟨k + 1, k, by omega, by omega, by go_num, rfl, by omega, by omega, haE, by rw [hwr]; exact Drawn.refl _⟩
        case round =>
          clear haE
          obtain ⟨p, a, hp1, hp2, rfl, rfl, ha1, ha2, hpv, hD⟩ := hrel
          rw [hwr] at hD
          have hR1 := hR.drawn hD
          by_cases hpt : p < d + 1
          · have e2 : (p : Int) < (d : Int) + 1 := by omega
            have e3 : (p : Int) < ((d + 1 : Nat) : Int) := by omega
            have e4 : (a : Int) < (d : Int) + 1 := by omega
            have e5 : (k : Int) < (d : Int) + 2 := by omega
            have e6 : (k : Int) < ((d + 2 : Nat) : Int) := by omega
            have e7 : (a : Int) < ((d + 1 : Nat) : Int) := by omega
            obtain ⟨a', hst, hpv⟩ := stepsF_at hpv hpt
            cases hst
            have c1 := hR1.outer hpt
            have c2 := hR1.outer ha2
            have c3 := hR1.cell hpt (show k < d + 2 by omega)
            have c4 := hR1.cell ha2 (show k < d + 2 by omega)
            generalize cellF rs p k = x at *
            generalize cellF rs a k = y at *
            generalize gs.getD p 0 = gp at c1 c3
            generalize gs.getD a 0 = ga at c2 c4
            by_cases hgt : (FloatKind.f32.format.order (magF x) (magF y) == some Ordering.gt) = true
            · rw [if_pos hgt] at hpv
              go_wp2_with fail
              go_quiet (first | (go_at_call 132; exact Calls.quiet_of_same (magnitude_any _ _)) | simp only [hgt])
              go_wp2
              go_roundw
              case rel => exact ⟨p + 1, p, by omega, by omega, by go_num, rfl, by omega, by omega, hpv, by rw [hwr]; exact hD.step nq⟩
              case measure => simp [intOf]; omega
            · rw [if_neg hgt] at hpv
              have hgt' : (FloatKind.f32.format.order (magF x) (magF y) == some Ordering.gt) = false := by simpa using hgt
              clear hgt
              go_wp2_with fail
              go_quiet (first | (go_at_call 132; exact Calls.quiet_of_same (magnitude_any _ _)) | simp only [hgt'])
              go_wp2
              go_roundw
              case rel => exact ⟨p + 1, a, by omega, by omega, by go_num, rfl, by omega, by omega, hpv, by rw [hwr]; exact hD.step nq⟩
              case measure => simp [intOf]; omega
          · have e2 : ¬ (p : Int) < (d : Int) + 1 := by omega
            have e3 := stepsF_end hpv (by omega)
            subst e3
            have e4 : (a : Int) < (d : Int) + 1 := by omega
            have e7 : (a : Int) < ((d + 1 : Nat) : Int) := by omega
            have e8 : (k : Int) < ((d + 1 : Nat) : Int) := by omega
            have c1 := hR1.outer hlt
            have c2 := hR1.outer ha2
            have f1 := hR1.own.frozenAt (g := go) k
            have f2 := hR1.own.frozenAt (g := go) a
            obtain ⟨gk, hgk⟩ : ∃ g, g = gs.getD k 0 := ⟨_, rfl⟩
            obtain ⟨ga, hga⟩ : ∃ g, g = gs.getD a 0 := ⟨_, rfl⟩
            rw [← hgk] at c1
            rw [← hga] at c2
            obtain ⟨u5, c5, f5⟩ := hR1.second (k := k) ha2 (.slice (some ⟨ga, 0, none⟩) (d + 2) (d + 2))
            have hS := hR1.swapped hlt ha2
            rw [← hgk, ← hga] at hS
            have HS := Lib.hid hS
            clear hgk hga hS hR hpv
            go_wp2_with fail
            go_cut [20, 21] from 150 to 170 (fun v20 v21 w' => v20 = .int .i64 (k : Int) ∧ v21 = .int .i64 (a : Int) ∧ RowsG w0 w' go (d + 1) cap (d + 2) ((gs.set k ga).set a gk) (swapF rs k a))
            case first =>
              go_region
              go_wp2
              go_meet
              case rel => exact ⟨rfl, rfl, HS.out.drawn (Drawn.one _)⟩
            case rest =>
              obtain ⟨rfl, rfl, hR2⟩ := hcut
              have hst := Hst.out
              have hpz := Hpz.out
              clear c1 c2 c5 f1 f2 f5 hR1 HS Hst Hpz hD hwr
              generalize (gs.set k ga).set a gk = gs2 at hR2
              generalize swapF rs k a = rs2 at hR2 hst hpz
              have c1 := hR2.outer hlt
              have c2 := hR2.cell hlt (show k < d + 2 by omega)
              generalize cellF rs2 k k = x at c2 hpz
              generalize gs2.getD k 0 = g at c1 c2
              have hpz' : (FloatKind.f32.format.order x 0 == some Ordering.eq) = false := by simpa using hpz
              have e9 : (k : Int) < (d : Int) + 2 := by omega
              have e10 : (k : Int) < ((d + 2 : Nat) : Int) := by omega
              clear hpz
              go_wp2_with (simp only [hpz'])
              clear c1 c2 hpz'
              go_loopw [23, 24, 25] (fun i _ _ wq => ∃ (p : Nat) (r : List (List Nat)), k + 1 ≤ p ∧ p ≤ d + 1 ∧ i = .int .i64 (p : Int) ∧ stepsF (fun i rows => lessF rows k (d + 1) i) (d + 1 - p) p r = some rs' ∧ RowsG w0 wq go (d + 1) cap (d + 2) gs2 r) (fun i _ _ _ => d + 1 - (intOf i).toNat)
              case atStart => exact ⟨k + 1, rs2, by omega, by omega, by go_num, hst, hR2⟩
              case round =>
                clear hst hR2
                obtain ⟨p, r, hp1, hp2, rfl, hpr, hR2⟩ := hrel
                by_cases hpt : p < d + 1
                · have e2 : (p : Int) < (d : Int) + 1 := by omega
                  have e3 : (p : Int) < ((d + 1 : Nat) : Int) := by omega
                  obtain ⟨r', hst, hpr⟩ := stepsF_at hpr hpt
                  simp only [lessF, Option.bind_eq_some_iff] at hst
                  obtain ⟨f, hf, hst⟩ := hst
                  have c1 := hR2.outer hlt
                  have c2 := hR2.outer hpt
                  have c3 := hR2.cell hpt (show k < d + 2 by omega)
                  have c4 := hR2.cell hlt (show k < d + 2 by omega)
                  generalize cellF r p k = x1 at c3 hf
                  generalize cellF r k k = x2 at c4 hf
                  generalize gs2.getD p 0 = gp at c2 c3
                  generalize gs2.getD k 0 = gk at c1 c4
                  have f1 := @run_o32 _ _ _ _ hf
                  have Hpr := Lib.hid hpr
                  clear hf hpr
                  go_wp2_with fail
                  go_quiet (simp only [f1])
                  have hR3 := hR2.drawn ((Drawn.refl wr).step nq)
                  clear c1 c2 c3 c4 f1 hR2
                  generalize wr.drewN nq = w9 at *
                  go_wp2_with fail
                  go_loopw [25] (fun i wq => ∃ (q : Nat) (r2 : List (List Nat)), k + 1 ≤ q ∧ q ≤ d + 2 ∧ i = .int .i64 (q : Int) ∧
                    stepsF (fun j rows => (o32 .mul f (cellF rows k j)).bind fun t => (o32 .sub (cellF rows p j) t).bind fun e => some (rows.set p ((rows.getD p []).set j e))) (d + 2 - q) q r2 = some r' ∧ RowsG w0 wq go (d + 1) cap (d + 2) gs2 r2) (fun i _ => d + 2 - (intOf i).toNat)
                  case atStart => exact ⟨k + 1, r, by omega, by omega, by go_num, hst, hR3⟩
                  case round =>
                    clear hst hR3
                    obtain ⟨q, r2, hq1, hq2, rfl, hqr, hR3⟩ := hrel
                    by_cases hqt : q < d + 2
                    · have e4 : (q : Int) ≤ (d : Int) + 1 := by omega
                      have e5 : (q : Int) < (d : Int) + 2 := by omega
                      have e6 : (q : Int) < ((d + 2 : Nat) : Int) := by omega
                      obtain ⟨r3, hst, hqr⟩ := stepsF_at hqr hqt
                      simp only [Option.bind_eq_some_iff] at hst
                      obtain ⟨t, ht, e, he, hr3⟩ := hst
                      cases hr3
                      have c1 := hR3.outer hlt
                      have c2 := hR3.outer hpt
                      have c3 := hR3.cell hpt hqt
                      have c4 := hR3.cell hlt hqt
                      have c5 := hR3.frozen hpt q
                      generalize cellF r2 k q = x1 at c4 ht
                      generalize cellF r2 p q = x2 at c3 he
                      have hS : ∀ w', Drawn wr w' → RowsG w0 (w'.setCell ⟨gs2.getD p 0, q, none⟩ (.float .f32 e)) go (d + 1) cap (d + 2) gs2 (r2.set p ((r2.getD p []).set q e)) := fun w' hd => (hR3.drawn hd).stored hpt q e
                      generalize gs2.getD p 0 = gp at c2 c3 c5 hS
                      generalize gs2.getD k 0 = gk at c1 c4
                      have f1 := @run_o32 _ _ _ _ ht
                      have f2 := @run_o32 _ _ _ _ he
                      have HS := Lib.hid hS
                      have Hqr := Lib.hid hqr
                      clear ht he hR3 hS hqr
                      go_wp2_with fail
                      refine region_last (by kernel_rfl) (by kernel_rfl) rfl ?_
                      simp only [List.dropLast]
                      repeat (go_big_quiet_step (simp only [f1, f2]))
                      refine wpQuiet_nil ?_
                      intro nq K hKK
                      go_simp
                      refine hKK _ _ ?_
                      clear hKK K
                      have hR4 := HS.out _ ((Drawn.refl wr).step nq)
                      clear c1 c2 c3 c4 c5 f1 f2 HS
                      go_wp2
                      go_roundw
                      case rel => exact ⟨q + 1, _, by omega, by omega, by go_num, Hqr.out, hR4⟩
                      case measure => simp [intOf]; omega
                    · have e4 : ¬ (q : Int) ≤ (d : Int) + 1 := by omega
                      have e5 := stepsF_end hqr (by omega)
                      subst e5
                      go_wp2_with fail
                      go_roundw
                      case rel => exact ⟨p + 1, r2, by omega, by omega, by go_num, Hpr.out, hR3⟩
                      case measure => simp [intOf]; omega
                · have e2 : ¬ (p : Int) < (d : Int) + 1 := by omega
                  have e3 := stepsF_end hpr (by omega)
                  subst e3
                  go_wp2_with fail
                  go_roundw
                  case rel => exact ⟨k + 1, gs2, r, by omega, by go_num, Hrec.out, hR2⟩
                  case measure => simp [intOf]; omega
    · have e1 : ¬ (k : Int) < (d : Int) + 1 := by omega
      have e2 := stepsF_end hrec (by omega)
      subst e2
      go_wp2_with fail
      exact HK.out _ _ _ _ _ _ _ _ _ _ _ _ _ _ _ _ _ _ _ _ _ _ _ _ _ _ _ _ _ _ _ _ _ _ _ _ _ _ _ _ _ _ _ _ _ _ _ _ _ _ _ _ _ _ _ _ _ _ _ _ _ _ _ _ _ _ _ _ _ _ _ _ _ _ _ _ _ _ _ _ _ _ _ _ _ _ _ _ _ _ _ _ _ _ _ _ _ _ _ _ _ _ _ _ _ _ _ _ _ _ _ _ _ _ _ _ _ _ _ _ _ _ _ _ _ _ _ _ _ _ _ _ _ _ _ _ _ _ _ _ _ _ _ _ _ _ _ _ _ _ _ _ _ _ _ _ _ _ _ _ _ _ _ _ _ _ _ _ _ _ _ _ _ _ _ _ _ _ _ _ _ _ _ _ _ _ _ _ _ _ _ _ _ _ _ _ _ _ _ _ _ _ _ _ _ _ _ _ _ _ _ _ _ _ _ _ _ _ _ _ _ _ _ _ _ _ _ _ _ _ _ _ _ _ _ _ _ _ _ _ _ _ _ _ _ _ _ _ _ _ _ _ _ _ _ _ _ _ _ _ _ _ _ _ _ _ _ _ _ _ _ _ _ _ _ _ _ _ _ _ gs wr hR
end Go.Proofs.Ytdpogmibahaklaa
