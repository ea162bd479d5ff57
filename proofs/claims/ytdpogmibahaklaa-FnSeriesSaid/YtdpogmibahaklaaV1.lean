/- The statement on series: the walk of its first part. -/
import Derived.Test.YtdpogmibahaklaaV2
set_option linter.unusedVariables false
set_option linter.unusedSimpArgs false
namespace Go.Proofs.Ytdpogmibahaklaa
open Go.RowKit

/-- What is needed of the draws' series. -/
def SerAll : Prop := ∀ (n : Nat) (a b : List C), 2 ≤ n → n ≤ 7 → a.length = n → b.length = n → (∀ x ∈ a, QtrC x) → (∀ x ∈ b, QtrC x) → a.getD 0 zero = one → b.getD 0 zero = zero →
  (∃ iv un ex lsl liv lq lg rt sq ri sl asl aq al t hf sc mo, SerOk1 n a b iv un ex lsl liv lq lg rt sq ri sl asl aq al t hf sc mo) ∧ (∃ tu wy wi, SerOk2 n (b.set 1 one) tu wy wi) ∧ SerOk3 a

theorem OwnC.row' {w : World} {B : Nat} {v : Value} {xs : List C} (h : OwnC w B v xs) (hn : 0 < xs.length) : ∃ g c, v = .slice (some ⟨g, 0, none⟩) xs.length c ∧ RowC w B g xs.length c xs := by
  obtain ⟨g, cap, hv, hB, _, _⟩ := h.form hn
  subst hv
  exact ⟨g, cap, rfl, rfl, hB, h.out⟩

theorem getD_set0 (l : List C) (x : C) (h : 0 < l.length) : (l.set 0 x).getD 0 zero = x := by
  cases l with
  | nil => simp at h
  | cons y ys => rfl
theorem LogC.len {a r sl iv q : List C} (h : LogC a r sl iv q) : r.length = a.length := by rw [riseF_len h.hr, mulSF_len h.hq]

theorem RowC.lower {w : World} {B B' g n c : Nat} {xs : List C} (h : RowC w B g n c xs) (hB : B' ≤ B) : RowC w B' g n c xs := by
  refine ⟨h.len, Nat.le_trans hB h.base, h.own.1, ?_⟩
  rcases h.own.2 with h | ⟨g', cap', cur, h1, h2, h3, h4, h5⟩
  · exact Or.inl h
  · exact Or.inr ⟨g', cap', cur, h1, by omega, h3, h4, h5⟩

theorem ReadsB.lt {w : World} {A : Option Addr} {n : Nat} {zs : List Int} (h : ReadsB w A n zs) : 0 < n → ∀ ad, A = some ad → ad.block < w.heap.size := by
  intro hn ad e
  obtain ⟨ad', e', hc⟩ := h.cells hn
  rw [e] at e'
  injection e' with e'
  have := World.block_lt_of_cell? w _ (hc 0 hn)
  rw [← e'] at this
  have hb : (ad.add 0).block = ad.block := by unfold Addr.add; split <;> rfl
  rw [hb] at this
  exact this

set_option maxRecDepth 100000 in
set_option maxHeartbeats 4000000 in
theorem series_walk (hall : SerAll) (A B : Option Addr) (nc cc mc dc : Nat) (zs ys : List Int) (w : World) (hA : ReadsB w A nc zs) (hB : ReadsB w B mc ys) :
    Calls Try.prog 4 #[.slice A nc cc, .slice B mc dc] w fun e w' => e = .returned (.bool true) ∧ Below w.heap.size w w' := by
  have hAb := hA.lt
  have hBb := hB.lt
  have Hall := Lib.hid hall
  clear hall
  go_enter Try.func4, Try.ntmps4
  go_wp2_with fail
  refine Calls.same (b10Long_any A B nc cc mc dc _ hA.most hB.most) ?_
  go_wp2_with fail
  refine (b10At_any B mc dc ys 0 0 6 _ hB rfl (by omega) (by omega) (by omega)).mono ?_
  rintro e w' ⟨v, rfl, v0, v1, hw'⟩
  obtain rfl : w = w' := hw'.symm
  obtain ⟨p, rfl⟩ := Int.eq_ofNat_of_zero_le v0
  clear hw'
  go_wp2_with fail
  generalize hN : (2 + (p : Int)) = N
  obtain ⟨n, rfl⟩ : ∃ n : Nat, N = (n : Int) := ⟨2 + p, by omega⟩
  have n2 : 2 ≤ n := by omega
  have n7 : n ≤ 7 := by omega
  clear hN v0 v1
  refine (b10Terms_any A nc cc zs n _ hA (by omega) hAb).mono ?_
  rintro e w1 ⟨va, a0, rfl, la, qa, hOa, hb1⟩
  go_wp2_with fail
  refine (b10Terms_any B mc dc ys n _ (hB.below hb1) (by omega) (fun hn ad h => Nat.lt_of_lt_of_le (hBb hn ad h) hb1.size)).mono ?_
  rintro e w2 ⟨vb, b0, rfl, lb, qb, hOb, hb2⟩
  obtain ⟨ga, ca, rfl, hRa⟩ := hOa.row' (by omega)
  obtain ⟨gb, cb, rfl, hRb⟩ := hOb.row' (by omega)
  rw [la] at hRa ⊢
  rw [lb] at hRb ⊢
  have hRa2 := hRa.below hb2
  have hgab : ga < gb := Nat.lt_of_lt_of_le hRa.lt hRb.base
  have hb12 := below_seq hb1 hb2
  have hn0 : (0 : Int) < (n : Int) := by omega
  have sz1 := hb1.size
  clear hOa hOb hb1 hRa
  have fa := hRa2.frozen 0
  have fb := hRb.frozen 0
  have xa : ∃ v, w2.cell? ⟨ga, 0, none⟩ = some v := by
    obtain ⟨ad', e', hc'⟩ := hRa2.reads.cells (by omega)
    cases e'
    exact ⟨_, hc' 0 (by omega)⟩
  obtain ⟨xa, ha0⟩ := xa
  have xb : ∃ v, w2.cell? ⟨gb, 0, none⟩ = some v := by
    obtain ⟨ad', e', hc'⟩ := hRb.reads.cells (by omega)
    cases e'
    exact ⟨_, hc' 0 (by omega)⟩
  obtain ⟨xb, hb0⟩ := xb
  have hne : ga ≠ gb := by omega
  go_wp2_with fail
  have hRa3 : RowC ((w2.setCell ⟨ga, 0, none⟩ (.complex .f32 1065353216 0)).setCell ⟨gb, 0, none⟩ (.complex .f32 0 0)) w.heap.size ga n ca (a0.set 0 one) :=
    (hRa2.stored 0 one).other ((hRb.other (hRa2.grows 0 one) (Ne.symm hne)).grows 0 zero) hne
  have hRb3 : RowC ((w2.setCell ⟨ga, 0, none⟩ (.complex .f32 1065353216 0)).setCell ⟨gb, 0, none⟩ (.complex .f32 0 0)) w1.heap.size gb n cb (b0.set 0 zero) :=
    (hRb.other (hRa2.grows 0 one) (Ne.symm hne)).stored 0 zero
  have hb3 : Below w.heap.size w ((w2.setCell ⟨ga, 0, none⟩ (.complex .f32 1065353216 0)).setCell ⟨gb, 0, none⟩ (.complex .f32 0 0)) :=
    (hb12.setCell hRa2.base _).setCell (Nat.le_trans hRa2.base (Nat.le_of_lt hgab)) _
  have sza : w.heap.size ≤ ga := hRa2.base
  clear hRa2 hRb hb12 hb2 fa fb ha0 hb0
  have la' : (a0.set 0 one).length = n := by rw [List.length_set]; exact la
  have lb' : (b0.set 0 zero).length = n := by rw [List.length_set]; exact lb
  have qa' : ∀ x ∈ a0.set 0 one, QtrC x := by
    intro x hx
    rcases List.mem_or_eq_of_mem_set hx with h | h
    · exact qa x h
    · subst h; exact ⟨by decide, by decide⟩
  have qb' : ∀ x ∈ b0.set 0 zero, QtrC x := by
    intro x hx
    rcases List.mem_or_eq_of_mem_set hx with h | h
    · exact qb x h
    · subst h; exact ⟨by decide, by decide⟩
  have za' : (a0.set 0 one).getD 0 zero = one := getD_set0 _ _ (by omega)
  have zb' : (b0.set 0 zero).getD 0 zero = zero := getD_set0 _ _ (by omega)
  clear la lb qa qb
  generalize a0.set 0 one = a at *
  generalize b0.set 0 zero = b at *
  generalize (w2.setCell ⟨ga, 0, none⟩ (.complex .f32 1065353216 0)).setCell ⟨gb, 0, none⟩ (.complex .f32 0 0) = w3 at *
  clear xa xb
  obtain ⟨⟨iv, un, ex, lsl, liv, lq, lg, rt, sq, ri, sl, asl, aq, al, t, hf, sc, mo, F⟩, ⟨tu, wy, wi, G⟩, Hz⟩ := Hall.out n a b n2 n7 la' lb' qa' qb' za' zb'
  have lun := mulSF_len F.hun
  have liv' : iv.length = n := by rw [invF_len F.hiv, la']
  have lex : ex.length = n := by rw [expF_len F.hex, lb']
  have lrt : rt.length = n := by rw [rootF_len F.hrt, la']
  have lri : ri.length = n := by rw [riseF_len F.hri, la']
  have llg : lg.length = n := by rw [F.hlg.len, lex]
  have lsq := mulSF_len F.hsq
  have lsl' : sl.length = n := by rw [slopeF_len F.hsl, lri]
  have lhf : hf.length = n := by rw [expF_len F.hhf, timesAllF_len F.ht, F.hal.len, la']
  have Llg := Lib.hid llg
  have Lsq := Lib.hid lsq
  have Lsl := Lib.hid lsl'
  have Lhf := Lib.hid lhf
  have Liv := Lib.hid liv'
  have Lun := Lib.hid lun
  have Lex := Lib.hid lex
  have Lrt := Lib.hid lrt
  have Lri := Lib.hid lri
  clear lun liv' lex lrt lri llg lsq lsl' lhf za' zb' la' lb'
  refine (inverse_any a _ n ca iv _ hRa3.reads F.sa F.az F.hiv F.siv).mono ?_
  rintro e w4 ⟨A4, c4, rfl, hO4, hb4⟩
  have R4 := hO4.reads rfl
  rw [Liv.out] at R4 ⊢
  clear hO4
  have hRa4 := hRa3.below hb4
  go_wp2_with fail
  refine (mul_series_any a iv _ A4 n ca c4 un _ hRa4.reads R4 F.sa F.siv F.hun F.sun).mono ?_
  rintro e w5 ⟨A5, c5, rfl, hO5, hb5⟩
  have R5 := hO5.reads rfl
  rw [Lun.out] at R5 ⊢
  clear hO5
  have hRb5 := (hRb3.below hb4).below hb5
  go_wp2_with fail
  refine (exp_any b _ n cb ex _ hRb5.reads F.sb F.bz F.hex F.sex).mono ?_
  rintro e w6 ⟨A6, c6, rfl, hO6, hb6⟩
  have R6 := hO6.reads rfl
  rw [Lex.out] at R6 ⊢
  clear hO6
  go_wp2_with fail
  refine (log_any ex A6 n c6 lg lsl liv lq _ R6 F.hlg).mono ?_
  rintro e w7 ⟨A7, c7, rfl, hO7, hb7⟩
  have R7 := hO7.reads rfl
  rw [Llg.out] at R7 ⊢
  clear hO7
  have hRa7 := ((hRa4.below hb5).below hb6).below hb7
  go_wp2_with fail
  refine (root_any a _ n ca rt _ hRa7.reads F.sa F.ao F.hrt F.srt).mono ?_
  rintro e w8 ⟨A8, c8, rfl, hO8, hb8⟩
  have R8 := hO8.reads rfl
  rw [Lrt.out] at R8 ⊢
  clear hO8
  go_wp2_with fail
  refine (mul_series_any rt rt A8 A8 n c8 c8 sq _ R8 R8 F.srt F.srt F.hsq F.ssq).mono ?_
  rintro e w9 ⟨A9, c9, rfl, hO9, hb9⟩
  have R9 := hO9.reads rfl
  rw [Lsq.out] at R9 ⊢
  clear hO9
  have hRa9 := (hRa7.below hb8).below hb9
  go_wp2_with fail
  refine (rise_any a _ n ca ri _ hRa9.reads F.sa F.hri F.sri).mono ?_
  rintro e w10 ⟨A10, c10, rfl, hO10, hb10⟩
  have R10 := hO10.reads rfl
  rw [Lri.out] at R10 ⊢
  clear hO10
  go_wp2_with fail
  refine (slope_any ri A10 n c10 sl _ R10 F.sri F.hsl F.ssl).mono ?_
  rintro e w11 ⟨A11, c11, rfl, hO11, hb11⟩
  have R11 := hO11.reads rfl
  rw [Lsl.out] at R11 ⊢
  clear hO11
  have hRa11 := (hRa9.below hb10).below hb11
  go_wp2_with fail
  refine (div_series_any a a _ _ n ca ca iv un _ hRa11.reads hRa11.reads F.sa F.sa F.az F.hiv Liv.out F.siv F.hun F.sun).mono ?_
  rintro e w12 ⟨A12, c12, rfl, hO12, hb12⟩
  have R12 := hO12.reads rfl
  rw [Lun.out] at R12 ⊢
  clear hO12
  have hRa12 := hRa11.below hb12
  go_wp2_with fail
  refine (power_series_any a _ n ca half hf al asl iv aq t _ hRa12.reads F.hal ⟨by decide +kernel, by decide +kernel⟩ F.ht F.st F.tz F.hhf F.shf).mono ?_
  rintro e w13 ⟨A13, c13, rfl, hO13, hb13⟩
  have R13 := hO13.reads rfl
  rw [Lhf.out] at R13 ⊢
  clear hO13
  have hRa13 := hRa12.below hb13
  -- what was made before, in the world as it is now
  have B12 := hb13
  have B11 := below_seq hb12 B12
  have B10 := below_seq hb11 B11
  have B9 := below_seq hb10 B10
  have B8 := below_seq hb9 B9
  have B7 := below_seq hb8 B8
  have B6 := below_seq hb7 B7
  have B5 := below_seq hb6 B6
  have B4 := below_seq hb5 B5
  have B3 := below_seq hb4 B4
  have hBb := below_seq hb3 B3
  have S4 := R4.below B4
  have S5 := R5.below B5
  have S6 := R6.below B6
  have S7 := R7.below B7
  have S8 := R8.below B8
  have S9 := R9.below B9
  have S11 := R11.below B11
  have S12 := R12.below B12
  have hRb13 := (hRb3.lower sz1).below B3
  clear R4 R5 R6 R7 R8 R9 R10 R11 R12 hb4 hb5 hb6 hb7 hb8 hb9 hb10 hb11 hb12 hb13 B12 B11 B10 B9 B8 B7 B6 B5 B4 B3 hb3 hRa3 hRa4 hRb5 hRa7 hRa9 hRa11 hRa12 hRb3
  go_wp2_with fail
  refine Calls.below (isSeries_any a _ n ca _ hRa13.reads F.sa) ?_
  intro w14 hb14
  have T4 := S4.below hb14
  have T5 := S5.below hb14
  have T6 := S6.below hb14
  have T7 := S7.below hb14
  have T8 := S8.below hb14
  have T9 := S9.below hb14
  have T11 := S11.below hb14
  have T12 := S12.below hb14
  have T13 := R13.below hb14
  have hRa := hRa13.below hb14
  have hRb := hRb13.below hb14
  have hbel := below_seq hBb hb14
  clear S4 S5 S6 S7 S8 S9 S11 S12 R13 hRa13 hRb13 hBb hb14
  go_upto_region 20 with (fail)
  exact rest18 hRa hRb hne hB hbel T4 T5 T6 T7 T8 T9 T11 T12 T13 F G Hz n2 n7 (by assumption)
end Go.Proofs.Ytdpogmibahaklaa
