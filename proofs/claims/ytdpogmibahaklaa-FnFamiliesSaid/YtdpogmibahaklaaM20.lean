/- The statement on families: what is concrete in it, as checks. -/
import Derived.Test.YtdpogmibahaklaaM19
set_option linter.unusedVariables false
set_option linter.unusedSimpArgs false
namespace Go.Proofs.Ytdpogmibahaklaa
open Go.RowKit

def finsB (x : Nat) : Bool := finB x == some true
def finCB (z : C) : Bool := finsB z.1 && finsB z.2
def gt64 (x y : Nat) : Bool := FloatKind.f64.format.order x y == some Ordering.gt
def eq32 (x y : Nat) : Bool := FloatKind.f32.format.order x y == some Ordering.eq
theorem finsB_iff {x : Nat} : finsB x = true ↔ finB x = some true := by simp [finsB]
theorem finCB_iff {z : C} : finCB z = true ↔ FinC z := by simp [finCB, FinC, finsB]

/-- A valid polynomial? -/
def valB (p : List C) : Bool := decide (1 ≤ p.length) && decide (p.length ≤ 16) && p.all finCB && (decide (p.length = 1) || !isZ (p.getD (p.length - 1) zero))
theorem valB_ok {p : List C} (h : valB p = true) : ValC p := by
  simp only [valB, Bool.and_eq_true, decide_eq_true_eq, Bool.or_eq_true, List.all_eq_true, Bool.not_eq_true'] at h
  exact ⟨h.1.1.1, h.1.1.2, fun x hx => finCB_iff.1 (h.1.2 x hx), h.2⟩
def famB (kind k : Nat) : Bool :=
  match famPolyF kind k with
  | some f => valB f && decide (trimN f f.length = f.length) && decide (f.length = k + 1)
  | none => false
theorem famB_ok {kind k : Nat} (h : famB kind k = true) : ∃ f, FamOk kind k f := by
  unfold famB at h
  cases hf : famPolyF kind k with
  | none => rw [hf] at h; cases h
  | some f =>
    rw [hf] at h
    simp only [Bool.and_eq_true, decide_eq_true_eq] at h
    exact ⟨f, hf, valB_ok h.1.1, h.1.2, h.2⟩

def firstC (f : List C) (x y : Nat) : Option Bool :=
  (nestF f (x, 0)).bind fun v => (wide v.1).bind fun a => (wide y).bind fun b => (gapF a b).bind fun g => (sizeF f (x, 0)).bind fun s => (o64 .add 4607182418800017408 s).bind fun t => (o64 .mul 4576918229304087675 t).bind fun u =>
    some (finCB v && !gt64 g u)
def firstB (kind n x : Nat) : Bool :=
  match rowF kind n x, famPolyF kind n with
  | some row, some f => row.all finsB && eq32 (row.getD 0 0) 1065353216 && finsB x && finCB (x, 0) && finsB (row.getD n 0) && eq32 (row.getD n 0) (row.getD n 0) && famB kind n && (firstC f x (row.getD n 0) == some true)
  | _, _ => false
theorem firstB_ok {kind n x : Nat} (h : firstB kind n x = true) : ∃ y row f, FirstOk kind n x y row f := by
  unfold firstB at h
  cases hr : rowF kind n x with
  | none => rw [hr] at h; simp at h
  | some row =>
    cases hf : famPolyF kind n with
    | none => rw [hr, hf] at h; simp at h
    | some f =>
      rw [hr, hf] at h
      simp only [Bool.and_eq_true, List.all_eq_true, beq_iff_eq] at h
      obtain ⟨⟨⟨⟨⟨⟨⟨h1, h2⟩, h3⟩, h4⟩, h5⟩, h6⟩, h7⟩, h8⟩ := h
      obtain ⟨f', hfo⟩ := famB_ok h7
      have hff : f' = f := by have := hfo.eq; rw [hf] at this; exact (Option.some.inj this).symm
      subst hff
      simp only [firstC, Option.bind_eq_some_iff] at h8
      obtain ⟨v, hv, a, ha, b, hb, g, hg, s, hs, t, ht, u, hu, h9⟩ := h8
      simp only [Option.some.injEq, Bool.and_eq_true, Bool.not_eq_true'] at h9
      exact ⟨row.getD n 0, row, f', hr, fun u hu => finsB_iff.1 (h1 u hu), rfl, h2, finsB_iff.1 h3, finCB_iff.1 h4, finsB_iff.1 h5, h6, hfo, v, a, b, g, s, t, u, hv, finCB_iff.1 h9.1, ha, hb, hg, hs, ht, hu, h9.2⟩

def ruleC (kind x : Nat) (row : List Nat) (k : Nat) : Option Bool :=
  (ruleF kind k).bind fun q => (wide q.1).bind fun a => (wide q.2.1).bind fun b => (wide x).bind fun e => (wide (row.getD k 0)).bind fun r => (wide q.2.2).bind fun s =>
  (o64 .mul a e).bind fun m1 => (o64 .add m1 b).bind fun m2 => (o64 .mul m2 r).bind fun m3 => (wide (row.getD (k - 1) 0)).bind fun t => (o64 .mul s t).bind fun m4 => (o64 .sub m3 m4).bind fun want =>
  (wide (row.getD (k + 1) 0)).bind fun r2 => (gapF r2 want).bind fun g => (gapF want 0).bind fun g1 => (gapF r 0).bind fun g2 => (o64 .add 4607182418800017408 g1).bind fun m5 => (o64 .mul 4621819117588971520 g2).bind fun m6 =>
  (o64 .add m5 m6).bind fun m7 => (o64 .mul 4562254508917369340 m7).bind fun m8 => some (!gt64 g m8)
theorem ruleC_ok {kind x k : Nat} {row : List Nat} (h : ruleC kind x row k = some true) : RuleOk kind x row k := by
  simp only [ruleC, Option.bind_eq_some_iff] at h
  obtain ⟨q, hq, a, ha, b, hb, e, he, r, hr, s, hs, m1, h1, m2, h2, m3, h3, t, ht, m4, h4, want, hw, r2, hr2, g, hg, g1, hg1, g2, hg2, m5, h5, m6, h6, m7, h7, m8, h8, h9⟩ := h
  simp only [Option.some.injEq, Bool.not_eq_true'] at h9
  exact ⟨q, a, b, e, r, s, m1, m2, m3, m4, want, r2, g, g1, g2, m5, m6, m7, m8, hq, ha, he, h1, hb, h2, hr, h3, hs, ⟨t, ht, h4⟩, hw, hr2, hg, hg1, hg2, h5, h6, h7, h8, h9⟩
/-- All rules up to the last row. -/
def rulesB (kind n x : Nat) : Bool :=
  match rowF kind n x with
  | some row => (List.range (n - 1)).all fun i => ruleC kind x row (i + 1) == some true
  | none => false
theorem rulesB_ok {kind n x k : Nat} {row : List Nat} (h : rulesB kind n x = true) (hr : rowF kind n x = some row) (k1 : 1 ≤ k) (kn : k < n) : RuleOk kind x row k := by
  unfold rulesB at h
  rw [hr] at h
  simp only [List.all_eq_true, List.mem_range, beq_iff_eq] at h
  have := h (k - 1) (by omega)
  rw [show k - 1 + 1 = k by omega] at this
  exact ruleC_ok this

def valOkB (kind k x : Nat) : Bool :=
  match rowF kind k x with
  | some row => finsB x && finsB (row.getD k 0)
  | none => false
/-- The values at a point, each by itself. -/
def atsF (kind x : Nat) : List Nat := (List.range 6).map fun k => ((rowF kind k x).getD []).getD k 0
theorem valOkB_ok {kind k x : Nat} (h : valOkB kind k x = true) (hk : k < 6) : ValOk kind k x ((atsF kind x).getD k 0) := by
  unfold valOkB at h
  cases hr : rowF kind k x with
  | none => rw [hr] at h; cases h
  | some row =>
    rw [hr] at h
    simp only [Bool.and_eq_true] at h
    have e : (atsF kind x).getD k 0 = row.getD k 0 := by
      unfold atsF
      rw [List.getD_eq_getElem?_getD, List.getElem?_map, List.getElem?_range hk, Option.map_some, hr]
      rfl
    rw [e]
    exact ⟨finsB_iff.1 h.1, finsB_iff.1 h.2, row, hr, rfl⟩
def pointC (kind v : Nat) : Bool :=
  match pointF v with
  | some x => ((List.range 6).all fun i => firstB kind (i + 1) x && rulesB kind (i + 1) x) && ((List.range 6).all fun k => valOkB kind k x)
  | none => false
def weightB (v : Nat) : Bool :=
  match weightF v with
  | some w => finsB w
  | none => false
end Go.Proofs.Ytdpogmibahaklaa
