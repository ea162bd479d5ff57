/- Words for the walks: a slice of complex numbers that is read, one that a call has made, what a draw leaves. -/
import Derived.Test.YtdpogmibahaklaaRows
import Derived.Test.YtdpogmibahaklaaFl
import Derived.Deep.QuietTactic
import Derived.BigQuiet
import Derived.Laws.MakeOwn
import Derived.Laws.OwnMore
import Derived.Lib.Hide
set_option linter.unusedVariables false
set_option linter.unusedSimpArgs false
namespace Go.Proofs.Ytdpogmibahaklaa
open Go.RowKit

def cv (x : C) : Value := .complex .f32 x.1 x.2
def fv (x : Nat) : Value := .float .f32 x

section
variable {P : Program} {w : World} {a : Addr} {m : Mode}
@[go_sem] theorem run_store_complex (k : FloatKind) (x y : Nat) : (store a (.complex k x y) m).run P w = stored P w a (.complex k x y) m := run_store P w a _ m rfl
@[go_sem] theorem run_store_float (k : FloatKind) (x : Nat) : (store a (.float k x) m).run P w = stored P w a (.float k x) m := run_store P w a _ m rfl
@[go_sem] theorem run_store_cv (x : C) : (store a (cv x) m).run P w = stored P w a (cv x) m := run_store P w a _ m rfl
@[go_sem] theorem run_storeCells_cv (x : C) : (storeCells a [cv x]).run P w = (store a (cv x)).run P w := by
  simp [storeCells, Addr.add_zero']
end

/-- The world is the old one, some orders having been drawn. -/
structure Drawn (w w' : World) : Prop where mk :: (out : ∃ n, w' = w.drewN n)
theorem Drawn.refl (w : World) : Drawn w w := ⟨⟨0, rfl⟩⟩
theorem Drawn.step {w w' : World} (h : Drawn w w') (n : Nat) : Drawn w (w'.drewN n) := by
  obtain ⟨m, rfl⟩ := h
  exact ⟨⟨m + n, World.drewN_drewN ..⟩⟩
theorem Drawn.trans {w w1 w2 : World} (h : Drawn w w1) (k : Drawn w1 w2) : Drawn w w2 := by
  obtain ⟨m, rfl⟩ := k
  exact h.step m
theorem Drawn.cell {w w' : World} (h : Drawn w w') (a : Addr) : w'.cell? a = w.cell? a := by
  obtain ⟨n, rfl⟩ := h
  simp
theorem Drawn.one (w : World) : Drawn w w.drew := ⟨⟨1, rfl⟩⟩
theorem Drawn.frozen {w w' : World} (h : Drawn w w') (a : Addr) : w'.frozen? a = w.frozen? a := by
  obtain ⟨n, rfl⟩ := h
  simp
theorem Drawn.size {w w' : World} (h : Drawn w w') : w'.heap.size = w.heap.size := by
  obtain ⟨n, rfl⟩ := h
  simp
theorem below_drew {B : Nat} {w W : World} (h : Below B w W) : Below B w W.drew := ⟨h.os, h.tape, h.output, h.size, h.block⟩
theorem Drawn.below {w w' : World} (h : Drawn w w') (B : Nat) : Below B w w' := by
  obtain ⟨n, rfl⟩ := h
  induction n with
  | zero => exact Below.refl _ _
  | succ n ih => rw [← World.drew_drewN]; exact below_drew ih
theorem quiet_of_drawn {P : Program} {f : FuncId} {args : Array Value} {w : World} {n : Nat} {v : Value}
    (h : Calls P f args (w.drewN n) fun e w' => e = .returned v ∧ Drawn (w.drewN n) w') : Calls P f args (w.drewN n) fun e w'' => e = .returned v ∧ ∃ m, w'' = w.drewN m :=
  h.mono fun _ _ ⟨he, hm⟩ => ⟨he, ((Drawn.step (Drawn.refl w) n).trans hm).out⟩

theorem below_then {B : Nat} {w w1 w2 : World} (h : Below B w w1) (k : Below w1.heap.size w1 w2) (hB : B ≤ w1.heap.size) : Below B w w2 := h.trans (k.mono hB)
theorem below_seq {w w1 w2 : World} (h : Below w.heap.size w w1) (k : Below w1.heap.size w1 w2) : Below w.heap.size w w2 := h.trans (k.mono h.size)
theorem below_alloc {w W : World} (h : Below w.heap.size w W) (o : Obj) : Below w.heap.size w (W.alloc o) := h.alloc h.size o
theorem cell_below {w w1 : World} (h : Below w.heap.size w w1) {a : Addr} {v : Value} (hc : w.cell? a = some v) : w1.cell? a = some v := (h.cell (World.block_lt_of_cell? w a hc)).trans hc

/-- A contract that leaves the world alone, met. -/
theorem Calls.same {P : Program} {f : FuncId} {args : Array Value} {w : World} {v : Value} {Q : Ending → World → Prop} (h : Calls P f args w fun e w' => e = .returned v ∧ w' = w) (k : Q (.returned v) w) : Calls P f args w Q :=
  h.mono fun _ _ ⟨he, hw⟩ => by subst he; subst hw; exact k
theorem Calls.drawn {P : Program} {f : FuncId} {args : Array Value} {w : World} {v : Value} {Q : Ending → World → Prop} (h : Calls P f args w fun e w' => e = .returned v ∧ Drawn w w') (k : ∀ w', Drawn w w' → Q (.returned v) w') : Calls P f args w Q :=
  h.mono fun _ w' ⟨he, hw⟩ => by subst he; exact k w' hw
theorem Calls.below {P : Program} {f : FuncId} {args : Array Value} {w : World} {v : Value} {Q : Ending → World → Prop} (h : Calls P f args w fun e w' => e = .returned v ∧ Below w.heap.size w w') (k : ∀ w', Below w.heap.size w w' → Q (.returned v) w') : Calls P f args w Q :=
  h.mono fun _ w' ⟨he, hw⟩ => by subst he; exact k w' hw

/-- A slice that is read: n numbers. -/
structure ReadsC (w : World) (A : Option Addr) (n : Nat) (xs : List C) : Prop where
  len : xs.length = n
  most : n ≤ 9223372036854775807
  cells : 0 < n → ∃ ad, A = some ad ∧ ∀ j, j < n → w.cell? (ad.add j) = some (cv (xs.getD j zero))
theorem ReadsC.drawn {w w' : World} {A : Option Addr} {n : Nat} {xs : List C} (h : ReadsC w A n xs) (hd : Drawn w w') : ReadsC w' A n xs :=
  ⟨h.1, h.2, fun hn => by
    obtain ⟨ad, e, hc⟩ := h.3 hn
    exact ⟨ad, e, fun j hj => (hd.cell _).trans (hc j hj)⟩⟩
theorem ReadsC.below {w w' : World} {A : Option Addr} {n : Nat} {xs : List C} (h : ReadsC w A n xs) (hb : Below w.heap.size w w') : ReadsC w' A n xs :=
  ⟨h.1, h.2, fun hn => by
    obtain ⟨ad, e, hc⟩ := h.3 hn
    exact ⟨ad, e, fun j hj => cell_below hb (hc j hj)⟩⟩

theorem Try.info26 : (Try.prog.info? 26).map (fun i => (i.zero, i.size, i.bytes)) = some (some (.complex .f32 0 0), 1, 8) := by kernel_rfl
theorem Try.info36 : (Try.prog.info? 36).map (fun i => (i.zero, i.size, i.bytes)) = some (some (.float .f32 0), 1, 4) := by kernel_rfl

/-- A slice that the call has made: blocks from B on. -/
structure OwnC (w : World) (B : Nat) (v : Value) (xs : List C) : Prop where mk :: (out : w.ownsRow B 26 1 v xs.length (xs.map cv))

theorem OwnC.form {w : World} {B : Nat} {v : Value} {xs : List C} (h : OwnC w B v xs) (hn : 0 < xs.length) :
    ∃ g cap, v = .slice (some ⟨g, 0, none⟩) xs.length cap ∧ B ≤ g ∧ g < w.heap.size ∧ xs.length ≤ cap := by
  rcases h.out.2 with ⟨_, h0⟩ | ⟨g, cap, cur, hv, hB, hh, h1, h2, _⟩
  · omega
  · exact ⟨g, cap, hv, hB, (Array.getElem?_eq_some_iff.1 hh).1, h1⟩
theorem OwnC.slice {w : World} {B : Nat} {v : Value} {xs : List C} (h : OwnC w B v xs) : ∃ A c, v = .slice A xs.length c ∧ ReadsC w A xs.length xs := by
  have hm : xs.length ≤ 9223372036854775807 := by
    rcases h.out.2 with ⟨_, h0⟩ | ⟨g, cap, cur, _, _, _, h1, h2, _⟩
    · omega
    · simp only [maxLen] at h2
      omega
  rcases Nat.eq_zero_or_pos xs.length with h0 | h0
  · rcases h.out.2 with ⟨hv, _⟩ | ⟨g, cap, cur, hv, _⟩
    · exact ⟨none, 0, by rw [hv, h0], rfl, hm, fun hp => by omega⟩
    · exact ⟨_, cap, hv, rfl, hm, fun hp => by omega⟩
  · obtain ⟨g, cap, hv, _, _, _⟩ := h.form h0
    refine ⟨_, cap, hv, rfl, hm, fun _ => ⟨_, rfl, fun j hj => h.out.cells (g := g) (by rw [hv]; rfl) j _ ?_⟩⟩
    simp [List.getElem?_eq_getElem hj, List.getD_eq_getElem?_getD]
theorem OwnC.below {w w1 : World} {B : Nat} {v : Value} {xs : List C} (h : OwnC w B v xs) (hb : Below w.heap.size w w1) : OwnC w1 B v xs :=
  ⟨h.out.kept (row := none) ⟨hb.os, hb.tape, hb.output, hb.size, fun i hi _ => hb.block i hi⟩ (by cases v.ownBlock <;> simp)⟩
theorem OwnC.mono {w : World} {B B' : Nat} {v : Value} {xs : List C} (h : OwnC w B v xs) (hB : B' ≤ B) : OwnC w B' v xs := by
  refine ⟨h.out.1, ?_⟩
  rcases h.out.2 with h0 | ⟨g, cap, cur, hv, hb, r⟩
  · exact .inl h0
  · exact .inr ⟨g, cap, cur, hv, by omega, r⟩

/-- A slice of 32-bit numbers that is read. -/
structure ReadsF (w : World) (A : Option Addr) (n : Nat) (xs : List Nat) : Prop where
  len : xs.length = n
  most : n ≤ 9223372036854775807
  cells : 0 < n → ∃ ad, A = some ad ∧ ∀ j, j < n → w.cell? (ad.add j) = some (fv (xs.getD j 0))

end Go.Proofs.Ytdpogmibahaklaa
