/- Small functions for fits return what the plain functions of bits say; rows of numbers that the call has made. -/
import Derived.Deep.QuietTactic
import Derived.BigQuiet
import Derived.RegionTactic
import Derived.Test.YtdpogmibahaklaaM8
import Derived.Test.YtdpogmibahaklaaE0
import Derived.Maps.AppendAt
set_option linter.unusedVariables false
set_option linter.unusedSimpArgs false
namespace Go.Proofs.Ytdpogmibahaklaa
open Go

section
variable {P : Program} {ops : Array Oper} {md : Region.Mode} {C : World → Prop} {N : Nat}
/-- All orders of what comes ahead of operation N. -/
def quietTo (P : Program) (md : Region.Mode) (ops : Array Oper) (C : World → Prop) (N : Nat) (Q : Act → Prop) : Nat → Array Bool → Act → Prop
  | 0, listed, a => (∀ i ∈ Region.ready md ops listed, i = N) ∧ Q a
  | fuel + 1, listed, a =>
    ((∀ i ∈ Region.ready md ops listed, i = N) → Q a) ∧
    ∀ i ∈ Region.ready md ops listed, i ≠ N → qOp P ops C i (quietTo P md ops C N Q fuel (listed.setIfInBounds i true)) a

theorem quietTo_first {Q : Act → Prop} {i : Nat} {oi : Oper} {v : Value} (hiN : i ≠ N) (hi : ops[i]? = some oi) (hsel : ∀ (j : Nat) (o : Oper) cs b, ops[j]? = some o → o.op ≠ .select cs b) :
    ∀ (fuel : Nat) (listed : Array Bool) (a : Act),
      (∀ j oj, ops[j]? = some oj → j ≠ i → listed.getD j true = false → (∀ e ∈ oj.after, Region.binds md e = true → e.on ≠ i) → oi.apart ops oj = true) →
      i ∈ Region.ready md ops listed → YieldsIn P ops C oi v a →
      quietTo P md ops C N Q fuel (listed.setIfInBounds i true) (a.put oi.dst v) → quietTo P md ops C N Q (fuel + 1) listed a := by
  intro fuel
  induction fuel with
  | zero =>
    intro listed a _ hr hy H
    refine ⟨fun h => absurd (h i hr) hiN, fun j hj hjN => ?_⟩
    by_cases hji : j = i
    · subst hji; exact hy.qOp hi H
    · exact absurd (H.1 j (ready_mono hj hji)) hjN
  | succ fuel ih =>
    intro listed a hfree hr hy H
    refine ⟨fun h => absurd (h i hr) hiN, fun j hj hjN => ?_⟩
    by_cases hji : j = i
    · subst hji; exact hy.qOp hi H
    · have h1 := H.2 j (ready_mono hj hji) hjN
      obtain ⟨hjun, oj, hoj, hall⟩ := mem_ready.1 hj
      have hnot : ∀ e ∈ oj.after, Region.binds md e = true → e.on ≠ i := fun e he hb heq => by
        have h1 := hall e he hb
        have h0 := (mem_ready.1 hr).1
        rw [heq] at h1
        rcases Nat.lt_or_ge i listed.size with h' | h'
        · simp [h'] at h0 h1; rw [h0] at h1; cases h1
        · simp [Array.getElem?_eq_none h'] at h1
      have h2 := qOp_put hoj (hfree j oj hoj hji hjun hnot) (fun cs b => hsel i oi cs b hi) (fun cs b => hsel j oj cs b hoj) hy h1
      have hfree' : ∀ k ok, ops[k]? = some ok → k ≠ i → (listed.setIfInBounds j true).getD k true = false →
          (∀ e ∈ ok.after, Region.binds md e = true → e.on ≠ i) → oi.apart ops ok = true := fun k ok hk hki hun hno => by
        refine hfree k ok hk hki ?_ hno
        by_cases hjk : j = k
        · subst hjk; exact hjun
        · rw [getD_set_ne true hjk] at hun; exact hun
      refine qOp_mono (fun a' h3 => ih (listed.setIfInBounds j true) a' hfree' (ready_mono hr (Ne.symm hji)) h3.1 ?_) h2
      rw [Array.setIfInBounds_comm _ _ hji]
      exact h3.2

/-- The text's order serves, up to operation N. -/
def lexTo (md : Region.Mode) (ops : Array Oper) (N : Nat) : Nat → Nat → Array Bool → Bool
  | 0, _, listed => (Region.ready md ops listed).all (· == N)
  | fuel + 1, k, listed => (Region.ready md ops listed).contains k && k != N && Region.free md ops listed k && lexTo md ops N fuel (k + 1) (listed.setIfInBounds k true)
theorem quietTo_lex {Q : Act → Prop} (hs : Region.noSelect ops = true) : ∀ (l : List Oper) (k : Nat) (listed : Array Bool) (a : Act), (∀ j, j < l.length → l[j]? = ops[k + j]?) →
    lexTo md ops N l.length k listed = true → wpQuiet P ops C Q l a → quietTo P md ops C N Q l.length listed a
  | [], _, _, _, _, hB, h => ⟨by simpa [lexTo] using hB, h⟩
  | o :: l, k, listed, a, hl, hB, h => by
    have h0 : ops[k]? = some o := by simpa using (hl 0 (by simp)).symm
    simp only [List.length_cons, lexTo, Bool.and_eq_true, bne_iff_ne] at hB
    obtain ⟨⟨⟨hr, hkN⟩, hf⟩, hB'⟩ := hB
    have hst : qOp P ops C k (wpQuiet P ops C Q l) a := by unfold qOp; simp only [h0]; exact h
    obtain ⟨v, hy, hK⟩ := yieldsIn_of_qOp h0 hst
    exact quietTo_first hkN h0 (Region.noSelect_spec hs) l.length listed a (Region.free_spec h0 hf) (by simpa using hr) hy
      (quietTo_lex hs l (k + 1) _ _ (fun j hj => by have := hl (j + 1) (by simp; omega); simpa [Nat.add_assoc, Nat.add_comm 1 j] using this) hB' hK)

/-- Each operation waits for earlier ones alone. -/
def depB (md : Region.Mode) (ops : Array Oper) : Bool := (List.range ops.size).all fun i => ((ops[i]?).map fun o => o.after.all fun e => !Region.binds md e || decide (e.on < i)).getD true
/-- Operation N waits for all others. -/
def waitsB (md : Region.Mode) (ops : Array Oper) (N : Nat) : Bool := (List.range N).all fun i => ((ops[N]?).map fun o => o.after.toList.any fun e => Region.binds md e && e.on == i).getD false
theorem dep_spec (h : depB md ops = true) {i : Nat} {o : Oper} (hi : ops[i]? = some o) {e : Edge} (he : e ∈ o.after) (hb : Region.binds md e = true) : e.on < i := by
  have hlt : i < ops.size := (Array.getElem?_eq_some_iff.1 hi).1
  have h1 := List.all_eq_true.1 h i (List.mem_range.2 hlt)
  rw [hi] at h1
  simp only [Option.map_some, Option.getD_some] at h1
  have h2 := Array.all_eq_true_iff_forall_mem.1 h1 e he
  rw [hb] at h2
  simpa using h2
theorem waits_spec (h : waitsB md ops N = true) {o : Oper} (hN : ops[N]? = some o) {i : Nat} (hi : i < N) : ∃ e ∈ o.after, Region.binds md e = true ∧ e.on = i := by
  have h1 := List.all_eq_true.1 h i (List.mem_range.2 hi)
  rw [hN] at h1
  simp only [Option.map_some, Option.getD_some, List.any_eq_true, Bool.and_eq_true, beq_iff_eq] at h1
  obtain ⟨e, he, h2, h3⟩ := h1
  exact ⟨e, Array.mem_def.2 he, h2, h3⟩
/-- Where all are listed none is ready. -/
theorem ready_nil {listed : Array Bool} (h : ∀ i, i < ops.size → listed.getD i false = true) (hsz : listed.size = ops.size) : Region.ready md ops listed = [] := by
  cases hr : Region.ready md ops listed with
  | nil => rfl
  | cons j l =>
    exfalso
    have hj : j ∈ Region.ready md ops listed := by rw [hr]; exact List.mem_cons_self ..
    obtain ⟨h1, o, ho, _⟩ := mem_ready.1 hj
    have hlt : j < ops.size := (Array.getElem?_eq_some_iff.1 ho).1
    have h2 := h j hlt
    have h3 : j < listed.size := by omega
    simp [h3] at h1 h2
    rw [h1] at h2
    cases h2
/-- While operation N is not listed, some operation is ready. -/
theorem ready_some (hd : depB md ops = true) {listed : Array Bool} {o : Oper} (hN : ops[N]? = some o) (hl : listed.getD N true = false) (hsz : listed.size = ops.size) : Region.ready md ops listed ≠ [] := by
  have key : ∀ n, (∃ i, i ≤ n ∧ i < ops.size ∧ listed.getD i true = false) → ∃ i, i < ops.size ∧ listed.getD i true = false ∧ ∀ j, j < i → listed.getD j false = true := by
    intro n
    induction n with
    | zero =>
      rintro ⟨i, h1, h2, h3⟩
      exact ⟨i, h2, h3, fun j hj => by omega⟩
    | succ n ih =>
      rintro ⟨i, h1, h2, h3⟩
      by_cases h : ∃ i, i ≤ n ∧ i < ops.size ∧ listed.getD i true = false
      · exact ih h
      · refine ⟨i, h2, h3, fun j hj => ?_⟩
        have hjs : j < listed.size := by omega
        cases hv : listed.getD j true with
        | false => exact absurd ⟨j, by omega, by omega, hv⟩ h
        | true => simp [hjs] at hv ⊢; exact hv
  have hlt : N < ops.size := (Array.getElem?_eq_some_iff.1 hN).1
  obtain ⟨i, h1, h2, h3⟩ := key N ⟨N, Nat.le_refl _, hlt, hl⟩
  have hi : i ∈ Region.ready md ops listed := mem_ready.2 ⟨h2, ops[i], Array.getElem?_eq_getElem h1, fun e he hb => h3 _ (dep_spec hd (Array.getElem?_eq_getElem h1) he hb)⟩
  intro e
  rw [e] at hi
  cases hi
/-- It is a walk of all orders. -/
theorem wpAny_of_quietTo {Q : Act → Prop} {Q' : Exit → Act → World → Prop} {o : Oper} (hN : ops[N]? = some o) (hs : ops.size = N + 1) (hd : depB md ops = true) (hw : waitsB md ops N = true)
    (hQ : ∀ a w, C w → Q a → wpOp P ops Q' N (fun a w => Q' .normal a w) a w) : ∀ (fuel : Nat) (listed : Array Bool) (a : Act) (w : World), C w → listed.size = ops.size → listed.getD N true = false →
    quietTo P md ops C N Q fuel listed a → wpAny P md ops Q' (fuel + 1) listed a w := by
  have last : ∀ {listed : Array Bool}, listed.size = ops.size → N ∈ Region.ready md ops listed → ∀ i, i < ops.size → (listed.setIfInBounds N true).getD i false = true := by
    intro listed hsz hr i hi
    obtain ⟨_, o', ho', hall⟩ := mem_ready.1 hr
    rw [hN] at ho'
    cases ho'
    by_cases hiN : i = N
    · subst hiN
      have : i < (listed.setIfInBounds i true).size := by rw [Array.size_setIfInBounds]; omega
      simp [this]
      simp at this
      simp [this]
    · obtain ⟨e, he, hb, rfl⟩ := waits_spec hw hN (show i < N by omega)
      exact getD_set_true (hall e he hb)
  have only : ∀ {listed : Array Bool}, listed.size = ops.size → N ∈ Region.ready md ops listed → ∀ i ∈ Region.ready md ops listed, i = N := by
    intro listed hsz hr i hi
    by_cases hiN : i = N
    · exact hiN
    · obtain ⟨h1, oi, hoi, _⟩ := mem_ready.1 hi
      have hlt : i < ops.size := (Array.getElem?_eq_some_iff.1 hoi).1
      have h2 := last hsz hr i hlt
      rw [getD_set_ne false (Ne.symm hiN)] at h2
      have h3 : i < listed.size := by omega
      simp [h3] at h1 h2
      rw [h1] at h2
      cases h2
  intro fuel
  induction fuel with
  | zero =>
    intro listed a w hw' hsz hl h
    refine ⟨fun h0 => absurd h0 (ready_some hd hN hl hsz), fun i hi => ?_⟩
    have e := h.1 i hi
    subst e
    refine wpOp_mono (fun a' w'' hq => ⟨ready_nil (last hsz hi) (by rw [Array.size_setIfInBounds]; exact hsz), hq⟩) (hQ a w hw' h.2)
  | succ fuel ih =>
    intro listed a w hw' hsz hl h
    refine ⟨fun h0 => absurd h0 (ready_some hd hN hl hsz), fun i hi => ?_⟩
    by_cases hiN : i = N
    · subst hiN
      have hr0 := ready_nil (md := md) (last hsz hi) (by rw [Array.size_setIfInBounds]; exact hsz)
      refine wpOp_mono (fun a' w'' hq => ⟨fun _ => hq, fun j hj => by rw [hr0] at hj; cases hj⟩) (hQ a w hw' (h.1 (only hsz hi)))
    · refine wpOp_of_qOp hw' (fun a' w'' hc hk => ih _ a' w'' hc (by rw [Array.size_setIfInBounds]; exact hsz) ?_ hk) (h.2 i hi hiN)
      rw [getD_set_ne true hiN]
      exact hl
end

/-- What the kernel looks at. -/
def lastB (ops : Array Oper) : Bool := Region.noSelect ops && lexTo .any ops (ops.size - 1) (ops.size - 1) 0 (Array.replicate ops.size false) && depB .any ops && waitsB .any ops (ops.size - 1)
theorem region_last {P : Program} {id : Nat} {Q : Exit → Act → World → Prop} {a : Act} {w : World} {l : List Oper} {o : Oper} (hm : P.follows .mixedOrders = true) (hB : lastB l.toArray = true) (ho : l.getLast? = some o)
    (h : wpQuiet P l.toArray (fun w' => ∃ n, w' = w.drewN n) (fun a' => ∀ n, ∀ K : Act → World → Prop, (∀ a w, Q .normal a w → K a w) →
      if Region.wanted o (yielded l.toArray a'.tmps) = true then Oper.wp P o a' (w.drewN n) K Q else K (a'.put o.dst undef) (w.drewN n)) l.dropLast a) : (Code.region id l.toArray true).wp P Q a w := by
  simp only [lastB, Bool.and_eq_true] at hB
  obtain ⟨⟨⟨h1, h2⟩, h3⟩, h4⟩ := hB
  have hpos : 0 < l.length := by
    cases l with
    | nil => cases ho
    | cons x l => simp
  have hN : l.toArray[l.toArray.size - 1]? = some o := by
    rw [List.getLast?_eq_getElem?] at ho
    simpa using ho
  have hs : l.toArray.size = l.toArray.size - 1 + 1 := by
    have : l.toArray.size = l.length := by simp
    omega
  refine wp_region_any hm ?_
  rw [hs]
  refine wpAny_of_quietTo (C := fun w' => ∃ n, w' = w.drewN n) (Q := fun a' => ∀ n, ∀ K : Act → World → Prop, (∀ a w, Q .normal a w → K a w) → if Region.wanted o (yielded l.toArray a'.tmps) = true then Oper.wp P o a' (w.drewN n) K Q else K (a'.put o.dst undef) (w.drewN n)) hN hs h3 h4 ?_ _ _ _ _ ⟨1, rfl⟩ (by rw [← hs]; simp) (by
    have : l.toArray.size - 1 < (Array.replicate (l.toArray.size - 1 + 1) false).size := by simp
    simp [this]) ?_
  · rintro a' w' ⟨n, rfl⟩ hq
    exact wpOp_step hN (fun K hK => hq n K hK)
  · have e : l.dropLast.length = l.toArray.size - 1 := by simp
    have := quietTo_lex (P := P) (C := fun w' => ∃ n, w' = w.drewN n) (N := l.toArray.size - 1) (md := .any) h1 l.dropLast 0 (Array.replicate l.toArray.size false) a
      (fun j hj => by rw [List.getElem?_dropLast]; rw [List.length_dropLast] at hj; simp [hj]) (by rw [e]; exact h2) h
    rw [e] at this
    rw [← hs]
    exact this
end Go.Proofs.Ytdpogmibahaklaa

namespace Go.Proofs.Ytdpogmibahaklaa
open Go.RowKit

theorem below0_any (x : Nat) (w : World) (h : (FloatKind.f32.format.order x 0 == some Ordering.lt) = false) :
    Calls Try.prog 130 #[.float .f32 x] w fun e w' => e = .returned (.bool false) ∧ w' = w := by
  go_enter Try.func130, Try.ntmps130
  go_wp2_with (simp only [h])
  go_ret
  exact ⟨rfl, rfl⟩

set_option maxHeartbeats 400000 in
theorem indexN_any (xs : List Nat) (A : Option Addr) (n c : Nat) (w : World) (hA : ReadsF w A n xs) (hx : ∀ x ∈ xs, (FloatKind.f32.format.order x 0 == some Ordering.lt) = false) :
    Calls Try.prog 171 #[.slice A n c, .func (.func 130) #[] #[]] w fun e w' => e = .returned (.int .i64 (-1)) ∧ w' = w := by
  have hm := hA.most
  have hl := hA.len
  go_enter Try.func171, Try.ntmps171
  go_wp2
  go_loop [5, 8] (fun i j => ∃ k : Nat, k ≤ n ∧ j = .int .i64 (k : Int)) (fun _ j => n - (intOf j).toNat)
  case atStart => exact ⟨0, by omega, rfl⟩
  case round =>
    obtain ⟨k, hk, rfl⟩ := hrel
    by_cases hlt : k < n
    · obtain ⟨ad, rfl, hc⟩ := hA.cells (by omega)
      have h1 := hc k hlt
      have h2 := hx (xs.getD k 0) (by
        rw [List.getD_eq_getElem?_getD, List.getElem?_eq_getElem (by omega)]
        exact List.getElem_mem _)
      have e1 : (k : Int) < (n : Int) := by omega
      clear hc
      unfold fv at h1
      generalize xs.getD k 0 = x at h1 h2
      go_wp2_with (go_at_call 130; refine (below0_any _ _ h2).mono ?_; rintro e w' ⟨rfl, rfl⟩)
      go_round
      case rel => exact ⟨k + 1, by omega, by go_num⟩
      case measure => simp [intOf]; omega
    · have e1 : ¬ (k : Int) < (n : Int) := by omega
      go_wp2
      go_ret
      exact ⟨rfl, rfl⟩

theorem containsN_any (xs : List Nat) (A : Option Addr) (n c : Nat) (w : World) (hA : ReadsF w A n xs) (hx : ∀ x ∈ xs, (FloatKind.f32.format.order x 0 == some Ordering.lt) = false) :
    Calls Try.prog 129 #[.slice A n c, .func (.func 130) #[] #[]] w fun e w' => e = .returned (.bool false) ∧ w' = w := by
  go_enter Try.func129, Try.ntmps129
  go_wp2_with (go_at_call 171; refine (indexN_any xs _ _ _ _ hA hx).mono ?_; rintro e w' ⟨rfl, rfl⟩)
  go_ret
  exact ⟨rfl, rfl⟩

theorem powerOf_any (x t r : Nat) (T : Int) (w : World) (hT : T = (t : Int)) (ht : t ≤ 1000) (h : powF x t = some r) :
    Calls Try.prog 131 #[.float .f32 x, .int .i64 T] w fun e w' => e = .returned (.float .f32 r) ∧ w' = w := by
  subst hT
  unfold powF at h
  go_enter Try.func131, Try.ntmps131
  go_wp2
  go_loop [5, 7] (fun v i => ∃ (j a : Nat), j ≤ t ∧ i = .int .i64 (j : Int) ∧ v = .float .f32 a ∧ stepsF (fun _ out => o32 .mul out x) (t - j) j a = some r) (fun _ i => t - (intOf i).toNat)
  case atStart => exact ⟨0, 1065353216, by omega, rfl, rfl, h⟩
  case round =>
    clear h
    obtain ⟨j, a, hj, rfl, rfl, hrec⟩ := hrel
    by_cases hlt : j < t
    · have e1 : (j : Int) < (t : Int) := by omega
      obtain ⟨s, hs, hrec⟩ := stepsF_at hrec hlt
      have f1 := @run_o32 _ _ _ _ hs
      clear hs
      go_wp2_with (simp only [f1])
      go_round
      case rel => exact ⟨j + 1, s, by omega, by go_num, rfl, hrec⟩
      case measure => simp [intOf]; omega
    · have e1 : ¬ (j : Int) < (t : Int) := by omega
      have e2 := stepsF_end hrec (by omega)
      subst e2
      go_wp2
      go_ret
      exact ⟨rfl, rfl⟩

theorem magnitude_any (x : Nat) (w : World) :
    Calls Try.prog 132 #[.float .f32 x] w fun e w' => e = .returned (.float .f32 (magF x)) ∧ w' = w := by
  have hn : ∀ (b : Nat), Op.unary .neg (.float .f32 b) = pure (.float .f32 (Op.negFloat .f32 b)) := fun _ => rfl
  unfold magF
  by_cases h : (FloatKind.f32.format.order x 0 == some Ordering.lt) = true
  · rw [if_pos h]
    go_enter Try.func132, Try.ntmps132
    go_wp2_with (simp only [h, hn])
    go_ret
    exact ⟨rfl, rfl⟩
  · rw [if_neg h]
    have h' : (FloatKind.f32.format.order x 0 == some Ordering.lt) = false := by simpa using h
    go_enter Try.func132, Try.ntmps132
    go_wp2_with (simp only [h', hn])
    go_ret
    exact ⟨rfl, rfl⟩

/-! ### Rows of numbers -/
/-- A row that the call has made, at a place that is known. -/
structure RowF (w : World) (B g n : Nat) (xs : List Nat) : Prop where
  len : xs.length = n
  base : B ≤ g
  own : w.ownsRow B 36 1 (.slice (some ⟨g, 0, none⟩) n n) n (xs.map fv)
namespace RowF
variable {w w1 : World} {B g n : Nat} {xs : List Nat}
theorem lt (h : RowF w B g n xs) : g < w.heap.size := (h.own.lt g rfl).2
theorem most (h : RowF w B g n xs) : n ≤ 9223372036854775807 := by
  rcases h.own.2 with ⟨h0, _⟩ | ⟨g', cap', cur, _, _, _, h1, h2, _⟩
  · cases h0
  · simp only [maxLen] at h2
    omega
theorem reads (h : RowF w B g n xs) : ReadsF w (some ⟨g, 0, none⟩) n xs :=
  ⟨h.len, h.most, fun hn => ⟨_, rfl, fun j hj => h.own.cells (g := g) rfl j _ (by simp [List.getElem?_eq_getElem (show j < xs.length by have := h.len; omega), List.getD_eq_getElem?_getD])⟩⟩
theorem cell (h : RowF w B g n xs) {j : Nat} (hj : j < n) : w.cell? ⟨g, j, none⟩ = some (.float .f32 (xs.getD j 0)) := by
  obtain ⟨ad, e, hc⟩ := h.reads.cells (by omega)
  cases e
  have := hc j hj
  rw [Addr.add_lit, Nat.zero_add] at this
  exact this
theorem frozen (h : RowF w B g n xs) (j : Nat) : w.frozen? ⟨g, j, none⟩ = false := h.own.frozenAt j
theorem below (h : RowF w B g n xs) (hb : Below w.heap.size w w1) : RowF w1 B g n xs :=
  ⟨h.len, h.base, h.own.kept (row := none) ⟨hb.os, hb.tape, hb.output, hb.size, fun i hi _ => hb.block i hi⟩ (by simp [Value.ownBlock])⟩
theorem grown (h : RowF w B g n xs) {row : Option Nat} (hg : w.grownBy w1 row) (hne : row ≠ some g) : RowF w1 B g n xs :=
  ⟨h.len, h.base, h.own.kept hg (.inr fun e => hne e.symm)⟩
theorem stored (h : RowF w B g n xs) (j x : Nat) : RowF (w.setCell ⟨g, j, none⟩ (.float .f32 x)) B g n (xs.set j x) :=
  ⟨by rw [List.length_set]; exact h.len, h.base, by
    have := h.own.stored j (.float .f32 x)
    rw [List.map_set]
    exact this.1⟩
theorem other (h : RowF w B g n xs) {b i : Nat} (hne : b ≠ g) (v : Value) : RowF (w.setCell ⟨b, i, none⟩ v) B g n xs :=
  ⟨h.len, h.base, ownsRow_setCell_other h.own (by simp [Value.ownBlock]; omega) v⟩
end RowF
/-- Rows, each in a block of its own. -/
structure Mat (w : World) (B m : Nat) (gs : List Nat) (rows : List (List Nat)) : Prop where
  len : gs.length = rows.length
  at_ : ∀ i, i < gs.length → RowF w B (gs.getD i 0) m (rows.getD i [])
  nodup : gs.Nodup
def slv (m g : Nat) : Value := .slice (some ⟨g, 0, none⟩) m m
namespace Mat
variable {w w1 : World} {B m : Nat} {gs : List Nat} {rows : List (List Nat)}
theorem nil (w : World) (B m : Nat) : Mat w B m [] [] := ⟨rfl, fun i h => absurd h (by simp), List.nodup_nil⟩
theorem below (h : Mat w B m gs rows) (hb : Below w.heap.size w w1) : Mat w1 B m gs rows := ⟨h.len, fun i hi => (h.at_ i hi).below hb, h.nodup⟩
theorem grown (h : Mat w B m gs rows) {row : Option Nat} (hg : w.grownBy w1 row) (hne : ∀ g ∈ gs, row ≠ some g) : Mat w1 B m gs rows :=
  ⟨h.len, fun i hi => (h.at_ i hi).grown hg (hne _ (by rw [List.getD_eq_getElem?_getD, List.getElem?_eq_getElem hi]; exact List.getElem_mem _)), h.nodup⟩
theorem lt (h : Mat w B m gs rows) : ∀ g ∈ gs, g < w.heap.size := by
  intro g hg
  obtain ⟨i, hi, rfl⟩ := List.mem_iff_getElem.1 hg
  have := (h.at_ i hi).lt
  rw [List.getD_eq_getElem?_getD, List.getElem?_eq_getElem hi] at this
  exact this
theorem push (h : Mat w B m gs rows) {g : Nat} {r : List Nat} (hr : RowF w B g m r) (hg : g ∉ gs) : Mat w B m (gs ++ [g]) (rows ++ [r]) := by
  refine ⟨by rw [List.length_append, List.length_append, h.len]; rfl, fun i hi => ?_, ?_⟩
  · rw [List.getD_eq_getElem?_getD, List.getD_eq_getElem?_getD, List.getElem?_append, List.getElem?_append, ← h.len]
    by_cases hlt : i < gs.length
    · rw [if_pos hlt, if_pos hlt, ← List.getD_eq_getElem?_getD, ← List.getD_eq_getElem?_getD]
      exact h.at_ i hlt
    · rw [List.length_append, List.length_singleton] at hi
      rw [if_neg hlt, if_neg hlt, show i - gs.length = 0 by omega]
      exact hr
  · rw [List.nodup_append]
    refine ⟨h.nodup, by simp, ?_⟩
    intro a ha b hb
    rw [List.mem_singleton] at hb
    subst hb
    intro e
    subst e
    exact hg ha
theorem ne (h : Mat w B m gs rows) {i j : Nat} (hi : i < gs.length) (hj : j < gs.length) (hij : i ≠ j) : gs.getD i 0 ≠ gs.getD j 0 := by
  rw [List.getD_eq_getElem?_getD, List.getD_eq_getElem?_getD, List.getElem?_eq_getElem hi, List.getElem?_eq_getElem hj]
  exact fun e => hij ((List.getElem_inj h.nodup).1 e)
/-- A number of a row is stored. -/
theorem stored (h : Mat w B m gs rows) {i : Nat} (hi : i < gs.length) (j x : Nat) : Mat (w.setCell ⟨gs.getD i 0, j, none⟩ (.float .f32 x)) B m gs (rows.set i ((rows.getD i []).set j x)) := by
  refine ⟨by rw [List.length_set]; exact h.len, fun k hk => ?_, h.nodup⟩
  by_cases e : i = k
  · subst e
    have : (rows.set i ((rows.getD i []).set j x)).getD i [] = (rows.getD i []).set j x := by
      rw [List.getD_eq_getElem?_getD, List.getElem?_set_self (by have := h.len; omega)]
      rfl
    rw [this]
    exact (h.at_ i hi).stored j x
  · have : (rows.set i ((rows.getD i []).set j x)).getD k [] = rows.getD k [] := by
      rw [List.getD_eq_getElem?_getD, List.getElem?_set_ne e, List.getD_eq_getElem?_getD]
    rw [this]
    exact (h.at_ k hk).other (h.ne hi hk e) _
/-- A cell of another block is stored. -/
theorem other (h : Mat w B m gs rows) {b i : Nat} (hb : b ∉ gs) (v : Value) : Mat (w.setCell ⟨b, i, none⟩ v) B m gs rows := by
  refine ⟨h.len, fun k hk => (h.at_ k hk).other (fun e => hb ?_) v, h.nodup⟩
  rw [e, List.getD_eq_getElem?_getD, List.getElem?_eq_getElem hk]
  exact List.getElem_mem _
end Mat
end Go.Proofs.Ytdpogmibahaklaa
