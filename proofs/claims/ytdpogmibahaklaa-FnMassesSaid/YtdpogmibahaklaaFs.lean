/- The program's functions on series, as plain functions of bits. -/
import Derived.Test.YtdpogmibahaklaaFl
set_option linter.unusedVariables false
namespace Go.Proofs.Ytdpogmibahaklaa

/-- So many steps, counted from a number on. -/
def stepsF {σ : Type} (f : Nat → σ → Option σ) : Nat → Nat → σ → Option σ
  | 0, _, s => some s
  | n + 1, i, s => (f i s).bind fun s' => stepsF f n (i + 1) s'

theorem stepsF_succ {σ : Type} {f : Nat → σ → Option σ} {n i : Nat} {s r : σ} (h : stepsF f (n + 1) i s = some r) : ∃ s', f i s = some s' ∧ stepsF f n (i + 1) s' = some r := by
  simpa [stepsF, Option.bind_eq_some_iff] using h
theorem stepsF_zero {σ : Type} {f : Nat → σ → Option σ} {i : Nat} {s r : σ} (h : stepsF f 0 i s = some r) : s = r := by
  simpa [stepsF] using h

def mixF (a b : List C) (k n i : Nat) : Option C :=
  stepsF (fun i acc => (mulF (a.getD i zero) (b.getD (k - i) zero)).bind fun p => plusF acc p) n i zero

def mulSF (a b : List C) (n : Nat) : Option (List C) :=
  stepsF (fun k out => (mixF a b k (k + 1) 0).bind fun c => some (out ++ [c])) n 0 []

def invStepF (a : List C) (k : Nat) (out : List C) : Option (List C) :=
  (mixF a out k k 1).bind fun s => (minusF zero s).bind fun d => (quotF d (a.getD 0 zero)).bind fun q => some (out.set k q)
def invF (a : List C) : Option (List C) :=
  (quotF one (a.getD 0 zero)).bind fun q => stepsF (invStepF a) (a.length - 1) 1 ((List.replicate a.length zero).set 0 q)

def slopeF (a : List C) : Option (List C) :=
  stepsF (fun k out => (scaleF (a.getD (k + 1) zero) (floatOfInt .f32 ((k : Int) + 1))).bind fun c => some (out.set k c)) (a.length - 1) 0 (List.replicate a.length zero)
def riseF (a : List C) : Option (List C) :=
  stepsF (fun k out => (partF (a.getD (k - 1) zero) (k : Int)).bind fun c => some (out.set k c)) (a.length - 1) 1 (List.replicate a.length zero)

def expMixF (a out : List C) (k n i : Nat) : Option C :=
  stepsF (fun i acc => (scaleF (a.getD i zero) (floatOfInt .f32 (i : Int))).bind fun t => (mulF t (out.getD (k - i) zero)).bind fun p => plusF acc p) n i zero
def expF (a : List C) : Option (List C) :=
  stepsF (fun k out => (expMixF a out k k 1).bind fun s => (partF s (k : Int)).bind fun c => some (out.set k c)) (a.length - 1) 1 ((List.replicate a.length zero).set 0 one)
def rootF (a : List C) : Option (List C) :=
  stepsF (fun k out => (mixF out out k (k - 1) 1).bind fun s => (minusF (a.getD k zero) s).bind fun d => (scaleF d 1056964608).bind fun c => some (out.set k c)) (a.length - 1) 1 ((List.replicate a.length zero).set 0 one)

def composeF (a b : List C) : Option (List C) :=
  stepsF (fun j out => (mulSF out b a.length).bind fun m => (plusF (m.getD 0 zero) (a.getD (a.length - 2 - j) zero)).bind fun c => some (m.set 0 c)) (a.length - 1) 0
    ((List.replicate a.length zero).set 0 (a.getD (a.length - 1) zero))
def turnStepF (a : List C) (k : Nat) (out : List C) : Option (List C) :=
  (composeF a out).bind fun m => (minusF zero (m.getD k zero)).bind fun d => (quotF d (a.getD 1 zero)).bind fun q => some (out.set k q)
def turnF (a : List C) : Option (List C) :=
  (quotF one (a.getD 1 zero)).bind fun q => stepsF (turnStepF a) (a.length - 2) 2 ((List.replicate a.length zero).set 1 q)

/-- Nested steps from the last term on. -/
def nestF (l : List C) (z : C) : Option C :=
  stepsF (fun j v => (mulF v z).bind fun p => plusF p (l.getD (l.length - 2 - j) zero)) (l.length - 1) 0 (l.getD (l.length - 1) zero)

/-- Each number times one. -/
def timesAllF (x : C) (l : List C) : Option (List C) :=
  stepsF (fun k out => (mulF x (l.getD k zero)).bind fun c => some (out ++ [c])) l.length 0 []

/-! ### Lengths -/
theorem stepsF_inv {σ : Type} {f : Nat → σ → Option σ} (I : σ → Prop) (hf : ∀ i s s', I s → f i s = some s' → I s') : ∀ (n i : Nat) (s r : σ), I s → stepsF f n i s = some r → I r
  | 0, i, s, r, h, hr => by rw [← stepsF_zero hr]; exact h
  | n + 1, i, s, r, h, hr => by
    obtain ⟨s', h1, h2⟩ := stepsF_succ hr
    exact stepsF_inv I hf n (i + 1) s' r (hf i s s' h h1) h2
theorem slopeF_len {a r : List C} (h : slopeF a = some r) : r.length = a.length := by
  refine stepsF_inv (fun s => s.length = a.length) ?_ _ _ _ _ (by simp) h
  intro i s s' hs h1
  simp only [Option.bind_eq_some_iff] at h1
  obtain ⟨c, _, h2⟩ := h1
  cases h2
  rw [List.length_set]; exact hs
theorem riseF_len {a r : List C} (h : riseF a = some r) : r.length = a.length := by
  refine stepsF_inv (fun s => s.length = a.length) ?_ _ _ _ _ (by simp) h
  intro i s s' hs h1
  simp only [Option.bind_eq_some_iff] at h1
  obtain ⟨c, _, h2⟩ := h1
  cases h2
  rw [List.length_set]; exact hs
theorem invF_len {a r : List C} (h : invF a = some r) : r.length = a.length := by
  simp only [invF, Option.bind_eq_some_iff] at h
  obtain ⟨q, _, h⟩ := h
  refine stepsF_inv (fun s => s.length = a.length) ?_ _ _ _ _ (by simp) h
  intro i s s' hs h1
  simp only [invStepF, Option.bind_eq_some_iff] at h1
  obtain ⟨c, _, d, _, q, _, h2⟩ := h1
  cases h2
  rw [List.length_set]; exact hs
theorem expF_len {a r : List C} (h : expF a = some r) : r.length = a.length := by
  refine stepsF_inv (fun s => s.length = a.length) ?_ _ _ _ _ (by simp) h
  intro i s s' hs h1
  simp only [Option.bind_eq_some_iff] at h1
  obtain ⟨c, _, d, _, h2⟩ := h1
  cases h2
  rw [List.length_set]; exact hs
theorem rootF_len {a r : List C} (h : rootF a = some r) : r.length = a.length := by
  refine stepsF_inv (fun s => s.length = a.length) ?_ _ _ _ _ (by simp) h
  intro i s s' hs h1
  simp only [Option.bind_eq_some_iff] at h1
  obtain ⟨c, _, d, _, q, _, h2⟩ := h1
  cases h2
  rw [List.length_set]; exact hs
theorem mulSF_len {a b r : List C} {n : Nat} (h : mulSF a b n = some r) : r.length = n := by
  have key : ∀ (m i : Nat) (s r : List C), stepsF (fun k out => (mixF a b k (k + 1) 0).bind fun c => some (out ++ [c])) m i s = some r → r.length = s.length + m := by
    intro m
    induction m with
    | zero => intro i s r h; rw [← stepsF_zero h]; rfl
    | succ m ih =>
      intro i s r h
      obtain ⟨s', h1, h2⟩ := stepsF_succ h
      simp only [Option.bind_eq_some_iff] at h1
      obtain ⟨c, _, h3⟩ := h1
      cases h3
      rw [ih _ _ _ h2, List.length_append]
      simp
      omega
  have := key n 0 [] r h
  simpa using this
theorem timesAllF_len {x : C} {l r : List C} (h : timesAllF x l = some r) : r.length = l.length := by
  have key : ∀ (m i : Nat) (s r : List C), stepsF (fun k out => (mulF x (l.getD k zero)).bind fun c => some (out ++ [c])) m i s = some r → r.length = s.length + m := by
    intro m
    induction m with
    | zero => intro i s r h; rw [← stepsF_zero h]; rfl
    | succ m ih =>
      intro i s r h
      obtain ⟨s', h1, h2⟩ := stepsF_succ h
      simp only [Option.bind_eq_some_iff] at h1
      obtain ⟨c, _, h3⟩ := h1
      cases h3
      rw [ih _ _ _ h2, List.length_append]
      simp
      omega
  have := key l.length 0 [] r h
  simpa using this
theorem composeF_len {a b r : List C} (h : composeF a b = some r) : r.length = a.length := by
  refine stepsF_inv (fun s => s.length = a.length) ?_ _ _ _ _ (by simp) h
  intro i s s' hs h1
  simp only [Option.bind_eq_some_iff] at h1
  obtain ⟨m, hm, c, _, h2⟩ := h1
  cases h2
  rw [List.length_set, mulSF_len hm]
theorem turnF_len {a r : List C} (h : turnF a = some r) : r.length = a.length := by
  simp only [turnF, Option.bind_eq_some_iff] at h
  obtain ⟨q, _, h⟩ := h
  refine stepsF_inv (fun s => s.length = a.length) ?_ _ _ _ _ (by simp) h
  intro i s s' hs h1
  simp only [turnStepF, Option.bind_eq_some_iff] at h1
  obtain ⟨c, _, d, _, q, _, h2⟩ := h1
  cases h2
  rw [List.length_set]; exact hs
end Go.Proofs.Ytdpogmibahaklaa
