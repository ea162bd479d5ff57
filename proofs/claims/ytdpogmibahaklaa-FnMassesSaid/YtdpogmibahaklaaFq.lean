/- What the statement on series asks, as plain functions of bits. -/
import Derived.Test.YtdpogmibahaklaaW8
import Derived.Test.YtdpogmibahaklaaW6
import Derived.Test.YtdpogmibahaklaaW10
import Derived.Test.YtdpogmibahaklaaW12
set_option linter.unusedVariables false
namespace Go.Proofs.Ytdpogmibahaklaa

def one64 : Nat := 4607182418800017408
def c001 : Nat := 4562254508917369340
def half : C := (1056964608, 0)

def f64max (x y : Nat) : Option Nat :=
  match Ieee.double.order x y with
  | none => none
  | some .lt => some y
  | some .gt => some x
  | some .eq => some (if (Ieee.double.read x).neg then y else x)
/-- 'float64(spec.LongOf(x))'. -/
def longW (x : C) : Option Nat := (longF x).bind wide
/-- 'float64(spec.LongOf(x - y))'. -/
def farF (x y : C) : Option Nat := (minusF x y).bind longW
def max4F (s a b c : Nat) : Option Nat := (f64max s a).bind fun m => (f64max m b).bind fun m => f64max m c
def scaleAllF (iv ex rt : List C) (n : Nat) : Option Nat :=
  stepsF (fun k s => (longW (iv.getD k zero)).bind fun a => (longW (ex.getD k zero)).bind fun b => (longW (rt.getD k zero)).bind fun c => max4F s a b c) n 0 0
def wideAllF (tu : List C) (n : Nat) : Option Nat :=
  stepsF (fun k s => (longW (tu.getD k zero)).bind fun a => f64max s a) n 0 0
/-- '0.001*(1+s)*(1+s)'. -/
def mostF (s : Nat) : Option Nat := (floatBits .add .f64 one64 s).bind fun t => (floatBits .mul .f64 c001 t).bind fun u => floatBits .mul .f64 u t
/-- x is not above y. -/
def NotGt (x y : Nat) : Prop := (Ieee.double.order x y == some .gt) = false
/-- At most so far. -/
def Near (x y : C) (m : Nat) : Prop := ∃ d, farF x y = some d ∧ NotGt d m

/-- The first part of the statement on series. -/
structure SerOk1 (n : Nat) (a b : List C) (iv un ex lsl liv lq lg rt sq ri sl asl aq al t hf : List C) (sc mo : Nat) : Prop where
  sa : SerC a
  la : a.length = n
  az : isZ (a.getD 0 zero) = false
  ao : isO (a.getD 0 zero) = true
  sb : SerC b
  lb : b.length = n
  bz : isZ (b.getD 0 zero) = true
  hiv : invF a = some iv
  siv : SerC iv
  hun : mulSF a iv n = some un
  sun : SerC un
  hex : expF b = some ex
  sex : SerC ex
  hlg : LogC ex lg lsl liv lq
  hrt : rootF a = some rt
  srt : SerC rt
  hsq : mulSF rt rt n = some sq
  ssq : SerC sq
  hri : riseF a = some ri
  sri : SerC ri
  hsl : slopeF ri = some sl
  ssl : SerC sl
  hal : LogC a al asl iv aq
  ht : timesAllF half al = some t
  st : SerC t
  tz : isZ (t.getD 0 zero) = true
  hhf : expF t = some hf
  shf : SerC hf
  hsc : scaleAllF iv ex rt n = some sc
  hmo : mostF sc = some mo
  cmp : ∀ k, k < n → Near (un.getD k zero) (if k = 0 then one else zero) mo ∧ Near (lg.getD k zero) (b.getD k zero) mo ∧ Near (sq.getD k zero) (a.getD k zero) mo ∧ Near (hf.getD k zero) (rt.getD k zero) mo
  cmp2 : ∀ k, k + 1 < n → Near (sl.getD k zero) (a.getD k zero) c001

/-- The second part: b with 1 in its second place. -/
structure SerOk2 (n : Nat) (b : List C) (tu wy : List C) (wi : Nat) : Prop where
  sb : SerC b
  lb : b.length = n
  bz : isZ (b.getD 0 zero) = true
  b1 : isZ (b.getD 1 zero) = false
  htu : turnF b = some tu
  hout : TurnI b n
  stu : SerC tu
  tz : isZ (tu.getD 0 zero) = true
  hwy : composeF b tu = some wy
  swy : SerC wy
  hwi : wideAllF tu n = some wi
  cmp : ∃ m, mostF wi = some m ∧ ∀ k, k < n → Near (wy.getD k zero) (if k = 1 then one else zero) m

/-- The third part: values. -/
structure SerOk3 (a : List C) : Prop where
  z : ∀ v : Int, 0 ≤ v → v < 9 → ∃ q x, floatBits .quo .f32 (floatOfInt .f32 (v - 4)) 1090519040 = some q ∧ FinC (q, 0) ∧ nestF a (q, 0) = some x ∧ FinC x ∧ Plain x.1 ∧ Plain x.2
  o : ∃ x, nestF a zero = some x ∧ FinC x ∧ ∃ d, farF x one = some d ∧ Ieee.double.order d c001 = some .lt
end Go.Proofs.Ytdpogmibahaklaa
