/- The program's functions on families, as plain functions of bits. -/
import Derived.Test.YtdpogmibahaklaaFs
set_option linter.unusedVariables false
namespace Go.Proofs.Ytdpogmibahaklaa

/-- What an operation on numbers of 32 bits makes. -/
def o32 (op : BinOp) (x y : Nat) : Option Nat := floatBits op .f32 x y
/-- What an operation on numbers of 64 bits makes. -/
def o64 (op : BinOp) (x y : Nat) : Option Nat := floatBits op .f64 x y

/-- The three numbers by which a family goes on. -/
def ruleF (kind n : Nat) : Option (Nat × Nat × Nat) :=
  if kind = 0 then some (if n = 0 then (1065353216, 0, 1065353216) else (1073741824, 0, 1065353216))
  else if kind = 1 then some (1073741824, 0, 1065353216)
  else if kind = 3 then some (1065353216, 0, floatOfInt .f32 (n : Int))
  else
    (o32 .mul 1073741824 (floatOfInt .f32 (n : Int))).bind fun d => (o32 .add d 1065353216).bind fun e => (o32 .add (floatOfInt .f32 (n : Int)) 1065353216).bind fun g => (o32 .quo e g).bind fun m =>
    (o32 .quo (floatOfInt .f32 (n : Int)) g).bind fun c => if kind = 2 then some (m, 0, c) else (o32 .quo 3212836864 g).bind fun a => some (a, m, c)

def lineF (kind x k : Nat) (s : List Nat × Nat) : Option (List Nat × Nat) :=
  (ruleF kind k).bind fun r => (o32 .mul r.1 x).bind fun m => (o32 .add m r.2.1).bind fun p => (o32 .mul p (s.1.getD k 0)).bind fun t =>
  (o32 .mul r.2.2 s.2).bind fun u => (o32 .sub t u).bind fun d => some (s.1 ++ [d], s.1.getD k 0)
/-- The values of the polynomials 0 to n. -/
def rowF (kind n x : Nat) : Option (List Nat) := (stepsF (lineF kind x) n 0 ([1065353216], 0)).map Prod.fst

def termF (r : Nat × Nat × Nat) (one before : List Nat) (k : Nat) (out : List Nat) : Option (List Nat) :=
  (o32 .mul r.1 (if k = 0 then 0 else one.getD (k - 1) 0)).bind fun a => (o32 .mul r.2.1 (one.getD k 0)).bind fun b => (o32 .add a b).bind fun s =>
  (o32 .mul r.2.2 (before.getD k 0)).bind fun c => (o32 .sub s c).bind fun d => some (out ++ [d])
def termsStepF (kind m : Nat) (s : List (List Nat) × List Nat) : Option (List (List Nat) × List Nat) :=
  (ruleF kind m).bind fun r => (stepsF (termF r (s.1.getD m []) s.2) ((s.1.getD m []).length + 1) 0 []).bind fun next => some (s.1 ++ [next], s.1.getD m [])
/-- The terms of the polynomials 0 to n. -/
def termsF (kind n : Nat) : Option (List (List Nat)) := (stepsF (termsStepF kind) n 0 ([[1065353216]], [])).map Prod.fst
def famPolyF (kind n : Nat) : Option (List C) := (termsF kind n).map fun l => (l.getD n []).map fun x => (x, 0)

def sumStepF (kind x : Nat) (ws : List Nat) (k : Nat) (s : Nat × Nat) : Option (Nat × Nat) :=
  (ruleF kind k).bind fun r => (ruleF kind (k + 1)).bind fun q => (o32 .mul r.1 x).bind fun m => (o32 .add m r.2.1).bind fun p => (o32 .mul p s.1).bind fun t =>
  (o32 .add (ws.getD k 0) t).bind fun e => (o32 .mul q.2.2 s.2).bind fun u => (o32 .sub e u).bind fun d => some (d, s.1)
def famSumF (kind : Nat) (ws : List Nat) (x : Nat) : Option Nat := (stepsF (fun j => sumStepF kind x ws (ws.length - 1 - j)) ws.length 0 (0, 0)).map Prod.fst

def addAllF (w : C) (f out : List C) : Option (List C) :=
  stepsF (fun i out => (mulF w (f.getD i zero)).bind fun p => (plusF (out.getD i zero) p).bind fun s => some (out.set i s)) f.length 0 out
def polyFamF (kind : Nat) (ws : List C) : Option (List C) :=
  stepsF (fun k out => (famPolyF kind k).bind fun f => addAllF (ws.getD k zero) f out) ws.length 0 (List.replicate ws.length zero)

def takeOffF (f : List C) (q : C) (m : Nat) (left : List C) : Option (List C) :=
  stepsF (fun i left => (mulF q (f.getD i zero)).bind fun p => (minusF (left.getD i zero) p).bind fun d => some (left.set i d)) m 0 left
def famOfStepF (kind k : Nat) (s : List C × List C) : Option (List C × List C) :=
  (famPolyF kind k).bind fun f => (quotF (s.1.getD k zero) (f.getD k zero)).bind fun q => (takeOffF f q (k + 1) s.1).bind fun left => some (left, s.2.set k q)
def famOfF (kind : Nat) (p : List C) : Option (List C) :=
  (stepsF (fun j => famOfStepF kind (p.length - 1 - j)) p.length 0 (p, List.replicate p.length zero)).map Prod.snd

/-! ### The sine -/
def truncF (x : Nat) : Option Nat :=
  match FloatKind.f64.decode x with
  | .nan _ _ => none
  | d => some (FloatKind.f64.encode (d.integral .zero))
def partTurnF (x : Nat) : Option Nat :=
  (truncF x).bind fun t => (o64 .sub x (if Ieee.double.order t 0 == some .eq then 0 else t)).bind fun f => if Ieee.double.order f 0 == some .lt then o64 .add f 4607182418800017408 else some f
def k64 (k : Nat) : Nat := floatOfInt .f64 (k : Int)
def sineStepF (u k p : Nat) : Option Nat :=
  (o64 .mul u p).bind fun a => (o64 .mul 4611686018427387904 (k64 k)).bind fun b => (o64 .add b 4607182418800017408).bind fun d => (o64 .mul b d).bind fun e => (o64 .quo a e).bind fun q => o64 .sub 4607182418800017408 q
def sineEndF (sign : Bool) (f : Nat) : Option Nat :=
  (o64 .mul f 4618760256179416344).bind fun z => (o64 .mul z z).bind fun u => (stepsF (fun j p => sineStepF u (8 - j) p) 8 0 4607182418800017408).bind fun p => (o64 .mul z p).bind fun r => some (if sign then Op.negFloat .f64 r else r)
def gtB (x y : Nat) : Bool := Ieee.double.order x y == some .gt
def geB (x y : Nat) : Bool := (Ieee.double.order x y == some .gt) || (Ieee.double.order x y == some .eq)
def sineF (x : Nat) : Option Nat :=
  (partTurnF x).bind fun f => (if geB f 4602678819172646912 then o64 .sub f 4602678819172646912 else some f).bind fun g =>
  (if gtB g 4598175219545276416 then o64 .sub 4602678819172646912 g else some g).bind fun q => sineEndF (geB f 4602678819172646912) q
def sineTurnsF (x : Nat) : Option Nat := (wide x).bind fun y => (sineF y).bind fun s => narrow s

/-- Where the points and the weights of a half circle are seen: top over four times n, and a quarter. -/
def argF (n top : Nat) : Option Nat := (o32 .quo (floatOfInt .f32 (top : Int)) (floatOfInt .f32 ((4 * n : Nat) : Int))).bind fun q => o32 .add q 1048576000
def seenF (n top : Nat) : Option Nat := (argF n top).bind sineTurnsF
def pointsF (n : Nat) : Option (List Nat) := stepsF (fun k out => (seenF n (2 * k + 1)).bind fun s => some (out ++ [s])) n 0 []
def fitAllF (vs : List Nat) (j : Nat) : Option Nat :=
  stepsF (fun k all => (seenF vs.length (j * (2 * k + 1))).bind fun s => (o32 .mul (vs.getD k 0) s).bind fun t => o32 .add all t) vs.length 0 0
def fitF (vs : List Nat) : Option (List Nat) :=
  stepsF (fun j out => (fitAllF vs j).bind fun all => (o32 .quo 1073741824 (floatOfInt .f32 (vs.length : Int))).bind fun b2 =>
    (if j = 0 then o32 .quo 1065353216 (floatOfInt .f32 (vs.length : Int)) else some b2).bind fun b => (o32 .mul all b).bind fun c => some (out ++ [c])) vs.length 0 []
end Go.Proofs.Ytdpogmibahaklaa
