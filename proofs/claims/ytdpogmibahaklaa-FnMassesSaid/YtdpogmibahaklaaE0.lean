/- The program's functions on masses and fits, as plain functions of bits. -/
import Derived.Test.YtdpogmibahaklaaM0
set_option linter.unusedVariables false
namespace Go.Proofs.Ytdpogmibahaklaa

/-! ### Nodes and weights -/
def f32n (n : Nat) : Nat := floatOfInt .f32 (n : Int)
/-- The value at a node, and the slope there. -/
def slopeNF (n x : Nat) : Option (Nat × Nat) :=
  (rowF 2 n x).bind fun row => (o32 .mul x (row.getD n 0)).bind fun a => (o32 .sub a (row.getD (n - 1) 0)).bind fun b => (o32 .mul (f32n n) b).bind fun c =>
  (o32 .mul x x).bind fun e => (o32 .sub e 1065353216).bind fun f => (o32 .quo c f).bind fun s => some (row.getD n 0, s)
def nodeStepF (n x : Nat) : Option Nat := (slopeNF n x).bind fun s => (o32 .quo s.1 s.2).bind fun d => o32 .sub x d
def nodeArgF (n k : Nat) : Option Nat := (o32 .add (f32n k) 1061158912).bind fun a => (o32 .quo a (f32n (2 * n + 1))).bind fun q => o32 .add q 1048576000
def nodeF (n k : Nat) : Option Nat := (nodeArgF n k).bind fun t => (sineTurnsF t).bind fun x => stepsF (fun _ => nodeStepF n) 12 0 x
def weightNF (n x : Nat) : Option Nat :=
  (slopeNF n x).bind fun s => (o32 .mul x x).bind fun a => (o32 .sub 1065353216 a).bind fun b => (o32 .mul b s.2).bind fun c => (o32 .mul c s.2).bind fun d => o32 .quo 1073741824 d
def evenStepF (n k : Nat) (s : List Nat × List Nat) : Option (List Nat × List Nat) := (nodeF n k).bind fun x => (weightNF n x).bind fun w => some (s.1 ++ [x], s.2 ++ [w])
def evenF (n : Nat) : Option (List Nat × List Nat) := stepsF (evenStepF n) n 0 ([], [])

/-! ### Masses -/
def massF (p : List C) (xs ws : List Nat) : Option C :=
  stepsF (fun i all => (nestF p (xs.getD i 0, 0)).bind fun v => (scaleF v (ws.getD i 0)).bind fun t => plusF all t) xs.length 0 zero
def riseOneF (p : List C) (k : Nat) (out : List C) : Option (List C) := (o32 .quo 1065353216 (f32n (k + 1))).bind fun b => (scaleF (p.getD k zero) b).bind fun c => some (out ++ [c])
def risePolyF (p : List C) : Option (List C) := stepsF (riseOneF p) p.length 0 [zero]
def exactF (p : List C) : Option C := (risePolyF p).bind fun r => (nestF r one).bind fun a => (nestF r (3212836864, 0)).bind fun b => minusF a b
def longPolyF (p : List C) : Option Nat := stepsF (fun k all => (longF (p.getD k zero)).bind fun l => o32 .add all l) p.length 0 0

/-! ### Fits -/
def powF (x t : Nat) : Option Nat := stepsF (fun _ out => o32 .mul out x) t 0 1065353216
def magF (x : Nat) : Nat := if FloatKind.f32.format.order x 0 == some .lt then Op.negFloat .f32 x else x
def fitOneF (xs ws : List Nat) (e : Nat) (a : Nat) : Option Nat :=
  stepsF (fun j a => (powF (xs.getD j 0) e).bind fun p => (o32 .mul (ws.getD j 0) p).bind fun t => o32 .add a t) xs.length 0 a
def fitLastF (xs ys ws : List Nat) (e : Nat) (a : Nat) : Option Nat :=
  stepsF (fun j a => (powF (xs.getD j 0) e).bind fun p => (o32 .mul (ws.getD j 0) p).bind fun t => (o32 .mul t (ys.getD j 0)).bind fun u => o32 .add a u) xs.length 0 a
def fitRowF (xs ys ws : List Nat) (n i : Nat) : Option (List Nat) :=
  (stepsF (fun k row => (fitOneF xs ws (i + k) (row.getD k 0)).bind fun a => some (row.set k a)) n 0 (List.replicate (n + 1) 0)).bind fun row =>
    (fitLastF xs ys ws i (row.getD n 0)).bind fun a => some (row.set n a)
def fitRowsF (xs ys ws : List Nat) (n : Nat) : Option (List (List Nat)) := stepsF (fun i rows => (fitRowF xs ys ws n i).bind fun r => some (rows ++ [r])) n 0 []
def cellF (rows : List (List Nat)) (i k : Nat) : Nat := (rows.getD i []).getD k 0
def pivotF (rows : List (List Nat)) (k n : Nat) : Option Nat :=
  stepsF (fun i at_ => some (if FloatKind.f32.format.order (magF (cellF rows i k)) (magF (cellF rows at_ k)) == some .gt then i else at_)) (n - (k + 1)) (k + 1) k
def swapF (rows : List (List Nat)) (k a : Nat) : List (List Nat) := (rows.set k (rows.getD a [])).set a (rows.getD k [])
def lessF (rows : List (List Nat)) (k n i : Nat) : Option (List (List Nat)) :=
  (o32 .quo (cellF rows i k) (cellF rows k k)).bind fun f =>
  stepsF (fun j rows => (o32 .mul f (cellF rows k j)).bind fun t => (o32 .sub (cellF rows i j) t).bind fun d => some (rows.set i ((rows.getD i []).set j d))) (n + 1 - (k + 1)) (k + 1) rows
def roundF (n k : Nat) (rows : List (List Nat)) : Option (List (List Nat)) :=
  (pivotF rows k n).bind fun a =>
    if FloatKind.f32.format.order (cellF (swapF rows k a) k k) 0 == some .eq then none
    else stepsF (fun i rows => lessF rows k n i) (n - (k + 1)) (k + 1) (swapF rows k a)
def backOneF (rows : List (List Nat)) (n j : Nat) (out : List Nat) : Option (List Nat) :=
  (stepsF (fun k left => (o32 .mul (cellF rows (n - 1 - j) k) (out.getD k 0)).bind fun t => o32 .sub left t) j (n - j) (cellF rows (n - 1 - j) n)).bind fun left =>
    (o32 .quo left (cellF rows (n - 1 - j) (n - 1 - j))).bind fun q => some (out.set (n - 1 - j) q)
def fitPolyF (xs ys ws : List Nat) (n : Nat) : Option (List Nat) :=
  (fitRowsF xs ys ws n).bind fun rows => (stepsF (roundF n) n 0 rows).bind fun rows => stepsF (backOneF rows n) n 0 (List.replicate n 0)
end Go.Proofs.Ytdpogmibahaklaa
