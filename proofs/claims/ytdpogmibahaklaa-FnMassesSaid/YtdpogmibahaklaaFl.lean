/- The functions of the program on single numbers, as plain functions of bits: 'some' where every operation gives a number that the language fixes. -/
import Derived.WalkKit
import Derived.WalkSpells
import Derived.WalkLawsBesides
namespace Go.Proofs.Ytdpogmibahaklaa

/-- The bits of the parts of a complex number. -/
abbrev C := Nat × Nat
def zero : C := (0, 0)
def one : C := (1065353216, 0)

def wide (x : Nat) : Option Nat := floatToFloatBits .f32 x .f64
def narrow (x : Nat) : Option Nat := floatToFloatBits .f64 x .f32

def timesF (x y : C) : Option (Nat × Nat) :=
  (wide x.1).bind fun a => (wide x.2).bind fun b => (wide y.1).bind fun c => (wide y.2).bind fun d =>
  (floatBits .mul .f64 a c).bind fun ac => (floatBits .mul .f64 b d).bind fun bd => (floatBits .sub .f64 ac bd).bind fun re =>
  (floatBits .mul .f64 a d).bind fun ad => (floatBits .mul .f64 b c).bind fun bc => (floatBits .add .f64 ad bc).bind fun im => some (re, im)

def mulF (x y : C) : Option C :=
  (timesF x y).bind fun p => (narrow p.1).bind fun re => (narrow p.2).bind fun im => some (re, im)

def plusF (x y : C) : Option C :=
  (floatBits .add .f32 x.1 y.1).bind fun re => (floatBits .add .f32 x.2 y.2).bind fun im => some (re, im)

def minusF (x y : C) : Option C :=
  (floatBits .sub .f32 x.1 y.1).bind fun re => (floatBits .sub .f32 x.2 y.2).bind fun im => some (re, im)

def scaleF (x : C) (by_ : Nat) : Option C :=
  (floatBits .mul .f32 x.1 by_).bind fun re => (floatBits .mul .f32 x.2 by_).bind fun im => some (re, im)

def partF (x : C) (k : Int) : Option C :=
  (floatBits .quo .f32 x.1 (floatOfInt .f32 k)).bind fun re => (floatBits .quo .f32 x.2 (floatOfInt .f32 k)).bind fun im => some (re, im)

def conjF (x : C) : C := (x.1, Op.negFloat .f32 x.2)

def powerF (x : C) : Option Nat :=
  (wide x.1).bind fun a => (wide x.2).bind fun b => (floatBits .mul .f64 a a).bind fun aa => (floatBits .mul .f64 b b).bind fun bb => floatBits .add .f64 aa bb

def quotF (x y : C) : Option C :=
  (timesF x (conjF y)).bind fun n => (powerF y).bind fun p => (floatBits .quo .f64 n.1 p).bind fun a => (narrow a).bind fun re =>
  (floatBits .quo .f64 n.2 p).bind fun b => (narrow b).bind fun im => some (re, im)

def longF (x : C) : Option Nat := (powerF x).bind fun p => (Ieee.double.sqrt p).bind fun r => narrow r

/-- 'x - x == 0'. -/
def finB (x : Nat) : Option Bool := (floatBits .sub .f32 x x).map fun d => Ieee.single.order d 0 == some .eq
end Go.Proofs.Ytdpogmibahaklaa
