/-
  What the named functions mean: a Cfg byte, ranges, a Match, what a Cpu's registers tell and keep; all on whole numbers alone. No condition.
-/
import Derived.Test.YtibfaifjnifgjaaBits
namespace Go.Proofs.Ytibfaifjnifgjaa
open Go.Sx Go.RowKit

def byteE (e : E) : E := .ite (.bin .eql .u8 (.bin .and .u8 e (.lit 1)) (.lit 0)) (.bin .and .u8 e (.lit 157)) (.bin .and .u8 e (.lit 159))
def byteF (x : Int) : Int := (byteE (.var 0)).den (envL [x])
inductive Fo where
  | id
  | zero
  | off (m : Int)
  | on (m : Int)
  | mode
  | stat
  | byte

def modeF (n : Int) : Int := if n = 3 then 3 else 0

def Fo.sem (o : Fo) (x : Int) : Int :=
  match o with
  | .id => x
  | .zero => 0
  | .off m => binDen .andNot .u64 x m
  | .on m => binDen .and .u64 x m
  | .mode => modeF x
  | .stat => Go.Sx.stat x
  | .byte => byteF x

def resS (a b c : Int) : List Int := [resV [a, b, c], if resV [a, b, c] ≠ 0 then b else 0, if resV [a, b, c] ≠ 0 then c else 0]

def opsS : List Fo → List Int → List Int
  | [], xs => match xs with
    | [a, b, c] => resS a b c
    | _ => []
  | o :: os, xs => match xs with
    | [] => []
    | x :: xs => o.sem x :: opsS os xs

def pmpKs : List (Option IntKind) := List.replicate 16 (some .u8) ++ List.replicate 16 (some .u64)
def pmpOs : List Fo := List.replicate 16 .byte ++ List.replicate 16 (.on 18014398509481983)

def cpuKs : List (Option IntKind) := List.replicate 33 (some .u64) ++ [some .i64, none] ++ List.replicate 12 (some .u64) ++ pmpKs ++ [none, some .u64, some .i64]
def cpuOs : List Fo := [.off 1, .zero] ++ List.replicate 31 .id ++ [.mode, .id, .stat, .off 2, .on 2184, .on 7, .on 5, .on 1, .id, .off 1, .id, .id, .id, .id] ++ pmpOs

def lockT (x : E) : E := .bin .eql .u8 (.bin .and .u8 x (.lit 128)) (.lit 0)
def kindT (x : E) : E := .conv .i64 (.bin .and .u8 (.bin .shr .u8 x (.lit 3)) (.lit 3))

def ltE (a b : E) : E := .bin .lss .i64 a b
def eqE (a b : E) : E := .bin .eql .i64 a b

def m54 : Int := 18014398509481983
def a54 (e : E) : E := .bin .and .u64 e (.lit m54)
def isKind (c : E) (n : Int) : E := eqE (kindT c) (.lit n)
def lowE (a : E) : E := .bin .or .u64 (.bin .shl .u64 (.bin .andNot .u64 a (.bin .add .u64 a (.lit 1))) (.lit 1)) (.lit 1)
def napFrom (a : E) : E := .bin .shl .u64 (.bin .andNot .u64 a (lowE a)) (.lit 2)
def napTo (a : E) : E := .bin .add .u64 (napFrom a) (.bin .or .u64 (.bin .shl .u64 (lowE a) (.lit 2)) (.lit 3))
def fromE (c p a : E) : E := .ite (isKind c 1) (.ite (.bin .lss .u64 p a) (.bin .shl .u64 p (.lit 2)) (.lit 0)) (.ite (isKind c 2) (.bin .shl .u64 a (.lit 2)) (.ite (isKind c 3) (.ite (.bin .eql .u64 a (.lit m54)) (.lit 0) (napFrom a)) (.lit 0)))
def toE (c p a : E) : E := .ite (isKind c 1) (.ite (.bin .lss .u64 p a) (.bin .sub .u64 (.bin .shl .u64 a (.lit 2)) (.lit 1)) (.lit 0)) (.ite (isKind c 2) (.bin .add .u64 (.bin .shl .u64 a (.lit 2)) (.lit 3)) (.ite (isKind c 3) (.ite (.bin .eql .u64 a (.lit m54)) (.lit 18446744073709551615) (napTo a)) (.lit 0)))
def okE (c p a : E) : E := .ite (isKind c 1) (.bin .lss .u64 p a) (.ite (isKind c 2) (.lit 1) (isKind c 3))
/-- The entry's own terms: of number 0 the range begins at 0. -/
def from0 (c a : E) : E := .ite (isKind c 1) (.lit 0) (.ite (isKind c 2) (.bin .shl .u64 a (.lit 2)) (.ite (isKind c 3) (.ite (.bin .eql .u64 a (.lit m54)) (.lit 0) (napFrom a)) (.lit 0)))


/-! ### Ranges -/

def fromF (c p a : Int) : Int := (fromE (.var 0) (.var 1) (.var 2)).den (envL [c, p, a])
def toF (c p a : Int) : Int := (toE (.var 0) (.var 1) (.var 2)).den (envL [c, p, a])
def okF (c p a : Int) : Int := (okE (.var 0) (.var 1) (.var 2)).den (envL [c, p, a])

def cfgAt (l : List Int) (i : Nat) : Int := (l[i]?).getD 0
def adrAt (l : List Int) (i : Nat) : Int := (l[16 + i]?).getD 0
def prevAt (l : List Int) (i : Nat) : Int := if i = 0 then 0 else adrAt l (i - 1)

/-- Does entry i's range hold the byte? -/
def holdsF (l : List Int) (i : Nat) (b : Int) : Bool :=
  decide (okF (cfgAt l i) (prevAt l i) (adrAt l i) ≠ 0) && (decide (fromF (cfgAt l i) (prevAt l i) (adrAt l i) ≤ b) && decide (b ≤ toF (cfgAt l i) (prevAt l i) (adrAt l i)))

/-- How many of the first n bytes entry i's range holds. -/
def cntF (l : List Int) (i : Nat) (addr : Int) : Nat → Nat
  | 0 => 0
  | n + 1 => cntF l i addr n + if holdsF l i (IntKind.u64.wrap (addr + n)) then 1 else 0

/-- The first entry from i on, of m, that holds a byte. -/
def firstF (l : List Int) (addr : Int) (n : Nat) : Nat → Nat → Int
  | 0, _ => -1
  | m + 1, i => if 0 < cntF l i addr n then (i : Int) else firstF l addr n m (i + 1)

def matchI (l : List Int) (addr size : Int) : Int := if 1 ≤ size ∧ size ≤ 8 then firstF l addr size.toNat 16 0 else -1
def matchOk (l : List Int) (addr size : Int) : Int := if matchI l addr size < 0 then 0 else b2i (decide (cntF l (matchI l addr size).toNat addr size.toNat = size.toNat))

def lockB (c : Int) : Bool := decide (binDen .and .u8 c 128 ≠ 0)
def kindF (c : Int) : Int := (kindT (.var 0)).den (envL [c])

def checkF (l : List Int) (mode addr size bits : Int) : Int :=
  if (mode = 0 ∨ mode = 3) ∧ 1 ≤ size ∧ size ≤ 8 ∧ 1 ≤ bits ∧ bits ≤ 7 then
    if matchI l addr size < 0 then b2i (decide (mode = 3))
    else if matchOk l addr size = 0 then 0
    else if mode = 3 ∧ lockB (cfgAt l (matchI l addr size).toNat) = false then 1
    else b2i (decide (binDen .and .i64 (IntKind.i64.wrap (cfgAt l (matchI l addr size).toNat)) bits = bits))
  else 0

def grantF (l : List Int) (addr bits : Int) : Int :=
  if matchI l addr 1 < 0 then 0 else b2i (decide (binDen .and .i64 (binDen .and .i64 (IntKind.i64.wrap (cfgAt l (matchI l addr 1).toNat)) bits) 7 ≠ 0))

/-! ### Registers of entries -/

def heldF (l : List Int) (i : Nat) : Bool := lockB (cfgAt l i) || (decide (i < 15) && (lockB (cfgAt l (i + 1)) && decide (kindF (cfgAt l (i + 1)) = 1)))

def setAddrF (l : List Int) (i v : Int) : List Int :=
  (List.range 32).map fun j => if j < 16 then byteF (cfgAt l j) else if i = ((j - 16 : Nat) : Int) ∧ heldF l (j - 16) = false then binDen .and .u64 v m54 else binDen .and .u64 (adrAt l (j - 16)) m54

def setCfgF (l : List Int) (reg v : Int) : List Int :=
  (List.range 32).map fun j => if j < 16 then
      (if (reg = 0 ∧ j < 8 ∨ reg = 2 ∧ 8 ≤ j) ∧ lockB (cfgAt l j) = false then byteF (IntKind.u8.wrap (binDen .shr .u64 v ((8 * (j % 8) : Nat) : Int))) else byteF (cfgAt l j))
    else binDen .and .u64 (adrAt l (j - 16)) m54

def cfgSum (l : List Int) (o : Nat) : Nat → Int
  | 0 => 0
  | k + 1 => cfgSum l o k + byteF (cfgAt l (o + k)) * 256 ^ k
def cfgF (l : List Int) (reg : Int) : Int := if reg = 0 then cfgSum l 0 8 else if reg = 2 then cfgSum l 8 8 else 0

/-! ### Registers of a Cpu (its cells: Pc 0, X 1.., Mode 33, Waiting 34, Mstatus 35, Mtvec, Mie, Mcounteren, Mcountinhibit, Menvcfg, Mscratch 41, Mepc, Mcause, Mtval, Mcycle 45, Minstret 46, Cfg 47.., Addr 63.., Res 79..) -/

def cAt (l : List Int) (i : Nat) : Int := (l[i]?).getD 0

def inF (n a b : Int) : Bool := decide (a ≤ n) && decide (n ≤ b)
def existsF (n : Int) : Bool :=
  [0x300, 0x301, 0x304, 0x305, 0x306, 0x30a, 0x320, 0x3a0, 0x3a2].contains n || (inF n 0xf11 0xf15 || (inF n 0x323 0x33f || (inF n 0x340 0x344 || (inF n 0x3b0 0x3bf || ((inF n 0xb00 0xb1f && decide (n ≠ 0xb01)) || inF n 0xc00 0xc1f)))))

def span (a : Int) : Nat → List Int
  | 0 => []
  | n + 1 => a :: span (a + 1) n

/-- The numbers that tell the cells from 35 on. -/
def numL : List Int := [0x300, 0x305, 0x304, 0x306, 0x320, 0x30a, 0x340, 0x341, 0x342, 0x343, 0xb00, 0xb02] ++ (List.replicate 8 0x3a0 ++ (List.replicate 8 0x3a2 ++ span 0x3b0 16))
def numOf (j : Nat) : Int := (numL[j - 35]?).getD 0

/-- Counters under the number that is written. -/
def sameN (n : Int) : Int := if n = 0xc00 then 0xb00 else if n = 0xc02 then 0xb02 else n

def cfgV (l : List Int) (o : Nat) : Nat → Int
  | 0 => 0
  | k + 1 => binDen .or .u64 (cfgV l o k) (binDen .shl .u64 (IntKind.u64.wrap (cAt l (o + k))) ((8 * k : Nat) : Int))

/-- What a number that is there tells ('l': the cells from 35 on). -/
def toldF (l : List Int) (mip time n : Int) : Int :=
  if n = 0xf13 then 1 else if n = 0x301 then 0x8000000000101105 else if n = 0x344 then binDen .and .u64 mip 2184 else if n = 0xc01 then time
  else if n = 0x3a0 then cfgV l 12 8 else if n = 0x3a2 then cfgV l 20 8 else if numL.idxOf (sameN n) < 44 then cAt l (numL.idxOf (sameN n)) else 0

def lvlF (n : Int) : Int := binDen .and .i64 (binDen .shr .i64 n 8) 3

def readOk (mode n x : Int) : Bool :=
  existsF n && (!decide (mode < lvlF n) && !(decide (mode = 0) && (inF n 0xc00 0xc1f && decide (binDen .and .u64 (binDen .shr .u64 x (n - 0xc00)) 1 = 0))))
def readF (mode n mip time : Int) (l : List Int) : Int := if readOk mode n (cAt l 3) then toldF l mip time n else 0

def mppF (v old : Int) : Int :=
  if binDen .and .u64 v 6144 ≠ 0 ∧ binDen .and .u64 v 6144 ≠ 6144 then binDen .or .u64 (binDen .andNot .u64 v 6144) (binDen .and .u64 old 6144) else v

/-- Cell j behind a write of v to its number ('c', 'd': the entry's Cfg byte and the next one's). -/
def newF (j : Nat) (x v c d : Int) : Int :=
  if j = 35 then mppF v x else if j < 47 then v
  else if j < 63 then (if lockB x then x else IntKind.u8.wrap (binDen .shr .u64 v ((8 * ((j - 47) % 8) : Nat) : Int)))
  else if lockB c || (decide (j < 78) && (lockB d && decide (kindF d = 1))) then x else v
def wF (j : Nat) (l : List Int) : Int := if cAt l 0 = 3 ∧ cAt l 1 = numOf j then newF j (cAt l 2) (cAt l 3) (cAt l 4) (cAt l 5) else cAt l 2
def writeOk (mode n : Int) : Bool := decide (mode = 3) && (existsF n && !decide (binDen .and .i64 (binDen .shr .i64 n 10) 3 = 3))

/-! ### The named functions -/

/-- A table's number for mstatus x. -/
def selF (l : List Int) : Int :=
  match l with
  | [] => 0
  | x :: vs => (vs[statVals.idxOf x]?).getD 0

def PhiX (g : Nat) (l : List Int) : Int :=
  if g = 23 then fromF (cAt l 0) (cAt l 1) (cAt l 2) else if g = 24 then toF (cAt l 0) (cAt l 1) (cAt l 2) else if g = 25 then okF (cAt l 0) (cAt l 1) (cAt l 2)
  else if g = 26 then selF l
  else if g = 30 then matchI l (cAt l 32) (cAt l 33) else if g = 31 then matchOk l (cAt l 32) (cAt l 33)
  else if g = 32 then checkF l (cAt l 32) (cAt l 33) (cAt l 34) (cAt l 35) else if g = 33 then grantF l (cAt l 32) (cAt l 33) else if g = 34 then cfgF l (cAt l 32)
  else if 100 ≤ g ∧ g < 132 then cAt (setAddrF l (cAt l 32) (cAt l 33)) (g - 100) else if 140 ≤ g ∧ g < 172 then cAt (setCfgF l (cAt l 32) (cAt l 33)) (g - 140)
  else if g = 200 then readF (cAt l 0) (cAt l 1) (cAt l 2) (cAt l 3) (l.drop 4) else if g = 201 then b2i (readOk (cAt l 0) (cAt l 1) (cAt l 2)) else if g = 203 then b2i (existsF (cAt l 0)) else if g = 204 then b2i (writeOk (cAt l 0) (cAt l 1))
  else if 210 ≤ g ∧ g < 292 then wF (g - 210) l else 0

def Phi (g : Nat) (l : List Int) : Int :=
  if g = 20 then stat (l.headD 0) else if g = 21 then byteF (l.headD 0) else if g = 22 then resV l else PhiX g l

end Go.Proofs.Ytibfaifjnifgjaa
