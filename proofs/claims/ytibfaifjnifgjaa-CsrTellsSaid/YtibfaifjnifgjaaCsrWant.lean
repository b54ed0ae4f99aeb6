/-
  What Read and Write of a CSR come to, number by number, as terms over the arguments. No condition.
-/
import Derived.Test.YtibfaifjnifgjaaCsrKeys
namespace Go.Proofs.Ytibfaifjnifgjaa
open Go.Sx Go.RowKit

def wSh : List Sh := [.agg cpuKs, .one (some .i64), .one (some .u64)]
def rSh : List Sh := [.agg cpuKs, .one (some .u64), .one (some .u64), .one (some .i64)]

noncomputable def elE (l : List E) (i : Nat) : E := (getL l i).getD (.lit 0)

/-- A Cpu as Proper makes it, in M or in U. -/
noncomputable def properE (b : Bool) : List E := setL (opsE nrmG cpuOs (vars 82 0)) 33 (.lit (if b then 3 else 0))

/-! ### Write -/

def vE : E := .var 83
def m12 (e : E) : E := .bin .and .u64 e (.lit 6144)
def mppIE : E := .ite (.bin .eql .u64 (m12 vE) (.lit 0)) (.lit 0) (.bin .eql .i64 (.bin .eql .u64 (m12 vE) (.lit 6144)) (.lit 0))
def twoE : E := .bin .and .u64 (.bin .shr .u64 vE (.lit 11)) (.lit 3)
def mppRE : E := .ite (.bin .eql .u64 twoE (.lit 1)) (.lit 1) (.bin .eql .u64 twoE (.lit 2))
def mstE (c : E) : E := .app 20 (.cons (.ite c (.bin .or .u64 (.bin .and .u64 vE (.lit 18446744073709545471)) (m12 (.app 20 (.cons (.var 35) .nil)))) vE) .nil)
def heldIE (i : Nat) : E := .ite (lockT (.var (47 + i))) (.ite (lockT (.var (48 + i))) (.lit 0) (isKind (.var (48 + i)) 1)) (.lit 1)
def heldRE (i : Nat) : E := .ite (.ite (lockT (.var (48 + i))) (.lit 0) (isKind (.var (48 + i)) 1)) (.lit 1) (ntE (lockT (.var (47 + i))))
def adrE (held : Nat → E) (i : Nat) : E := if Nat.beq i 15 then .ite (lockT (.var 62)) (a54 vE) (a54 (.var 78)) else .ite (held i) (a54 (.var (63 + i))) (a54 vE)
def cfgE (i : Nat) : E := .ite (lockT (.var (47 + i))) (.app 21 (.cons (.conv .u8 (.bin .shr .u64 vE (.lit (Int.ofNat (8 * (i % 8)))))) .nil)) (.app 21 (.cons (.var (47 + i)) .nil))

/-- Cell j behind a write to its number. -/
noncomputable def newE (j : Nat) : E :=
  if Nat.beq j 35 then mstE mppIE else if Nat.blt j 47 then elE (opsE nrmG cpuOs (List.replicate 82 vE)) j else if Nat.blt j 63 then cfgE (j - 47) else adrE heldIE (j - 63)

noncomputable def zipW (k : Int) : Nat → List Int → List E → List E
  | _, [], es => es
  | j, n :: ns, es => match es with
    | [] => []
    | e :: es => (if intBeq k n then newE j else e) :: zipW k (j + 1) ns es

noncomputable def cellsW (b : Bool) (k : Int) : List E := if b then takeL (properE b) 35 ++ zipW k 35 numL (dropL (properE b) 35) else properE b

noncomputable def wantW (b : Bool) (k : Int) : C := .tup (.toC [.agg (.toC (flatE cpuKs (cellsW b k))), .bool (.lit (b2i (writeOk (if b then 3 else 0) k)))])
noncomputable def wantN (b : Bool) : C := .tup (.toC [.agg (.toC (flatE cpuKs (properE b))), .bool (.lit 0)])

/-- What the reference calls mstatus and the addresses. -/
noncomputable def eqsR : List (E × E) := (mstE mppRE, mstE mppIE) :: (List.range 15).map fun i => (adrE heldRE i, adrE heldIE i)

noncomputable def modeQ (b : Bool) : List (E × E) := isE2 modeT b

noncomputable def runW (b : Bool) (S : Int → Bool) : Bool := keyT (.var 82) (fun k t => existsF k && (!S k || leafIs (wantW b k) t)) (fun ex c => hasAll ex && c.beq (wantN b)) (evFn (keyK (modeQ b) (fun f => Nat.beq f 75) (fun _ => false)) 1000 75 (varsA wSh 0) []) []
noncomputable def runWR (b : Bool) (k : Int) : Bool := leafIs (wantW b k) (evFn (keyK (modeQ b ++ eqsR) (fun _ => false) (fun f => Nat.beq f 76)) 1000 76 ((varsA wSh 0).map (C.fix (.var 82) k)) [])

/-! ### Read -/

noncomputable def orL (xs : List E) (o : Nat) : Nat → E
  | 0 => .lit 0
  | k + 1 => .bin .or .u64 (orL xs o k) (.bin .shl .u64 (.conv .u64 (elE xs (o + k))) (.lit (8 * k : Nat)))

/-- What number k tells ('xs': the cells from 35 on). -/
noncomputable def toldE (xs : List E) (mip time : E) (k : Int) : E :=
  if intBeq k 0xf13 then .lit 1 else if intBeq k 0x301 then .lit 0x8000000000101105 else if intBeq k 0x344 then .bin .and .u64 mip (.lit 2184) else if intBeq k 0xc01 then time
  else if intBeq k 0x3a0 then orL xs 12 8 else if intBeq k 0x3a2 then orL xs 20 8 else if Nat.blt (numL.idxOf (sameN k)) 44 then elE xs (numL.idxOf (sameN k)) else .lit 0

noncomputable def toldV (b : Bool) (k : Int) : E := toldE (dropL (properE b) 35) (.var 82) (.var 83) k

noncomputable def pairR (v o : E) : C := .tup (.toC [.int .u64 v, .bool o])

/-- The counter's bit is not set. -/
noncomputable def bitT (k : Int) : E := .bin .eql .u64 (.bin .and .u64 (.bin .shr .u64 (elE (properE false) 38) (.lit (k - 0xc00))) (.lit 1)) (.lit 0)

noncomputable def wantR (b : Bool) (k : Int) (t : T (C × List Blk)) : Bool :=
  if b then leafIs (pairR (toldV b k) (.lit 1)) t
  else if inF k 0xc00 0xc1f then match t with
      | .br c x y => c.beq (bitT k) && (leafIs (pairR (.lit 0) (.lit 0)) x && leafIs (pairR (toldV b k) (.lit 1)) y)
      | .leaf r => r.1.beq (pairR (mkIte (bitT k) (.lit 0) (toldV b k)) (.bin .eql .i64 (bitT k) (.lit 0)))
      | _ => false
  else leafIs (pairR (.lit 0) (.lit 0)) t

noncomputable def runR (b : Bool) (S : Int → Bool) : Bool := keyT (.var 84) (fun k t => existsF k && (!S k || wantR b k t)) (fun ex c => hasAll ex && c.beq (pairR (.lit 0) (.lit 0))) (evFn (keyK (modeQ b) (fun f => Nat.beq f 77) (fun _ => false)) 1000 77 (varsA rSh 0) []) []
def eqsC2 : List (E × E) := [(hoE 47 8, orE 47 8), (hoE 55 8, orE 55 8)]
noncomputable def runRR (b : Bool) (k : Int) : Bool := wantR b k (evFn (keyK (modeQ b ++ eqsC2) (fun _ => false) (fun _ => false)) 1000 78 ((varsA rSh 0).map (C.fix (.var 84) k)) [])

/-! ### Numbers that there are not -/

noncomputable def noneQ (n : Nat) (b : Bool) : List (E × E) := (.app 203 (.cons (.var n) .nil), .lit 0) :: modeQ b
noncomputable def noneK (eqs : List (E × E)) : Ctx :=
  { P := Try.prog, sg := sgOr (sgE (nrmC eqs)) (sgAll (nrmC eqs)), sp := fun _ => false, osz := fun _ => none, nrm := nrmC eqs, nf := fun _ => false, fr := fun _ => true }
noncomputable def runWN (b : Bool) : Bool := leafIs (wantN b) (evFn (noneK (noneQ 82 b)) 1000 76 (varsA wSh 0) [])
noncomputable def runRN (b : Bool) : Bool := leafIs (pairR (.lit 0) (.lit 0)) (evFn (noneK (noneQ 84 b)) 1000 78 (varsA rSh 0) [])

theorem all_split {p : Int → Bool} {l : List Int} (n : Nat) (h1 : (l.take n).all p = true) (h2 : (l.drop n).all p = true) : l.all p = true := by
  rw [← List.take_append_drop n l, List.all_append, h1, h2]; rfl

end Go.Proofs.Ytibfaifjnifgjaa
