/-
  What Match answers, in the program and in the reference, for a size that is known. No condition.
-/
import Derived.Test.YtibfaifjnifgjaaPmpSpan3
namespace Go.Proofs.Ytibfaifjnifgjaa
open Go.Sx Go.RowKit

noncomputable def sgM (nrm : E → E) : FuncId → List C → Option C := sgOr (sgSpan nrm) (sgAll nrm)
theorem sgM_ok {env : Env} (hF : EnvF Phi env) {nrm : E → E} (hn : ∀ e, (nrm e).den env = e.den env) : SgF env Try.prog (sgM nrm) := (sgSpan_ok hF hn).or (sgAll_ok hF hn)

/-! ### The terms: over the entries' cells (variables 0 to 31) and the address (32) -/

def cT (i : Nat) : E := .app 21 (.cons (.var i) .nil)
def pT : Nat → E
  | 0 => .lit 0
  | j + 1 => a54 (.var (16 + j))
def aT (i : Nat) : E := a54 (.var (16 + i))
def tri (g i : Nat) : E := .app g (.cons (cT i) (.cons (pT i) (.cons (aT i) .nil)))
def byT (k : Nat) : E := .bin .add .u64 (.var 32) (.lit (Int.ofNat k))
def inT (i k : Nat) : E := .ite (.bin .lss .u64 (byT k) (tri 23 i)) (.lit 0) (.bin .eql .i64 (.bin .lss .u64 (tri 24 i) (byT k)) (.lit 0))
def inR (i k : Nat) : E := .ite (tri 25 i) (inT i k) (.lit 0)
def sumT (h : Nat → Nat → E) (i : Nat) : Nat → E
  | 0 => .lit 0
  | k + 1 => .bin .add .i64 (sumT h i k) (h i k)
def hitI (n i : Nat) : E := .ite (tri 25 i) (.bin .lss .i64 (.lit 0) (sumT inT i n)) (.lit 0)
def hitR (n i : Nat) : E := .bin .lss .i64 (.lit 0) (sumT inR i n)
def anyT (h : Nat → E) : Nat → Nat → E
  | 0, i => h i
  | m + 1, i => .ite (h i) (.lit 1) (anyT h m (i + 1))
def valT (h g : Nat → E) : Nat → Nat → E
  | 0, i => g i
  | m + 1, i => .ite (h i) (g i) (valT h g m (i + 1))

def matchR (h : Nat → E) (s : Nat → Nat → E) (n : Nat) : C :=
  .tup (.cons (.int .i64 (.ite (anyT h 15 0) (valT h (fun i => .lit (Int.ofNat i)) 15 0) (.lit (-1)))) (.cons (.bool (.ite (anyT h 15 0) (valT h (fun i => .bin .eql .i64 (sumT s i n) (.lit (Int.ofNat n))) 15 0) (.lit 0))) .nil))

def matchSh : List Sh := [.agg pmpKs, .one (some .u64), .one (some .i64)]

noncomputable def matchRun (f : Nat) (h : Nat → E) (s : Nat → Nat → E) (n : Nat) : Bool :=
  leafIs (matchR h s n) (evFn (sumK (sgM (nrmS [])) [] (fun _ => false)) 1000 f ((varsA matchSh 0).map (C.fix (.var 33) (Int.ofNat n))) [])

end Go.Proofs.Ytibfaifjnifgjaa
