/-
  What the runs of TopTimer are over: the context, the patterns at the loop's head. No condition.
-/
import Derived.Test.YtnlgfccjohhcmaaGreatDoorSx18
import Derived.Test.YtnlgfccjohhcmaaGreatDoorRows
namespace Go.Sx

/-! ### Terms: operations with a number pushed into 'if' -/

noncomputable def litTree (e : E) : Bool :=
  @E.rec (fun _ => Bool) (fun _ => true) (fun _ => false) (fun _ => false) (fun _ _ _ _ _ _ => false) (fun _ _ _ => false) (fun _ _ _ _ a b => a && b) (fun _ _ _ => false) (fun _ _ _ _ => false) false e

noncomputable def pushB (o : BinOp) (k : IntKind) (y : Int) (e : E) : E :=
  @E.rec (fun _ => E) (fun x => .lit (binDen o k x y)) (fun i => .bin o k (.var i) (.lit y)) (fun i => .bin o k (.slen i) (.lit y)) (fun o' k' a b _ _ => .bin o k (.bin o' k' a b) (.lit y)) (fun k' a _ => .bin o k (.conv k' a) (.lit y))
    (fun c _ _ _ a b => mkIte c a b) (fun f l _ => .bin o k (.app f l) (.lit y)) (fun a b _ _ => .bin o k (.cons a b) (.lit y)) (.bin o k .nil (.lit y)) e

theorem pushB_den (env : Env) (o : BinOp) (k : IntKind) (y : Int) (e : E) : (pushB o k y e).den env = (E.bin o k e (.lit y)).den env := by
  induction e with
  | ite c a b _ iha ihb =>
    show (mkIte c (pushB o k y a) (pushB o k y b)).den env = _
    rw [mkIte_den, iha, ihb]
    show _ = binDen o k ((E.ite c a b).den env) y
    rw [den_ite]
    cases c.tt env <;> rfl
  | _ => rfl

noncomputable def nrmPush (e : E) : E :=
  match e with
  | .bin o k a z => match z with
    | .lit y => match a with
      | .ite c x b => if litTree (.ite c x b) then pushB o k y (.ite c x b) else e
      | _ => e
    | _ => e
  | _ => e

theorem nrmPush_den (env : Env) (e : E) : (nrmPush e).den env = e.den env := by
  unfold nrmPush
  split
  · split
    · split
      · split
        · exact pushB_den env _ _ _ _
        · rfl
      · rfl
    · rfl
  · rfl

/-! ### Summaries with memory -/

noncomputable def cellC (H : List Blk) (b o : Nat) : C :=
  match getL H b with
  | some (.cells cs _) => match getL cs o with
    | some c => c
    | none => .bad
  | _ => .bad

noncomputable def setC (H : List Blk) (b o : Nat) (v : C) : Option (List Blk) :=
  match getL H b with
  | some (.cells cs t) => if Nat.blt o (lenL cs) then some (setL H b (.cells (setL cs o v) t)) else none
  | _ => none

/-- The lock's word is known. -/
noncomputable def isI32 (n : Int) (c : C) : Bool :=
  match c with
  | .int k e => match e with
    | .lit m => sameKind k .i32 && intBeq m n
    | _ => false
  | _ => false

noncomputable def isQue (c : C) : Bool :=
  match c with
  | .such p => Nat.beq p 0
  | .nilslice => true
  | _ => false

noncomputable def smLock (vs : List C) (H : List Blk) : Option (T (C × List Blk)) :=
  match vs with
  | [.ptr b o] => if isI32 0 (cellC H b o) then (setC H b o (.int .i32 (.lit 1))).map fun H' => .leaf (.tup .nil, H') else none
  | _ => none

/-- The cells one after the other. -/
noncomputable def setCs (H : List Blk) (b : Nat) : List (Nat × C) → Option (List Blk)
  | [] => some H
  | p :: l => match setC H b p.1 p.2 with
    | some H' => setCs H' b l
    | none => none

noncomputable def smJoin (vs : List C) (H : List Blk) : Option (T (C × List Blk)) :=
  match vs with
  | [.ptr b o, .such p] => if Nat.beq p 1 && (isI32 0 (cellC H b o) && isQue (cellC H b (o + 2))) then
      match setCs H b [(o, .bad), (o + 2, .bad), (o + 8, .bad)] with
      | some H1 => if H1.all blkNoQ then (setCs H1 b [(o + 2, .such 0), (o + 8, .bad), (o, .int .i32 (.lit 0))]).map fun H' => .leaf (.tup .nil, H') else none
      | none => none
    else none
  | _ => none

noncomputable def dgUnlock (vs : List C) (H : List Blk) : Option (List Blk) :=
  match vs with
  | [.ptr b o] => if isI32 1 (cellC H b o) then setC H b o (.int .i32 (.lit 0)) else none
  | _ => none

/-! ### Summaries out of runs -/

/-- A list of calls and what they answer. -/
abbrev Memo := List (Nat × List C × C)

noncomputable def memoSg (m : Memo) (f : FuncId) (vs : List C) : Option C :=
  match m with
  | [] => none
  | e :: m => if Nat.beq e.1 f && beqL e.2.1 vs then some e.2.2 else memoSg m f vs

/-- Calls with the memory that they find, what they answer and leave. -/
structure MemoH where
  f : Nat
  vs : List C
  H : List Blk
  v : C
  H' : List Blk

noncomputable def memoSm (m : List MemoH) (f : FuncId) (vs : List C) (H : List Blk) : Option (T (C × List Blk)) :=
  match m with
  | [] => none
  | e :: m => if Nat.beq e.f f && (beqL e.vs vs && beqH e.H H) then some (.leaf (e.v, e.H')) else memoSm m f vs H

/-- Is it the one way, and so left? -/
noncomputable def leafH (v : C) (H' : List Blk) : T (C × List Blk) → Bool
  | .leaf r => r.1.beq v && beqH r.2 H'
  | _ => false

noncomputable def leafV (v : C) : T (C × List Blk) → Bool
  | .leaf r => r.1.beq v
  | _ => false

end Go.Sx

namespace Go.Top
open Go.Sx

noncomputable abbrev P : Program := Go.Proofs.Tryz.prog

noncomputable def smT (mh : List MemoH) (f : FuncId) (vs : List C) (H : List Blk) : Option (T (C × List Blk)) :=
  if Nat.beq f 21 then smLock vs H else if Nat.beq f 24 then smJoin vs H else memoSm mh f vs H

noncomputable def dgT (f : FuncId) (vs : List C) (H : List Blk) : Option (List Blk) :=
  if Nat.beq f 22 then dgUnlock vs H else if Nat.beq f 63 then (if Nat.beq (lenL vs) 3 then some H else none) else none

def wmT (why n m : Nat) : List Nat :=
  if Nat.beq why 1700 then [6] else if Nat.beq why 3000 && !Nat.beq n 17 then [14] else if Nat.beq why 4100 && Nat.beq n 6 then [m - 1] else []

def osT (j : Nat) : Option (List CK) := if Nat.beq j 3 then some [.num none, .num none, .num none, .inp] else none

/-- Functions that are met apart from all blocks but the first nine. -/
def fmT (f : Nat) : Option Nat := if Nat.beq f 9 then some 9 else if Nat.beq f 41 then some 9 else if Nat.beq f 28 then some 9 else none

/-- The context of a run with some equations and summaries. -/
noncomputable def ctx (eqs : List (E × E)) (m : Memo) (mh : List MemoH) : Ctx :=
  { P := P, sg := memoSg m, sp := fun _ => false, osz := osT, nrm := fun e => rw1 eqs (nrmPush e), nf := fun _ => false, fr := fun f => !Nat.beq f 39, sm := smT mh, dg := dgT, wm := wmT, fm := fmT }

def u64 (n : Int) : C := .int .u64 (.lit n)
def i64 (n : Int) : C := .int .i64 (.lit n)
def u8 (n : Int) : C := .int .u8 (.lit n)
def reps (c : C) : Nat → List C
  | 0 => []
  | n + 1 => c :: reps c n

/-- The Cpu. -/
def cpuE (pc mode waiting mstatus mepc mcause : Int) (e9 e10 : E) : List C :=
  [u64 pc] ++ reps (u64 0) 32 ++ [i64 mode, .bool (.lit waiting), u64 mstatus, u64 2147483664, u64 128, u64 0, u64 0, u64 0, u64 0, u64 mepc, u64 mcause, u64 0, .int .u64 e9, .int .u64 e10] ++
  [u8 31] ++ reps (u8 0) 15 ++ [u64 18014398509481983] ++ reps (u64 0) 15 ++ [.bool (.lit 0), u64 0, i64 0]

def ramC : List C := [u8 111] ++ reps (u8 0) 15 ++ [u8 111] ++ reps (u8 0) 47

def busC : List C :=
  [.sl 7 0 64 0, i64 0, i64 0, .int .u32 (.lit 0), .int .u64 (.var 8), .int .u64 (.var 7), .int .i32 (.lit 0), .int .u32 (.lit 0), .such 0, .nilslice, u8 0, u8 0, u8 0, u8 0, .bad, .bad, .bad]

def heapW (bus : List C) (waits : C) (c : List C) : List Blk :=
  [.cells [.bad, .bad, waits, .osl 3] 24, .cells (reps .bad 82) 34, .cells (reps .bad 64) 5, .cells (reps .bad 15) 38, .cells (reps .bad 97) 44, .cells (reps .bad 15) 38, .cells bus 76, .cells ramC 5, .cells (c ++ [.ptr 6 0, .int .i64 (.var 11)]) 57]

def heap : C → List C → List Blk := heapW busC
/-- The bus behind 'Begin'. -/
def busB (now : E) : List C :=
  [.sl 7 0 64 0, i64 0, i64 0, .int .u32 (.lit 0), .int .u64 (.var 8), .int .u64 now, .int .i32 (.lit 0), .int .u32 (.lit 0), .such 0, .nilslice, u8 0, u8 0, u8 0, u8 0, .bad, .bool (.app 1301 (.cons (.var 6) .nil)), .bool (.app 1302 (.cons (.var 6) .nil))]

/-- The state at the loop's head. -/
def head (waits : C) (c : List C) : St :=
  ⟨⟨137, [(1, .ptr 0 0), (3, .int .i64 (.var 4)), (6, .ptr 8 0), (8, .int .i64 (.var 5)), (9, .int .i64 (.var 6))], []⟩, heap waits c⟩

def msM : Int := 8589934600
def msU : Int := 8589934592
def pcA : Int := 2147483648
def pcB : Int := 2147483664
/-- The Cpu of a pattern: 0..3: before the interrupt (twice 'U', plus 'waits'); 4, 5: behind it (from M, from U). -/
def cpuIE (i : Nat) (e9 e10 : E) : List C :=
  match i with
  | 0 => cpuE pcA 3 0 msM 0 0 e9 e10
  | 1 => cpuE pcA 3 1 msM 0 0 e9 e10
  | 2 => cpuE pcA 0 0 msU 0 0 e9 e10
  | 3 => cpuE pcA 0 1 msU 0 0 e9 e10
  | 4 => cpuE pcB 3 0 (msU + 6144 + 128) pcA 9223372036854775815 e9 e10
  | _ => cpuE pcB 3 0 msU pcA 9223372036854775815 e9 e10
def cpuI (i : Nat) : List C := cpuIE i (.var 9) (.var 10)
def modeI : Nat → Int
  | 2 => 0
  | 3 => 0
  | _ => 3
def pcI : Nat → Int
  | 0 => pcA | 1 => pcA | 2 => pcA | 3 => pcA
  | _ => pcB
def waitsI : Nat → C
  | 0 => .bool (.lit 0) | 1 => .bool (.lit 1) | 2 => .bool (.lit 0) | 3 => .bool (.lit 1)
  | _ => .bool (.var 12)
def pat (i : Nat) : St := head (waitsI i) (cpuI i)
def hb (i : Nat) (now : E) : List Blk := heapW (busB now) (waitsI i) (cpuI i)

def fE (j : Nat) : E := .app (1300 + j) (.cons (.var 6) .nil)
def gqE (a b : E) : E := .bin .eql .i64 (.bin .lss .u64 a b) (.lit 0)
def t1E : E := .bin .add .i64 (.var 5) (.lit 1)
def m1E : E := .bin .add .u64 (.var 7) (.lit 1)
/-- What is known: whether the world ticks; behind the tick: are there n ticks, fewer; is the time up. -/
def loopE : List (E × E) := [(.bin .lss .i64 (.var 6) (.slen 3), .lit 1), (.bin .lss .i64 (.var 6) (.lit 60), .lit 1)]
def eqsT (tick eq lt up : Int) : List (E × E) :=
  match tick with
  | .ofNat 0 => loopE ++ [(fE 0, .lit 0), (.bin .eql .i64 (.var 5) (.var 4), .lit eq), (.bin .lss .i64 (.var 5) (.var 4), .lit lt), (gqE (.var 7) (.var 8), .lit up)]
  | _ => loopE ++ [(fE 0, .lit 1), (.bin .eql .i64 t1E (.var 4), .lit eq), (.bin .lss .i64 t1E (.var 4), .lit lt), (gqE m1E (.var 8), .lit up)]

noncomputable def wdC (tick : Int) : C := .agg (.toC [.bool (.lit tick), .bool (fE 1), .bool (fE 2), .such 1])

def pmpC : List C := [u8 31] ++ reps (u8 0) 15 ++ [u64 18014398509481983] ++ reps (u64 0) 15
noncomputable def agg (l : List C) : C := .agg (.toC l)
noncomputable def tup (l : List C) : C := .tup (.toC l)
def fnC (g : Nat) : C := .fn (.func g) .nil .nil
/-- What 'bodies' answers. -/
noncomputable def bodiesC : C := agg [.nilfn, fnC 100, fnC 101, fnC 102, fnC 103, fnC 104, fnC 104, fnC 104, fnC 104, fnC 104, fnC 104, fnC 105, fnC 105, fnC 105, fnC 105, fnC 105, fnC 105, fnC 105, fnC 106, fnC 106, fnC 106, fnC 106, fnC 107, fnC 107, fnC 107, fnC 107, fnC 107, fnC 107, fnC 107, fnC 107, fnC 107, fnC 107, fnC 107, fnC 107, fnC 107, fnC 108, fnC 108, fnC 108, fnC 108, fnC 108, fnC 108, fnC 108, fnC 108, fnC 108, fnC 108, fnC 108, fnC 108, fnC 108, fnC 108, fnC 108, fnC 109, fnC 109, fnC 110, fnC 111, fnC 112, fnC 113, fnC 114, fnC 114, fnC 114, fnC 114, fnC 114, fnC 114, fnC 108, fnC 108, fnC 108, fnC 108, fnC 108, fnC 108, fnC 108, fnC 108, fnC 108, fnC 108, fnC 108, fnC 108, fnC 108, fnC 115, fnC 116, fnC 117, fnC 117, fnC 117, fnC 117, fnC 117, fnC 117, fnC 117, fnC 117, fnC 117, fnC 115, fnC 116, fnC 117, fnC 117, fnC 117, fnC 117, fnC 117, fnC 117, fnC 117, fnC 117, fnC 117]
noncomputable def jalC : C := agg [i64 3, i64 0, i64 0, i64 0, i64 0, .bool (.lit 0), .bool (.lit 0), i64 4, .int .u32 (.lit 111)]

noncomputable def doneC : C := agg [.bool (.lit 0), u64 0, u64 0, i64 0, u64 0, i64 0, u64 0, i64 0, u64 0, .bool (.lit 0), .bool (.lit 0)]
noncomputable def trap0 : C := agg [.bool (.lit 0), u64 0, u64 0]
noncomputable def rowC (kind mode pc raw len cause next nextMode : Int) : C :=
  agg [i64 0, i64 kind, i64 mode, u64 pc, .int .u32 (.lit raw), i64 len, u64 cause, u64 0, i64 0, u64 0, i64 0, u64 0, i64 0, u64 0, u64 next, i64 nextMode]

/-- What is pure. -/
noncomputable def memo1 (i : Nat) : Memo := [(8, [agg (cpuI i)], agg (cpuI i)), (13, [agg pmpC], agg pmpC),
  (53, [agg pmpC, i64 (modeI i), u64 (pcI i), i64 2, i64 4], .bool (.lit 1)), (53, [agg pmpC, i64 (modeI i), u64 (pcI i + 2), i64 2, i64 4], .bool (.lit 1)), (29, [.int .u32 (.lit 111)], jalC), (66, [], bodiesC), (64, [jalC], .bool (.lit 1))]

noncomputable def memoDo (i : Nat) (now : E) : MemoH := ⟨41, [agg (cpuI i), .ptr 6 0, jalC], hb i now, tup [agg (cpuI i), doneC], hb i now⟩
noncomputable def memoFetch (i : Nat) (now : E) : MemoH := ⟨28, [agg (cpuI i), .ptr 6 0], hb i now, tup [.int .u32 (.lit 111), i64 4, trap0], hb i now⟩

def nowE (tick : Int) : E :=
  match tick with
  | .ofNat 0 => .var 7
  | _ => m1E

end Go.Top
