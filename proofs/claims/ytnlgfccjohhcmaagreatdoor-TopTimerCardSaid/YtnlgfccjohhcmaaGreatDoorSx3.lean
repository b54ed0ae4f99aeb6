/-
  The symbolic executor: what it does at each operation, piece of code and call. (That it is right stands in the next texts.) No condition.
-/
import Derived.Test.YtnlgfccjohhcmaaGreatDoorSx2
namespace Go.Sx

/-- A block of the run's own. -/
inductive Blk where
  | cells (cs : List C) (ty : TypeId)
  | mp (es : List (C × C × Nat)) (clock : Nat)

/-- The temporaries: how many there are; what is known of some, the latest first; the deferred calls, the latest first. -/
structure Ts where
  n : Nat
  l : List (Nat × C)
  d : List (Nat × List C) := []

/-- A cell of an element of a slice that came in: a whole number or (none) a bool; a slice of bytes. -/
inductive CK where
  | num (k : Option IntKind)
  | inp

structure St where
  ts : Ts
  H : List Blk

/-- The ways that a run takes. 'both': an order that is left open. 'need': the run is as said if this holds. -/
inductive T (α : Type) where
  | leaf (x : α)
  | br (c : E) (a b : T α)
  | both (a b : T α)
  | need (c : E) (t : T α)
  | fail (why : Nat)

def T.bind {α β : Type} (f : α → T β) : T α → T β
  | .leaf x => f x
  | .br c a b => .br c (a.bind f) (b.bind f)
  | .both a b => .both (a.bind f) (b.bind f)
  | .need c t => .need c (t.bind f)
  | .fail n => .fail n

/-- How a piece of code is left. -/
inductive X where
  | normal
  | exit (id : Nat)
  | ret

def X.beq : X → X → Bool
  | .normal, x => match x with | .normal => true | _ => false
  | .exit a, x => match x with | .exit b => Nat.beq a b | _ => false
  | .ret, x => match x with | .ret => true | _ => false

structure Ctx where
  P : Program
  /-- functions whose answer is known: out of the arguments alone -/
  sg : FuncId → List C → Option C
  /-- functions in which the ways are kept apart -/
  sp : FuncId → Bool
  /-- the slices that came in: the kinds of an element's cells -/
  osz : Nat → Option (List CK)
  /-- how terms are rewritten -/
  nrm : E → E
  /-- functions whose answers are rewritten -/
  nf : FuncId → Bool
  /-- functions that are met apart from the caller's blocks, if no argument points to them -/
  fr : FuncId → Bool
  /-- functions whose answer is known, out of the arguments and the memory -/
  sm : FuncId → List C → List Blk → Option (T (C × List Blk)) := fun _ _ _ => none
  /-- deferred calls of which the effect is known (nothing panics) -/
  dg : FuncId → List C → List Blk → Option (List Blk) := fun _ _ _ => none
  /-- blocks that calls in a region with an open order may write (100 times the function's number, how many operations, how many blocks) -/
  wm : Nat → Nat → Nat → List Nat := fun _ _ _ => []
  /-- functions that are met apart from all blocks but the first few -/
  fm : FuncId → Option Nat := fun _ => none

/-- The terms of a value rewritten: of a number or a bool. -/
def C.top (f : E → E) : C → C
  | .int k e => .int k (f e)
  | .bool e => .bool (f e)
  | c => c

/-- The same, in all that it has. -/
noncomputable def C.deep (f : E → E) (c : C) : C :=
  @C.rec (fun _ => C) .bad (fun k e => .int k (f e)) (fun e => .bool (f e)) .ptr .old .osl .optr .nilptr .nilif .nilfn .nilmap .nilslice .str .sl .map
    (fun g a b _ _ => .fn g a b) (fun t v _ => .iface t v) (fun _ l => .agg l) (fun _ l => .tup l) (fun _ _ a b => .cons a b) .nil .such c

/-- A term put in place of another one, with folding. -/
noncomputable def E.fix (p : E) (j : Int) (e : E) : E :=
  @E.rec (fun _ => E) .lit (fun i => if (E.var i).beq p then .lit j else .var i) .slen (fun o k _ _ a b => mkBin o k a b) (fun k _ a => mkConv k a)
    (fun _ _ _ c a b => match mkIte c a b with
      | .cons _ _ => .ite c a b
      | r => r)
    (fun f as bs => if (E.app f as).beq p then .lit j else .app f bs) (fun _ _ a b => .cons a b) .nil e

theorem E.fix_var (p : E) (j : Int) (i : Nat) : E.fix p j (.var i) = if (E.var i).beq p then .lit j else .var i := rfl
theorem E.fix_bin (p : E) (j : Int) (o : BinOp) (k : IntKind) (a b : E) : E.fix p j (.bin o k a b) = mkBin o k (E.fix p j a) (E.fix p j b) := rfl
theorem E.fix_conv (p : E) (j : Int) (k : IntKind) (a : E) : E.fix p j (.conv k a) = mkConv k (E.fix p j a) := rfl
theorem E.fix_ite (p : E) (j : Int) (c a b : E) : E.fix p j (.ite c a b) = match mkIte (E.fix p j c) (E.fix p j a) (E.fix p j b) with
    | .cons _ _ => .ite (E.fix p j c) (E.fix p j a) (E.fix p j b)
    | r => r := rfl
theorem E.fix_app (p : E) (j : Int) (f : Nat) (as : E) : E.fix p j (.app f as) = if (E.app f as).beq p then .lit j else .app f (E.fix p j as) := rfl
theorem E.fix_cons (p : E) (j : Int) (a b : E) : E.fix p j (.cons a b) = .cons (E.fix p j a) (E.fix p j b) := rfl

noncomputable def nth (l : List C) : Nat → C :=
  @List.rec C (fun _ => Nat → C) (fun _ => C.undef) (fun c _ ih n => @Nat.rec (fun _ => C) c (fun m _ => ih m) n) l

noncomputable def setL {α : Type} (l : List α) : Nat → α → List α :=
  @List.rec α (fun _ => Nat → α → List α) (fun _ _ => []) (fun c cs ih n v => @Nat.rec (fun _ => List α) (v :: cs) (fun m _ => c :: ih m v) n) l

noncomputable def getL {α : Type} (l : List α) : Nat → Option α :=
  @List.rec α (fun _ => Nat → Option α) (fun _ => none) (fun c _ ih n => @Nat.rec (fun _ => Option α) (some c) (fun m _ => ih m) n) l

noncomputable def lenL {α : Type} (l : List α) : Nat := @List.rec α (fun _ => Nat) 0 (fun _ _ n => n + 1) l
noncomputable def dropL {α : Type} (l : List α) : Nat → List α :=
  @List.rec α (fun _ => Nat → List α) (fun _ => []) (fun c cs ih n => @Nat.rec (fun _ => List α) (c :: cs) (fun m _ => ih m) n) l
noncomputable def takeL {α : Type} (l : List α) : Nat → List α :=
  @List.rec α (fun _ => Nat → List α) (fun _ => []) (fun c _ ih n => @Nat.rec (fun _ => List α) [] (fun m _ => c :: ih m) n) l

theorem nth_cons (c : C) (cs : List C) (n : Nat) : nth (c :: cs) (n + 1) = nth cs n := rfl
theorem getL_cons {α : Type} (c : α) (cs : List α) (n : Nat) : getL (c :: cs) (n + 1) = getL cs n := rfl
theorem setL_cons {α : Type} (c : α) (cs : List α) (n : Nat) (v : α) : setL (c :: cs) (n + 1) v = c :: setL cs n v := rfl
theorem lenL_eq {α : Type} : ∀ l : List α, lenL l = l.length := by
  intro l
  induction l with
  | nil => rfl
  | cons c cs ih => show lenL cs + 1 = _; rw [ih]; rfl
theorem dropL_eq {α : Type} : ∀ (l : List α) (n : Nat), dropL l n = l.drop n := by
  intro l
  induction l with
  | nil => intro n; simp; rfl
  | cons c cs ih => intro n; cases n with
    | zero => rfl
    | succ n => show dropL cs n = _; rw [ih]; rfl
theorem takeL_eq {α : Type} : ∀ (l : List α) (n : Nat), takeL l n = l.take n := by
  intro l
  induction l with
  | nil => intro n; simp; rfl
  | cons c cs ih => intro n; cases n with
    | zero => rfl
    | succ n => show c :: takeL cs n = _; rw [ih]; rfl

noncomputable def getA (l : List (Nat × C)) (t : Nat) : C := @List.rec (Nat × C) (fun _ => C) .bad (fun p _ ih => cond (Nat.beq p.1 t) p.2 ih) l
noncomputable def getT (ts : Ts) (t : Nat) : C := getA ts.l t
noncomputable def setT (ts : Ts) (t : Nat) (v : C) : Ts := cond (Nat.blt t ts.n) ⟨ts.n, (t, v) :: ts.l, ts.d⟩ ts
noncomputable def mapD (f : C → C) (d : List (Nat × List C)) : List (Nat × List C) := d.map fun p => (p.1, p.2.map f)
noncomputable def Ts.mapC (f : C → C) (ts : Ts) : Ts := ⟨ts.n, ts.l.map fun p => (p.1, f p.2), mapD f ts.d⟩
noncomputable def ofArgs (l : List C) : Nat → List (Nat × C) := @List.rec C (fun _ => Nat → List (Nat × C)) (fun _ => []) (fun c _ ih i => (i, c) :: ih (Nat.succ i)) l
/-- The temporaries as a call begins. -/
noncomputable def Ts.start (vs : List C) (n : Nat) : Ts := ⟨vs.length + (n - vs.length), ofArgs vs 0, []⟩

noncomputable def evO (ts : Ts) : Operand → C
  | .tmp t => getT ts t
  | .const v => C.ofV v
  | .global g => .old ⟨g, 0, none⟩
  | .func f => .fn (.func f) .nil .nil

noncomputable def putD (ts : Ts) (d : Option Tmp) (v : C) : Ts :=
  match d with
  | some d => setT ts d v
  | none => ts

/-- How many cells a type has, if it is a struct or an array; 'none': one cell. -/
noncomputable def aggSize (P : Program) (t : TypeId) : Option (Option Nat) :=
  match P.underlying t with
  | some (.struct _) => (P.info? t).map fun i => some i.size
  | some (.array _ _) => (P.info? t).map fun i => some i.size
  | some _ => some none
  | none => none

/-- A part of a row of cells. -/
noncomputable def partC (P : Program) (t : TypeId) (cs : List C) (off : Nat) : Option C :=
  match aggSize P t with
  | some (some n) => if Nat.ble (off + n) (lenL cs) then some (.agg (.toC (takeL (dropL cs off) n))) else none
  | some none => getL cs off
  | none => none

theorem partC_eq (P : Program) (t : TypeId) (cs : List C) (off : Nat) : partC P t cs off = match aggSize P t with
  | some (some n) => if Nat.ble (off + n) cs.length then some (.agg (.toC ((cs.drop off).take n))) else none
  | some none => getL cs off
  | none => none := by
  unfold partC
  rw [lenL_eq, dropL_eq]
  simp only [takeL_eq]

def C.isCell : C → Bool
  | .bad => false
  | .agg _ => false
  | .tup _ => false
  | .cons _ _ => false
  | .nil => false
  | .such p => Nat.blt 0 p
  | _ => true

/-- Is it no queue? -/
def C.noQ : C → Bool
  | .such p => Nat.blt 0 p
  | _ => true

noncomputable def andE (a b : E) : E := mkIteB a b (.lit 0)

/-! ### '==' -/

noncomputable def eqFs (P : Program) (rec : TypeId → C → C → Option E) (cs ds : List C) : List Field → Option E
  | [] => some (.lit 1)
  | f :: fs => if decide (f.name = "_") then none else match partC P f.type cs f.offset, partC P f.type ds f.offset with
    | some x, some y => match rec f.type x y with
      | some e => match eqFs P rec cs ds fs with
        | some r => some (andE e r)
        | none => none
      | none => none
    | _, _ => none

noncomputable def eqAs (P : Program) (rec : TypeId → C → C → Option E) (cs ds : List C) (elem : TypeId) (size : Nat) : List Nat → Option E
  | [] => some (.lit 1)
  | i :: is => match partC P elem cs (i * size), partC P elem ds (i * size) with
    | some x, some y => match rec elem x y with
      | some e => match eqAs P rec cs ds elem size is with
        | some r => some (andE e r)
        | none => none
      | none => none
    | _, _ => none

/-- Are two values of a type equal? Bools, whole numbers, structs and arrays of such; a pointer, function or slice against nil. -/
noncomputable def eqV (P : Program) : Nat → TypeId → C → C → Option E
  | 0, _, _, _ => none
  | d + 1, t, x, y => match P.underlying t with
    | some .bool => match x, y with
      | .bool a, .bool b => some (if a.beq b then .lit 1 else mkIteB a b (notE b))
      | _, _ => none
    | some (.int _) => match x, y with
      | .int k a, .int k' b => if sameKind k k' then some (mkBin .eql k a b) else none
      | _, _ => none
    | some (.struct fs) => match x, y with
      | .agg l, .agg l' => match l.ofC, l'.ofC with
        | some cs, some ds => if P.stoodInHeld t then none else eqFs P (eqV P d) cs ds fs.toList
        | _, _ => none
      | _, _ => none
    | some (.array n e) => match x, y with
      | .agg l, .agg l' => match l.ofC, l'.ofC, P.info? e with
        | some cs, some ds, some i => eqAs P (eqV P d) cs ds e i.size (List.range n)
        | _, _, _ => none
      | _, _ => none
    | some (.pointer _) => match x, y with
      | .nilptr, .nilptr => some (.lit 1)
      | .nilptr, .ptr _ _ => some (.lit 0)
      | .ptr _ _, .nilptr => some (.lit 0)
      | _, _ => none
    | some (.func _ _ _) => match x, y with
      | .nilfn, .nilfn => some (.lit 1)
      | .nilfn, .fn _ _ _ => some (.lit 0)
      | .fn _ _ _, .nilfn => some (.lit 0)
      | _, _ => none
    | _ => none

/-- '==' as an operation: also its guard on interfaces. -/
noncomputable def evEq (P : Program) (t : TypeId) (x y : C) : Option E :=
  match x with
  | .agg _ => if P.eqGuardType P.depth t then none else eqV P 100 t x y
  | .ptr _ _ => eqV P 100 t x y
  | .nilptr => eqV P 100 t x y
  | .fn _ _ _ => eqV P 100 t x y
  | .nilfn => eqV P 100 t x y
  | .bool _ => eqV P 100 t x y
  | .iface _ _ => match y with
    | .nilif => match P.underlying t with
      | some (.interface _) => some (.lit 0)
      | _ => none
    | _ => none
  | _ => none

noncomputable def evBin (o : BinOp) (x y : C) : Option (C × E) :=
  match x, y with
  | .int k a, .int k' b =>
    match o with
    | .shl => some (.int k (mkBin o k a b), mkBin .geq .i64 b (.lit 0))
    | .shr => some (.int k (mkBin o k a b), mkBin .geq .i64 b (.lit 0))
    | .quo => if sameKind k k' then some (.int k (mkBin o k a b), mkBin .neq .i64 b (.lit 0)) else none
    | .rem => if sameKind k k' then some (.int k (mkBin o k a b), mkBin .neq .i64 b (.lit 0)) else none
    | .eql => if sameKind k k' then some (.bool (mkBin o k a b), .lit 1) else none
    | .neq => if sameKind k k' then some (.bool (mkBin o k a b), .lit 1) else none
    | .lss => if sameKind k k' then some (.bool (mkBin o k a b), .lit 1) else none
    | .leq => if sameKind k k' then some (.bool (mkBin o k a b), .lit 1) else none
    | .gtr => if sameKind k k' then some (.bool (mkBin o k a b), .lit 1) else none
    | .geq => if sameKind k k' then some (.bool (mkBin o k a b), .lit 1) else none
    | _ => if sameKind k k' then some (.int k (mkBin o k a b), .lit 1) else none
  | _, _ => none

noncomputable def evBinT (P : Program) (o : BinOp) (t : TypeId) (x y : C) : Option (C × E) :=
  match evBin o x y with
  | some r => some r
  | none => match o with
    | .eql => (evEq P t x y).map fun e => (.bool e, .lit 1)
    | .neq => (evEq P t x y).map fun e => (.bool (notE e), .lit 1)
    | _ => none

/-! ### Composite literals -/

noncomputable def storeC (cs : List C) : Nat → List C → List C :=
  @List.rec C (fun _ => Nat → List C → List C) (fun _ _ => [])
    (fun c cs ih o vs => @Nat.rec (fun _ => List C) (match vs with | [] => c :: cs | v :: vs => v :: ih 0 vs) (fun m _ => c :: ih m vs) o) cs

theorem storeC_succ (c : C) (cs : List C) (o : Nat) (vs : List C) : storeC (c :: cs) (o + 1) vs = c :: storeC cs o vs := rfl
theorem storeC_zero (c v : C) (cs vs : List C) : storeC (c :: cs) 0 (v :: vs) = v :: storeC cs 0 vs := rfl

noncomputable def cellsOfC (c : C) : Option (List C) :=
  match c with
  | .agg l => l.ofC
  | c => if c.isCell then some [c] else none

noncomputable def fillC (place : Nat → Option (Nat × Nat)) (cells : List C) : List (Nat × C) → Option (List C)
  | [] => some cells
  | (i, v) :: rest => match place i, cellsOfC v with
    | some (off, size), some vs => if Nat.beq (lenL vs) size && Nat.ble (off + lenL vs) (lenL cells) then fillC place (storeC cells off vs) rest else none
    | _, _ => none

noncomputable def fieldPlaces (P : Program) : List Field → Option (List (Nat × Nat))
  | [] => some []
  | f :: fs => match P.info? f.type, fieldPlaces P fs with
    | some i, some r => some ((f.offset, i.size) :: r)
    | _, _ => none

noncomputable def evBuild (P : Program) (t : TypeId) (parts : List (Nat × C)) : Option C :=
  match P.info? t with
  | none => none
  | some inf => match inf.zero with
    | none => none
    | some z => match P.underlying t with
      | some (.struct fs) => match fieldPlaces P fs.toList with
        | some places => (fillC (getL places) (z.cells.toList.map .ofV0) parts).map fun cs => .agg (.toC cs)
        | none => none
      | some (.array _ e) => match P.info? e with
        | some i => (fillC (fun j => some (j * i.size, i.size)) (z.cells.toList.map .ofV0) parts).map fun cs => .agg (.toC cs)
        | none => none
      | _ => none

/-! ### Maps with whole numbers as keys -/

noncomputable def findC (k : IntKind) (e : E) : List (C × C × Nat) → Option (Option C × E)
  | [] => some (none, .lit 1)
  | (key, v, _) :: es => match key with
    | .int k' (.lit n) => if sameKind k k' then match e with
        | .lit m => if intBeq m n then some (some v, .lit 1) else findC k e es
        | e => match findC k e es with
          | some (none, nd) => some (none, andE (mkBin .neq .i64 e (.lit n)) nd)
          | _ => none
      else none
    | _ => none

noncomputable def evLookup (P : Program) (H : List Blk) (t : TypeId) (m ix : C) (ok : Bool) : Option (C × E) :=
  match P.underlying t, m, ix with
  | some (.map kt et), .map b, .int k e => match P.underlying kt, getL H b with
    | some (.int _), some (.mp es _) => match findC k e es with
      | some (some v, nd) => some (if ok then .tup (.toC [v, .bool (.lit 1)]) else v, nd)
      | some (none, nd) => match P.info? et with
        | some inf => match inf.zero with
          | some z => some (if ok then .tup (.toC [.ofV z, .bool (.lit 0)]) else .ofV z, nd)
          | none => none
        | none => none
      | none => none
    | _, _ => none
  | _, _, _ => none

/-- A map with a key put in; 'none': a key that may be there or not. -/
noncomputable def putM (k : IntKind) (n : Int) (v : C) : List (C × C × Nat) → Option (Option (List (C × C × Nat)))
  | [] => some none
  | (key, v', born) :: es => match key with
    | .int k' (.lit m) => if sameKind k k' then (if intBeq n m then some (some ((key, v, born) :: es)) else match putM k n v es with
        | some (some es') => some (some ((key, v', born) :: es'))
        | some none => some none
        | none => none) else none
    | _ => none

/-! ### Operations that read -/

noncomputable def optrCells (i : Nat) (e : E) (kinds : List CK) (j : Nat) : List C :=
  match kinds with
  | [] => []
  | k :: ks => (match k with
    | .num (some k) => C.int k (.app (1000 + 100 * i + j) (.cons e .nil))
    | .num none => .bool (.app (1000 + 100 * i + j) (.cons e .nil))
    | .inp => .such 1) :: optrCells i e ks (j + 1)

noncomputable def evLoad (K : Ctx) (H : List Blk) (t : TypeId) (p : C) : Option C :=
  match p with
  | .ptr b o => match getL H b with
    | some (.cells cs _) => partC K.P t cs o
    | _ => none
  | .optr i e size off => match K.osz i with
    | some kinds => if Nat.beq kinds.length size then partC K.P t ((optrCells i e kinds 0).map (C.top K.nrm)) off else none
    | none => none
  | _ => none

noncomputable def evFieldAddr (P : Program) (t : TypeId) (x : C) (f : Nat) : Option C :=
  match P.underlying t with
  | some (.struct fs) => match getL fs.toList f with
    | some fl => match P.info? fl.type with
      | some i => if Nat.beq i.size 0 then none else match x with
        | .ptr b o => some (.ptr b (o + fl.offset))
        | .optr i e s o => some (.optr i e s (o + fl.offset))
        | _ => none
      | none => none
    | none => none
  | _ => none

noncomputable def evIndexAddr (P : Program) (t : TypeId) (x ix : C) : Option (C × E) :=
  match P.underlying t with
  | some (.array n e) => match x, ix with
    | .ptr b o, .int _ (.lit (.ofNat i)) => match P.info? e with
      | some inf => if Nat.blt i n then some (.ptr b (o + i * inf.size), .lit 1) else none
      | none => none
    | _, _ => none
  | some (.slice e) => match x, ix with
    | .sl b o n _, .int _ (.lit (.ofNat i)) => match P.info? e with
      | some inf => if Nat.blt i n then some (.ptr b (o + i * inf.size), .lit 1) else none
      | none => none
    | .osl j, .int _ e' => match P.info? e with
      | some inf => some (.optr j e' inf.size 0, andE (mkBin .geq .i64 e' (.lit 0)) (mkBin .lss .i64 e' (.slen j)))
      | none => none
    | _, _ => none
  | _ => none

noncomputable def evIndex (P : Program) (t : TypeId) (x ix : C) : Option C :=
  match P.underlying t with
  | some (.array n e) => match x, ix with
    | .agg l, .int _ (.lit (.ofNat i)) => match l.ofC, P.info? e with
      | some cs, some inf => if Nat.blt i n then partC P e cs (i * inf.size) else none
      | _, _ => none
    | _, _ => none
  | _ => none

noncomputable def evField (P : Program) (t : TypeId) (x : C) (f : Nat) : Option C :=
  match P.underlying t with
  | some (.struct fs) => match getL fs.toList f, x with
    | some fl, .agg l => match l.ofC with
      | some cs => partC P fl.type cs fl.offset
      | none => none
    | _, _ => none
  | _ => none

noncomputable def evUn (o : UnOp) (x : C) : Option C :=
  match o with
  | .not => match x with
    | .bool e => some (.bool (notE e))
    | _ => none
  | .neg => match x with
    | .int k e => some (.int k (mkBin .sub k (.lit 0) e))
    | _ => none
  | .xor => match x with
    | .int k e => some (.int k (mkBin .xor k (.lit (if k.signed then -1 else k.max)) e))
    | _ => none
  | .plus => none

noncomputable def evConv (P : Program) (src dst : TypeId) (x : C) : Option C :=
  match P.underlying src with
  | none => none
  | some _ => match P.underlying dst with
    | some (.int k) => match x with
      | .int _ e => some (.int k (mkConv k e))
      | _ => none
    | _ => none

noncomputable def evAssert (P : Program) (x : C) (asserted : TypeId) (ok : Bool) : Option C :=
  match x with
  | .iface t v => match P.underlying asserted with
    | some (.interface _) => none
    | some _ => if Nat.beq t asserted then some (if ok then .tup (.toC [v, .bool (.lit 1)]) else v)
      else if ok then match P.info? asserted with
        | some inf => match inf.zero with
          | some z => some (.tup (.toC [.ofV z, .bool (.lit 0)]))
          | none => none
        | none => none
      else none
    | none => none
  | _ => none

noncomputable def evMkIface (P : Program) (t : TypeId) (x : C) : Option C :=
  match P.underlying t with
  | some (.interface _) => none
  | some _ => some (.iface t x)
  | none => none

noncomputable def evNilCheck (x : C) : Option C :=
  match x with
  | .ptr b o => some (.ptr b o)
  | .old a => some (.old a)
  | .optr i e s o => some (.optr i e s o)
  | .fn (.func f) a b => some (.fn (.func f) a b)
  | .iface t v => some (.iface t v)
  | _ => none

noncomputable def evLen (P : Program) (t : TypeId) (x : C) : Option C :=
  match P.underlying t with
  | some (.slice _) => match x with
    | .sl _ _ n _ => if Nat.ble n 1000000 then some (.int .i64 (.lit n)) else none
    | .osl i => some (.int .i64 (.slen i))
    | .nilslice => some (.int .i64 (.lit 0))
    | _ => none
  | some .string => match x with
    | .str s => if Nat.ble s.size 1000000 then some (.int .i64 (.lit s.size)) else none
    | _ => none
  | _ => none

/-- An operation that makes and writes no memory: its value, and what it needs. -/
noncomputable def evOpR0 (K : Ctx) (s : St) (op : Op) : Option (C × E) :=
  match op with
  | .move x => some (evO s.ts x, .lit 1)
  | .assign x => some (evO s.ts x, .lit 1)
  | .pick c a b => match evO s.ts c with
    | .bool e => some (match e with
      | .lit n => if intBeq n 0 then evO s.ts b else evO s.ts a
      | e => (evO s.ts a).mg e false (evO s.ts b), .lit 1)
    | _ => none
  | .load t p => (evLoad K s.H t (evO s.ts p)).map fun v => (v, .lit 1)
  | .binOp o t x y _ => evBinT K.P o t (evO s.ts x) (evO s.ts y)
  | .unOp o _ x => (evUn o (evO s.ts x)).map fun v => (v, .lit 1)
  | .convert src dst x => (evConv K.P src dst (evO s.ts x)).map fun v => (v, .lit 1)
  | .fieldAddr t x f => (evFieldAddr K.P t (evO s.ts x) f).map fun v => (v, .lit 1)
  | .indexAddr t x ix => evIndexAddr K.P t (evO s.ts x) (evO s.ts ix)
  | .index t x ix => (evIndex K.P t (evO s.ts x) (evO s.ts ix)).map fun v => (v, .lit 1)
  | .field t x f => (evField K.P t (evO s.ts x) f).map fun v => (v, .lit 1)
  | .build t parts => (evBuild K.P t (parts.toList.map fun p => (p.1, evO s.ts p.2))).map fun v => (v, .lit 1)
  | .nilCheck x => (evNilCheck (evO s.ts x)).map fun v => (v, .lit 1)
  | .makeFunc f a b => some (.fn f (.toC (a.toList.map (evO s.ts))) (.toC (b.toList.map (evO s.ts))), .lit 1)
  | .makeInterface t x => (evMkIface K.P t (evO s.ts x)).map fun v => (v, .lit 1)
  | .typeAssert x _ t ok => (evAssert K.P (evO s.ts x) t ok).map fun v => (v, .lit 1)
  | .lookup t m ix ok => evLookup K.P s.H t (evO s.ts m) (evO s.ts ix) ok
  | .extract t i => match evO s.ts t with
    | .tup l => match l.ofC with
      | some cs => (getL cs i).map fun v => (v, .lit 1)
      | none => none
    | _ => none
  | .call c => match c.callee with
    | .builtin .len => match c.args.toList, c.argTypes.toList with
      | [x], [t] => (evLen K.P t (evO s.ts x)).map fun v => (v, .lit 1)
      | _, _ => none
    | _ => none
  | _ => none

/-- Does it make a new term? -/
noncomputable def nrmOp (op : Op) : Bool :=
  match op with
  | .binOp _ _ _ _ _ => true
  | .unOp _ _ _ => true
  | .convert _ _ _ => true
  | .pick _ _ _ => true
  | _ => false

/-- The same, rewritten. -/
noncomputable def evOpR (K : Ctx) (s : St) (op : Op) : Option (C × E) :=
  match evOpR0 K s op with
  | some r => if nrmOp op then some (r.1.top K.nrm, K.nrm r.2) else some r
  | none => none

/-- Does it read memory? -/
noncomputable def isLd (op : Op) : Bool :=
  match op with
  | .load _ _ => true
  | .lookup _ _ _ _ => true
  | _ => false

/-! ### Operations that make or write memory -/

noncomputable def evPut (P : Program) (H : List Blk) (t : TypeId) (m ix v : C) : Option (List Blk) :=
  match P.underlying t with
  | some (.map kt _) => match m, ix with
    | .map b, .int k (.lit n) => match P.underlying kt, getL H b with
      | some (.int _), some (.mp es clock) => match putM k n v es with
        | some (some es') => some (setL H b (.mp es' clock))
        | some none => some (setL H b (.mp (es ++ [(.int k (.lit n), v, clock)]) (clock + 1)))
        | none => none
      | _, _ => none
    | _, _ => none
  | _ => none

noncomputable def repC (cs : List C) : Nat → List C
  | 0 => []
  | n + 1 => cs ++ repC cs n

/-- 'make' of a slice with a known length. -/
noncomputable def evMakeSlice (P : Program) (H : List Blk) (t : TypeId) (l c : C) : Option (C × List Blk) :=
  match P.underlying t with
  | some (.slice e) => match P.info? e with
    | some inf => match inf.zero with
      | some z => match l, c with
        | .int _ (.lit (.ofNat n)), .int _ (.lit (.ofNat m)) =>
          if Nat.beq n m && Nat.ble n 1000 && !Nat.beq n 0 && !Nat.beq inf.size 0 && Nat.ble inf.size 1000 && Nat.beq z.cells.size inf.size && Nat.ble inf.bytes 1000000 then
            some (.sl H.length 0 n n, H ++ [.cells (repC (z.cells.toList.map .ofV0) n) e])
          else none
        | _, _ => none
      | none => none
    | none => none
  | _ => none

/-- 'append' to no slice. -/
noncomputable def evAppend (P : Program) (H : List Blk) (t u : TypeId) (x y : C) : Option (C × List Blk) :=
  match P.underlying t, P.underlying u, x with
  | some (.slice e), some (.slice _), .nilslice => match P.info? e with
    | some inf => match inf.zero with
      | some z => match y with
        | .nilslice => some (.nilslice, H)
        | .sl b o n _ => match getL H b with
          | some (.cells cs _) => if Nat.ble (o + n) (lenL cs) && !Nat.beq n 0 && Nat.ble n 1000 && Nat.beq inf.size 1 && Nat.ble inf.bytes 1000000 && Nat.beq z.cells.size 1 && (takeL (dropL cs o) n).all C.noQ then
              some (.sl H.length 0 n 0, H ++ [.cells (takeL (dropL cs o) n) e]) else none
          | _ => none
        | _ => none
      | none => none
    | none => none
  | _, _, _ => none

noncomputable def evBuildSlice (P : Program) (H : List Blk) (t : TypeId) (len : Nat) (parts : List (Nat × C)) : Option (C × List Blk) :=
  match P.underlying t with
  | some (.slice e) => match P.info? e with
    | some inf => match inf.zero with
      | some z => if Nat.ble len 1000 && !Nat.beq len 0 && !Nat.beq inf.size 0 && Nat.ble inf.size 1000 && Nat.beq z.cells.size inf.size then
          match fillC (fun j => some (j * inf.size, inf.size)) (repC (z.cells.toList.map .ofV0) len) parts with
          | some cs => if cs.all C.noQ then some (.sl H.length 0 len len, H ++ [.cells cs e]) else none
          | none => none
        else none
      | none => none
    | none => none
  | _ => none

noncomputable def evStore (P : Program) (H : List Blk) (t : TypeId) (p x : C) : Option (List Blk) :=
  match p, cellsOfC x, P.info? t with
  | .ptr b o, some vs, some i => match getL H b with
    | some (.cells cs ty) =>
      if Nat.beq (lenL vs) i.size && vs.all C.isCell && Nat.ble (o + lenL vs) (lenL cs) then some (setL H b (.cells (storeC cs o vs) ty)) else none
    | _ => none
  | _, _, _ => none

noncomputable def evOpW (P : Program) (s : St) (op : Op) : Option (C × List Blk) :=
  match op with
  | .alloc t => match P.info? t with
    | some i => match i.zero with
      | some z => some (.ptr s.H.length 0, s.H ++ [.cells (z.cells.toList.map .ofV0) t])
      | none => none
    | none => none
  | .box t x => match cellsOfC (evO s.ts x) with
    | some cs => if cs.all C.noQ then some (.ptr s.H.length 0, s.H ++ [.cells cs t]) else none
    | none => none
  | .store t p x => (evStore P s.H t (evO s.ts p) (evO s.ts x)).map fun H => (C.undef, H)
  | .makeMap _ none => some (.map s.H.length, s.H ++ [.mp [] 0])
  | .insert t m k x => (evPut P s.H t (evO s.ts m) (evO s.ts k) (evO s.ts x)).map fun H => (C.undef, H)
  | .mapUpdate t m k x => (evPut P s.H t (evO s.ts m) (evO s.ts k) (evO s.ts x)).map fun H => (C.undef, H)
  | .buildSlice t n parts => evBuildSlice P s.H t n (parts.toList.map fun p => (p.1, evO s.ts p.2))
  | .makeSlice t l c => evMakeSlice P s.H t (evO s.ts l) (evO s.ts c)
  | .call c => match c.callee with
    | .builtin .append => match c.args.toList, c.argTypes.toList with
      | [x, y], [t, u] => evAppend P s.H t u (evO s.ts x) (evO s.ts y)
      | _, _ => none
    | _ => none
  | _ => none

/-! ### Two ways into one -/

noncomputable def mgList (c : E) (m : Nat) (as : List C) : List C → List C :=
  @List.rec C (fun _ => List C → List C) (fun _ => [])
    (fun a as ih bs => match bs with
      | [] => a :: as
      | b :: bs => (if a.beq b then a.cut m else (a.cut m).mg c false (b.cut m)) :: ih bs) as

theorem mgList_cons (c : E) (m : Nat) (a b : C) (as bs : List C) : mgList c m (a :: as) (b :: bs) = (if a.beq b then a.cut m else (a.cut m).mg c false (b.cut m)) :: mgList c m as bs := rfl

noncomputable def esSame : List (C × C × Nat) → List (C × C × Nat) → Bool
  | [], bs => match bs with | [] => true | _ => false
  | (k, v, n) :: as, bs => match bs with
    | [] => false
    | (k', v', n') :: bs => k.beq k' && v.beq v' && Nat.beq n n' && esSame as bs

noncomputable def beqL (as : List C) : List C → Bool :=
  @List.rec C (fun _ => List C → Bool) (fun bs => match bs with | [] => true | _ => false)
    (fun a _ ih bs => match bs with
      | [] => false
      | b :: bs => a.beq b && ih bs) as

theorem beqL_cons (a b : C) (as bs : List C) : beqL (a :: as) (b :: bs) = (a.beq b && beqL as bs) := rfl

noncomputable def mgBlk (c : E) (m : Nat) (a b : Blk) : Option Blk :=
  match a with
  | .cells x t => match b with
    | .cells y u => if Nat.beq t u && Nat.beq x.length y.length then some (if beqL x y && x.all (C.clean m) then .cells x t else .cells (mgList c m x y) t) else none
    | _ => none
  | .mp x n => match b with
    | .mp y n' => if Nat.beq n n' && esSame x y then some (.mp (x.map fun e => (e.1.cut m, e.2.1.cut m, e.2.2)) n) else none
    | _ => none

noncomputable def mgH (c : E) (m : Nat) : Nat → List Blk → List Blk → Option (List Blk)
  | 0, _, _ => some []
  | n + 1, as, bs => match as, bs with
    | a :: as, b :: bs => match mgBlk c m a b with
      | some x => match mgH c m n as bs with
        | some xs => some (x :: xs)
        | none => none
      | none => none
    | _, _ => none

noncomputable def mgT (c : E) (m : Nat) (a b : Ts) : Ts := ⟨a.n, a.l.map fun p => (p.1, let v := p.2; let w := getT b p.1; if v.beq w then v.cut m else (v.cut m).mg c false (w.cut m)), a.d⟩

/-- The same deferred calls. -/
noncomputable def beqD : List (Nat × List C) → List (Nat × List C) → Bool
  | [], bs => match bs with | [] => true | _ => false
  | a :: as, bs => match bs with
    | [] => false
    | b :: bs => Nat.beq a.1 b.1 && beqL a.2 b.2 && beqD as bs

noncomputable def cleanD (m : Nat) (d : List (Nat × List C)) : Bool := d.all fun p => p.2.all (C.clean m)

noncomputable def mgSt (c : E) (m : Nat) (a b : St) : Option St :=
  if Nat.beq a.ts.n b.ts.n && (beqD a.ts.d b.ts.d && cleanD m a.ts.d) then match mgH c m m a.H b.H with
    | some H => some ⟨mgT c m a.ts b.ts, H⟩
    | none => none
  else none

noncomputable def Blk.beq (a b : Blk) : Bool :=
  match a with
  | .cells x t => match b with
    | .cells y u => Nat.beq t u && beqL x y
    | _ => false
  | .mp x n => match b with
    | .mp y n' => Nat.beq n n' && esSame x y
    | _ => false

noncomputable def beqH : List Blk → List Blk → Bool
  | [], bs => match bs with | [] => true | _ => false
  | a :: as, bs => match bs with
    | [] => false
    | b :: bs => a.beq b && beqH as bs

/-- Does the second list begin with the first? -/
noncomputable def preH : List Blk → List Blk → Bool
  | [], _ => true
  | a :: as, bs => match bs with
    | [] => false
    | b :: bs => a.beq b && preH as bs

noncomputable def impE (c d : E) : E := mkIteB c d (.lit 1)

/-! What is known on a way. -/

noncomputable def lookT (as : List (E × Bool)) (e : E) : Option Bool :=
  @List.rec (E × Bool) (fun _ => Option Bool) none (fun p _ ih => if p.1.beq e then some p.2 else ih) as

noncomputable def knownE (as : List (E × Bool)) (e : E) : E :=
  match lookT as e with
  | some b => .lit (b2i b)
  | none => e

/-- What a test tells. -/
noncomputable def learn (c : E) : Bool → List (E × Bool) → List (E × Bool) :=
  @E.rec (fun _ => Bool → List (E × Bool) → List (E × Bool)) (fun _ _ as => as) (fun i b as => (.var i, b) :: as) (fun _ _ as => as)
    (fun o k a z iha _ b as => match unNot (.bin o k a z) with
      | some _ => iha (!b) as
      | none => (.bin o k a z, b) :: as)
    (fun _ _ _ _ as => as)
    (fun c x y ihc ihx ihy b as => match b with
      | true => match x with
        | .lit n => if intBeq n 0 then ihc false (ihy true as) else match y with
          | .lit m => if intBeq m 0 then ihc true as else as
          | _ => as
        | _ => match y with
          | .lit m => if intBeq m 0 then ihc true (ihx true as) else as
          | _ => (.ite c x y, true) :: as
      | false => match x with
        | .lit n => if intBeq n 0 then as else ihc false (ihy false as)
        | _ => match y with
          | .lit m => if intBeq m 0 then as else ihc true (ihx false as)
          | _ => (.ite c x y, false) :: as)
    (fun f as' _ b as => (.app f as', b) :: as) (fun _ _ _ _ _ as => as) (fun _ as => as) c

/-- A test where some tests are known. -/
noncomputable def under (as : List (E × Bool)) (e : E) : E :=
  @E.rec (fun _ => List (E × Bool) → E) (fun n _ => .lit n) (fun i as => knownE as (.var i)) (fun i _ => .slen i)
    (fun o k a b iha _ as => match unNot (.bin o k a b) with
      | some _ => match iha as with
        | .lit n => if intBeq n 0 then .lit 1 else .lit 0
        | _ => knownE as (.bin o k a b)
      | none => knownE as (.bin o k a b))
    (fun k a _ _ => .conv k a)
    (fun c a b ihc iha ihb as => match lookT as (.ite c a b) with
      | some r => .lit (b2i r)
      | none => match ihc as with
        | .lit n => if intBeq n 0 then ihb as else iha as
        | c' => mkIteB c' (iha (learn c' true as)) (ihb (learn c' false as)))
    (fun f as' _ as => knownE as (.app f as')) (fun a b _ _ _ => .cons a b) (fun _ => .nil) e as

/-- Ways that cannot be taken go. -/
noncomputable def prune {α : Type} (as : List (E × Bool)) : T α → T α
  | .leaf x => .leaf x
  | .br c a b => match under as c with
    | .lit n => if intBeq n 0 then prune as b else prune as a
    | c' => .br c' (prune (learn c' true as) a) (prune (learn c' false as) b)
  | .both a b => .both (prune as a) (prune as b)
  | .need d t => .need d (prune as t)
  | .fail n => .fail n

/-! Trees as chains: a way of leaving, else the next one. -/

noncomputable def chainL : T (X × St) → Option (List (E × X × St))
  | .leaf r => some [(.lit 1, r.1, r.2)]
  | .br e a t => match a with
    | .leaf r => match chainL t with
      | some l => some ((e, r.1, r.2) :: l)
      | none => none
    | _ => none
  | _ => none

noncomputable def ofChain : List (E × X × St) → T (X × St)
  | [] => .fail 13
  | r :: l => match l with
    | [] => .leaf (r.2.1, r.2.2)
    | _ => .br r.1 (.leaf (r.2.1, r.2.2)) (ofChain l)

def xNo : X → Nat
  | .ret => 0
  | .normal => 1
  | .exit id => id + 2

noncomputable def mergeC (mg : E → St → St → Option St) (c : E) : Nat → List (E × X × St) → List (E × X × St) → Option (List (E × X × St))
  | 0, _, _ => none
  | n + 1, la, lb => match la with
    | [] => some lb
    | p :: la' => match lb with
      | [] => some (p :: la')
      | q :: lb' => if p.2.1.beq q.2.1 then match mg c p.2.2 q.2.2 with
          | some u => match mergeC mg c n la' lb' with
            | some l => some ((mkIteB c p.1 q.1, p.2.1, u) :: l)
            | none => none
          | none => none
        else if Nat.blt (xNo p.2.1) (xNo q.2.1) then match mergeC mg c n la' (q :: lb') with
          | some l => some ((mkIteB c p.1 (.lit 0), p.2.1, p.2.2) :: l)
          | none => none
        else match mergeC mg c n (p :: la') lb' with
          | some l => some ((mkIteB c (.lit 0) q.1, q.2.1, q.2.2) :: l)
          | none => none

noncomputable def brM (mg : E → St → St → Option St) (c : E) (ta tb : T (X × St)) : T (X × St) :=
  match chainL ta with
  | some la => match chainL tb with
    | some lb => match mergeC mg c (la.length + lb.length + 1) la lb with
      | some l => ofChain l
      | none => .br c ta tb
    | none => .br c ta tb
  | none => .br c ta tb

noncomputable def joinB (mg : E → St → St → Option St) (c : E) (x : X) (s : St) : T (X × St) → T (X × St)
  | .need d t => .need (impE (notE c) d) (joinB mg c x s t)
  | tb => brM mg c (.leaf (x, s)) tb

/-- 'if c then ta else tb', what is left in the same way brought together. -/
noncomputable def joinA (mg : E → St → St → Option St) (c : E) (tb : T (X × St)) : T (X × St) → T (X × St)
  | .need d t => .need (impE c d) (joinA mg c tb t)
  | .leaf (x, s) => joinB mg c x s tb
  | ta => joinR mg c ta tb
where
  joinR (mg : E → St → St → Option St) (c : E) (ta : T (X × St)) : T (X × St) → T (X × St)
    | .need d t => .need (impE (notE c) d) (joinR mg c ta t)
    | tb => brM mg c ta tb

/-- Is what the first knows what the second knows of the same? -/
noncomputable def subT (a b : Ts) : Bool := Nat.beq a.n b.n && beqD a.d b.d && a.l.all fun p => (getT a p.1).beq (getT b p.1)

/-- Two orders that come to the same. -/
noncomputable def joinO (a b : T (X × St)) : T (X × St) :=
  match a, b with
  | .leaf (x, s), .leaf (y, s') => if x.beq y && subT s.ts s'.ts && beqH s.H s'.H then .leaf (x, s) else .both a b
  | _, _ => .both a b

noncomputable def join (mg : E → St → St → Option St) : T (X × St) → T (X × St)
  | .br c a b => joinA mg c (join mg b) (join mg a)
  | .both a b => joinO (join mg a) (join mg b)
  | .need d t => .need d (join mg t)
  | .leaf x => .leaf x
  | .fail n => .fail n

noncomputable def joinAt (sp : Bool) (m : Nat) (t : T (X × St)) : T (X × St) := if sp then t else join (fun c a b => mgSt c m a b) (prune [] t)

/-- Operations that write no memory and look into no map or array by a number that is not known. -/
def calmOp (op : Op) : Bool :=
  match op with
  | .move _ => true
  | .assign _ => true
  | .pick _ _ _ => true
  | .load _ _ => true
  | .binOp _ _ _ _ _ => true
  | .unOp _ _ _ => true
  | .convert _ _ _ => true
  | .fieldAddr _ _ _ => true
  | .field _ _ _ => true
  | .extract _ _ => true
  | .nilCheck _ => true
  | _ => false

/-- Two ways whose memory is the same. -/
noncomputable def mgTs (H : List Blk) (c : E) (a b : St) : Option St := if Nat.beq a.ts.n b.ts.n && (beqD a.ts.d b.ts.d && cleanD H.length a.ts.d) then some ⟨mgT c H.length a.ts b.ts, H⟩ else none

/-- The same; one test alone is left as it is. -/
noncomputable def pruneX (t : T (X × St)) : T (X × St) :=
  match t with
  | .br c a b => match a with
    | .leaf x => match b with
      | .leaf y => .br c (.leaf x) (.leaf y)
      | b => prune [] (.br c (.leaf x) b)
    | a => prune [] (.br c a b)
  | t => prune [] t

noncomputable def joinTs (sp : Bool) (H : List Blk) (t : T (X × St)) : T (X × St) :=
  if sp then t else match t with
    | .leaf r => .leaf r
    | t => (join (fun c a b => mgTs H c a b) (pruneX t)).bind fun r => .leaf (r.1, ⟨r.2.ts, H⟩)

/-! ### Operations, code, calls -/

noncomputable def needT {α : Type} (n : E) (t : T α) : T α :=
  match n with
  | .lit x => if intBeq x 0 then .need n t else t
  | _ => .need n t

/-- The guard's temporary: its number. -/
noncomputable def guardTmp (all : Array Oper) (j : Nat) : Option Tmp := (getL all.toList j).bind (·.dst)

/-- A value in which a term is put in place of another one. -/
noncomputable def C.fix (p : E) (j : Int) (c : C) : C :=
  @C.rec (fun _ => C) .bad (fun k e => .int k (E.fix p j e)) (fun e => .bool (E.fix p j e)) .ptr .old .osl (fun i e s o => .optr i (E.fix p j e) s o) .nilptr .nilif .nilfn .nilmap .nilslice .str .sl .map
    (fun g _ _ a b => .fn g a b) (fun t _ v => .iface t v) (fun _ l => .agg l) (fun _ l => .tup l) (fun _ _ a b => .cons a b) .nil .such c

noncomputable def Blk.fix (p : E) (j : Int) : Blk → Blk
  | .cells cs t => .cells (cs.map (C.fix p j)) t
  | .mp es n => .mp es n

noncomputable def St.fix (p : E) (j : Int) (s : St) : St := ⟨s.ts.mapC (C.fix p j), s.H.map (Blk.fix p j)⟩

/-- Is it a term that nothing is known of? -/
noncomputable def E.atom : E → Bool
  | .var _ => true
  | .app _ _ => true
  | _ => false

/-- The keys of a map. -/
noncomputable def keysOf : List (C × C × Nat) → Option (List Int)
  | [] => some []
  | (key, _, _) :: es => match key with
    | .int _ (.lit n) => match keysOf es with
      | some l => some (n :: l)
      | none => none
    | _ => none

/-- A lookup in a map of the run's own by a number that is not known: the term, its kind, the keys. -/
noncomputable def openKeys (s : St) (op : Op) : Option (E × IntKind × List Int) :=
  match op with
  | .lookup _ m ix _ => match evO s.ts ix with
    | .int k e => if e.atom then match evO s.ts m with
        | .map b => match getL s.H b with
          | some (.mp es _) => match keysOf es with
            | some l => some (e, k, l)
            | none => none
          | _ => none
        | _ => none
      else none
    | _ => none
  | _ => none

/-- A way for each key, and one for none of them. -/
noncomputable def evKeys (s : St) (e : E) (k : IntKind) (f : St → T St) (g : T St) : List Int → T St
  | [] => g
  | j :: js => .br (.bin .eql k e (.lit j)) (f (s.fix e j)) (evKeys s e k f g js)

/-- The method of a name, of a pointer's type and with a pointer's receiver: its function. -/
noncomputable def findMeth (name : String) : List Method → Option Method
  | [] => none
  | m :: ms => if decide (m.name = name) then some m else findMeth name ms

noncomputable def evMeth (P : Program) (t : TypeId) (name : String) : Option FuncId :=
  match P.underlying t with
  | some (.pointer _) => match P.info? t with
    | some inf => match findMeth name inf.methods.toList with
      | some m => match m.path.toList with
        | [] => match m.func with
          | some (f, b) => if b then some f else none
          | none => none
        | _ => none
      | none => none
    | none => none
  | _ => none

/-- A call deferred. -/
noncomputable def pushD (ts : Ts) (f : FuncId) (vs : List C) : Ts := ⟨ts.n, ts.l, (f, vs) :: ts.d⟩

/-- One operation whose guard says yes. 'call': how a call is met; 'why': a number for what fails. -/
noncomputable def evStep0 (K : Ctx) (call : FuncId → List C → List Blk → T (C × List Blk)) (why : Nat) (o : Oper) (s : St) (k : St → T St) : T St :=
  match evOpR K s o.op with
  | some (v, n) => needT n (k ⟨putD s.ts o.dst v, s.H⟩)
  | none => match o.op with
    | .call c => match c.callee with
      | .value f => match evO s.ts f with
        | .fn (.func g) a b => match a.ofC, b.ofC with
          | some first, some cap => (call g (first ++ c.args.toList.map (evO s.ts) ++ cap) s.H).bind fun r => k ⟨putD s.ts o.dst r.1, r.2⟩
          | _, _ => .fail (why + 1)
        | _ => .fail (why + 2)
      | .invoke recv name => match evO s.ts recv with
        | .iface t v => match evMeth K.P t name with
          | some g => (call g (v :: c.args.toList.map (evO s.ts)) s.H).bind fun r => k ⟨putD s.ts o.dst r.1, r.2⟩
          | none => .fail (why + 21)
        | _ => .fail (why + 22)
      | .builtin _ => match evOpW K.P s o.op with
        | some (v, H) => k ⟨putD s.ts o.dst v, H⟩
        | none => .fail (why + 3)
    | .defer c => match c.callee with
      | .value f => match evO s.ts f with
        | .fn (.func g) a b => match a.ofC, b.ofC with
          | some first, some cap => k ⟨putD (pushD s.ts g (first ++ c.args.toList.map (evO s.ts) ++ cap)) o.dst C.undef, s.H⟩
          | _, _ => .fail (why + 23)
        | _ => .fail (why + 24)
      | _ => .fail (why + 25)
    | op => match evOpW K.P s op with
      | some (v, H) => k ⟨putD s.ts o.dst v, H⟩
      | none => .fail (why + 4)

/-- An array's element whose number is not known: the number, how many there are. -/
noncomputable def openIdx (K : Ctx) (s : St) (op : Op) : Option (E × IntKind × Nat) :=
  match op with
  | .indexAddr t _ ix => match evO s.ts ix with
    | .int k e => if e.atom then match K.P.underlying t with
        | some (.array n _) => some (e, k, n)
        | _ => none
      else none
    | _ => none
  | .index t _ ix => match evO s.ts ix with
    | .int k e => if e.atom then match K.P.underlying t with
        | some (.array n _) => some (e, k, n)
        | _ => none
      else none
    | _ => none
  | _ => none

/-- A way for each number from 'j' on ('m': how many but the last). -/
noncomputable def idxWays (e : E) (k : IntKind) (f : Int → T St) : Nat → Nat → T St
  | 0, j => f (Int.ofNat j)
  | m + 1, j => .br (.bin .eql k e (.lit (Int.ofNat j))) (f (Int.ofNat j)) (idxWays e k f m (j + 1))

/-- 0 ≤ e ≤ m. -/
noncomputable def idxIn (e : E) (k : IntKind) (m : Nat) : E := .ite (.bin .lss k e (.lit 0)) (.lit 0) (.bin .eql .i64 (.bin .lss k (.lit (Int.ofNat m)) e) (.lit 0))

/-- The same, with a way for each key where a map (or an array) is asked by a number that is not known. -/
noncomputable def evStep (K : Ctx) (call : FuncId → List C → List Blk → T (C × List Blk)) (why : Nat) (o : Oper) (s : St) (k : St → T St) : T St :=
  match openKeys s o.op with
  | some (e, kd, l) => evKeys s e kd (fun s' => evStep0 K call why o s' k) (match evOpR K s o.op with
    | some (v, _) => k ⟨putD s.ts o.dst v, s.H⟩
    | none => .fail (why + 13)) l
  | none => match openIdx K s o.op with
    | some (e, kd, n) => match n with
      | 0 => .fail (why + 14)
      | m + 1 => .need (idxIn e kd m) (idxWays e kd (fun j => match evOpR K (s.fix e j) o.op with
        | some (v, n) => needT n (k ⟨putD s.ts o.dst v, s.H⟩)
        | none => .fail (why + 15)) m 0)
    | none => evStep0 K call why o s k

/-- A guard: 'some b': it is known; 'none': by the term. -/
inductive Gd where
  | known (b : Bool)
  | open_ (t : Tmp) (e : E)
  | lost

noncomputable def evGuard (all : Array Oper) (ts : Ts) (o : Oper) : Gd :=
  match o.guard with
  | none => .known true
  | some (j, want) => match guardTmp all j with
    | none => .lost
    | some t => match getT ts t with
      | .bool (.lit n) => .known (want.xor (intBeq n 0))
      | .bool e => .open_ t e
      | .tup _ => .known false
      | _ => .lost

/-- A region's operations in the order of the text. -/
noncomputable def evOps (K : Ctx) (call : FuncId → List C → List Blk → T (C × List Blk)) (why : Nat) (all : Array Oper) : List Oper → St → T St
  | [], s => .leaf s
  | o :: rest, s => match evGuard all s.ts o with
    | .known true => evStep K call why o s (evOps K call why all rest)
    | .known false => evOps K call why all rest ⟨putD s.ts o.dst C.undef, s.H⟩
    | .open_ t e =>
      let w := match o.guard with | some (_, w) => w | none => true
      let s1 : St := ⟨setT s.ts t (.bool (.lit 1)), s.H⟩
      let s0 : St := ⟨setT s.ts t (.bool (.lit 0)), s.H⟩
      if w then .br e (evStep K call why o s1 (evOps K call why all rest)) (evOps K call why all rest ⟨putD s0.ts o.dst C.undef, s0.H⟩)
      else .br e (evOps K call why all rest ⟨putD s1.ts o.dst C.undef, s1.H⟩) (evStep K call why o s0 (evOps K call why all rest))
    | .lost => .fail (why + 5)

/-! A region that draws its order. -/

noncomputable def isLit1 (e : E) : Bool :=
  match e with
  | .lit n => !intBeq n 0
  | _ => false

/-- May operation 'o' be taken first? Its value. 'ld': loads may, out of the blocks 'H0' of the region's beginning. -/
noncomputable def evTake (K : Ctx) (ld : Bool) (H0 : List Blk) (all : Array Oper) (o : Oper) (s : St) : Option (C × E) :=
  match evGuard all s.ts o with
  | .known false => some (C.undef, .lit 1)
  | .known true => if isLd o.op then
      if ld then match evOpR K ⟨s.ts.mapC (C.cut H0.length), H0⟩ o.op with
        | some (v, n) => if isLit1 n && v.exact && v.clean H0.length then some (v, .lit 1) else none
        | none => none
      else none
    else evOpR K s o.op
  | _ => none

noncomputable def pickTake (K : Ctx) (ld : Bool) (H0 : List Blk) (all : Array Oper) (listed : Array Bool) (s : St) : List Nat → Option (Nat × C × E)
  | [] => none
  | i :: is => match getL all.toList i with
    | some o => match evTake K ld H0 all o s with
      | some v => if Region.free .any all listed i then some (i, v) else pickTake K ld H0 all listed s is
      | none => pickTake K ld H0 all listed s is
    | none => pickTake K ld H0 all listed s is

noncomputable def pickOpen (all : Array Oper) (s : St) : List Nat → Option (Tmp × E)
  | [] => none
  | i :: is => match getL all.toList i with
    | some o => match evGuard all s.ts o with
      | .open_ t e => some (t, e)
      | _ => pickOpen all s is
    | none => pickOpen all s is

noncomputable def allOf {α : Type} (f : Nat → T α) : List Nat → T α
  | [] => .fail 0
  | i :: is => match is with
    | [] => f i
    | _ => .both (f i) (allOf f is)

/-- Blocks of which nothing is asked but their size. -/
def wkGo (mk : List Nat) : Nat → List Blk → List Blk
  | _, [] => []
  | i, b :: bs => (if mk.any (Nat.beq i) then match b with
    | .cells cs t => .cells (cs.map fun _ => .bad) t
    | b => b
    else b) :: wkGo mk (i + 1) bs

def wkH (mk : List Nat) (H : List Blk) : List Blk :=
  match mk with
  | [] => H
  | _ => wkGo mk 0 H

noncomputable def evAny (K : Ctx) (call : FuncId → List C → List Blk → T (C × List Blk)) (why : Nat) (ld : Bool) (mk : List Nat) (H0 : List Blk) (all : Array Oper) :
    Nat → Nat → Array Bool → St → T St
  | 0, _, _, _ => .fail (why + 6)
  | n + 1, m, listed, s =>
    match Region.ready .any all listed with
    | [] => .leaf s
    | r :: rs => match pickOpen all s (r :: rs) with
      | some (t, e) => .br e (evAny K call why ld mk H0 all n m listed ⟨setT s.ts t (.bool (.lit 1)), s.H⟩) (evAny K call why ld mk H0 all n m listed ⟨setT s.ts t (.bool (.lit 0)), s.H⟩)
      | none => match m with
        | 0 => .fail (why + 7)
        | m + 1 => match pickTake K ld H0 all listed s (r :: rs) with
          | some (i, v, nd) => match getL all.toList i with
            | some o => needT nd (evAny K call why ld mk H0 all n m (listed.setIfInBounds i true) ⟨putD s.ts o.dst v, s.H⟩)
            | none => .fail (why + 8)
          | none => allOf (fun i => match getL all.toList i with
              | some o => match evGuard all s.ts o with
                | .known true => evStep K call why o s fun s' => if !ld || preH H0 (wkH mk s'.H) then evAny K call why ld mk H0 all n m (listed.setIfInBounds i true) s' else .fail (why + 9)
                | _ => .fail (why + 10)
              | none => .fail (why + 11)) (r :: rs)

/-! A region that makes a map and puts entries into it in whatever order. -/

/-- An operation of a region: its number, what it comes after, the temporaries that it looks at. -/
structure Ent where
  i : Nat
  o : Oper
  m : Nat
  l : Nat

/-- An insert of a region: which operation, its key, where its value lies. -/
structure Ins where
  i : Nat
  k : IntKind
  n : Int
  v : Tmp

noncomputable def bitAt (N i : Nat) : Bool := Nat.beq (Nat.land (Nat.shiftRight N i) 1) 1

noncomputable def maskOf (l : List Edge) : Nat := @List.rec Edge (fun _ => Nat) 0 (fun e _ ih => Nat.lor (Nat.shiftLeft 1 e.on) ih) l

noncomputable def tmpsOf (l : List Operand) : Nat := @List.rec Operand (fun _ => Nat) 0 (fun x _ ih => match x with
  | .tmp t => Nat.lor (Nat.shiftLeft 1 t) ih
  | _ => ih) l

noncomputable def mkEnt (i : Nat) (o : Oper) : Ent := ⟨i, o, maskOf o.after.toList, tmpsOf o.op.operands.toList⟩

noncomputable def ents (l : List Oper) : Nat → List Ent := @List.rec Oper (fun _ => Nat → List Ent) (fun _ => []) (fun o _ ih i => mkEnt i o :: ih (Nat.succ i)) l

/-- Two operations: not one temporary made by both; what the second looks at and the first makes, it comes after. -/
noncomputable def pairOk (x y : Ent) : Bool :=
  match x.o.dst with
  | none => true
  | some d => Nat.beq x.i y.i || ((match y.o.dst with
      | some d' => !Nat.beq d d'
      | none => true) && (!bitAt y.l d || bitAt y.m x.i))

noncomputable def bindsAll (l : List Edge) : Bool := @List.rec Edge (fun _ => Bool) true (fun e _ ih => match e.ground with
  | .textOnly _ => false
  | .gcOnly _ => false
  | _ => ih) l

noncomputable def plainOp (x : Ent) : Bool :=
  (match x.o.guard with
   | none => true
   | some _ => false) && bindsAll x.o.after.toList

noncomputable def wellOk (l : List Ent) : Bool := l.all fun y => plainOp y && l.all fun x => pairOk x y

/-- Is it a map with whole numbers as keys? -/
noncomputable def mapTy (P : Program) (t : TypeId) : Bool :=
  match P.underlying t with
  | some (.map kt _) => match P.underlying kt with
    | some (.int _) => true
    | _ => false
  | _ => false

noncomputable def insOf (P : Program) (tm : Tmp) (x : Ent) : Option Ins :=
  match x.o.dst with
  | some _ => none
  | none => match x.o.op with
    | .insert t m k v => match m with
      | .tmp t' => match k with
        | .const c => match c with
          | .int kk n => match v with
            | .tmp u => if Nat.beq t' tm && (mapTy P t && inKb kk n) then some ⟨x.i, kk, n, u⟩ else none
            | _ => none
          | _ => none
        | _ => none
      | _ => none
    | _ => none

noncomputable def inss (P : Program) (tm : Tmp) : List Ent → List Ins
  | [] => []
  | x :: l => match insOf P tm x with
    | some e => e :: inss P tm l
    | none => inss P tm l

noncomputable def makeOf : List Ent → Option (Nat × Tmp)
  | [] => none
  | x :: l => match x.o.op with
    | .makeMap _ r => match r with
      | none => match x.o.dst with
        | some d => some (x.i, d)
        | none => makeOf l
      | some _ => makeOf l
    | _ => makeOf l

noncomputable def sdOk (k0 : IntKind) : List Ins → Bool
  | [] => true
  | e :: l => sameKind e.k k0 && ((l.all fun e' => !intBeq e.n e'.n && !Nat.beq e.i e'.i) && sdOk k0 l)

noncomputable def insMask : List Ins → Nat
  | [] => 0
  | e :: l => Nat.lor (Nat.shiftLeft 1 e.i) (insMask l)

noncomputable def entMask : List Ent → Nat
  | [] => 0
  | x :: l => Nat.lor (Nat.shiftLeft 1 x.i) (entMask l)

noncomputable def sdEs (ts : Ts) (sd : List Ins) : List (C × C × Nat) := sd.map fun e => (C.int e.k (.lit e.n), getT ts e.v, 0)

noncomputable def forceN {α : Type} (f : Nat → α) (n : Nat) : α := @Nat.rec (fun _ => α) (f 0) (fun m _ => f (Nat.succ m)) n

noncomputable def readyE (x : Ent) (N : Nat) : Bool := Nat.beq (Nat.land x.m N) x.m

def isCallOp (op : Op) : Bool :=
  match op with
  | .call _ => true
  | _ => false

/-- An order of the operations: no call while another may be taken. 'l': what is left of this round, 'rest': what was passed over; 'c': a call is looked for. -/
noncomputable def orderE : Nat → List Ent → List Ent → Bool → Nat → List Nat
  | 0, _, _, _, _ => []
  | n + 1, l, rest, c, N => match l with
    | [] => if c then [] else match rest with
      | [] => []
      | x :: r => orderE n (List.reverseAux r [x]) [] true N
    | x :: l => if readyE x N && (c || !isCallOp x.o.op) then x.i :: forceN (orderE n (List.reverseAux rest l) [] false) (Nat.lor N (Nat.shiftLeft 1 x.i))
      else orderE n l (x :: rest) c N

noncomputable def dstNot (d : Option Tmp) (tm : Tmp) : Bool :=
  match d with
  | some d => !Nat.beq d tm
  | none => true

/-- Does every operation that is not done yet (and is no side operation) wait for one of 'W', but number i? -/
noncomputable def waitAll (es : List Ent) (S N W i : Nat) : Bool :=
  es.all fun y => bitAt S y.i || (bitAt N y.i || (Nat.beq y.i i || !Nat.beq (Nat.land y.m W) 0))

noncomputable def evPh (K : Ctx) (call : FuncId → List C → List Blk → T (C × List Blk)) (why : Nat) (H0 : List Blk) (all : Array Oper) (es : List Ent) (S Ph : Nat) (tm : Tmp) (k : Nat → St → T St) : List Nat → Nat → St → T St
  | [], N, s => k N s
  | i :: l, N, s => match getL es i with
    | none => .fail (why + 16)
    | some x => if readyE x N && (!bitAt N x.i && (bitAt Ph x.i && dstNot x.o.dst tm)) then
        forceN (fun N' => match evTake K true H0 all x.o s with
          | some (v, nd) => needT nd (evPh K call why H0 all es S Ph tm k l N' ⟨putD s.ts x.o.dst v, s.H⟩)
          | none => if waitAll es S N (Nat.xor Ph N) x.i then
              evStep K call why x.o s fun s' => if preH H0 s'.H then evPh K call why H0 all es S Ph tm k l N' ⟨setT s'.ts tm .bad, s'.H⟩ else .fail (why + 9)
            else .fail (why + 17)) (Nat.lor N (Nat.shiftLeft 1 x.i))
      else .fail (why + 18)

/-- Is all done but side operations (which then wait for nothing else) and operations that wait for all of these? -/
noncomputable def sidesOk (es : List Ent) (im S N : Nat) : Bool :=
  es.all fun y => if bitAt S y.i then (if Nat.beq y.i im then readyE y N else readyE y (Nat.lor N (Nat.shiftLeft 1 im))) else bitAt N y.i || Nat.beq (Nat.land y.m S) S

noncomputable def doneOk (es : List Ent) (N : Nat) : Bool := es.all fun y => bitAt N y.i

noncomputable def evM (K : Ctx) (call : FuncId → List C → List Blk → T (C × List Blk)) (why : Nat) (all : Array Oper) (es : List Ent) (im : Nat) (tm : Tmp) (sd : List Ins) (S F : Nat) (s : St) : T St :=
  evPh K call why s.H all es S (Nat.xor F S) tm (fun N s1 =>
      if sidesOk es im S N then
        evPh K call why s.H all es 0 F s1.ts.n (fun N' s2 => if doneOk es N' then .leaf s2 else .fail (why + 19))
          (orderE 100000 (es.filter fun y => !bitAt (Nat.lor N S) y.i) [] false (Nat.lor N S)) (Nat.lor N S) ⟨setT s1.ts tm (.map s1.H.length), s1.H ++ [.mp (sdEs s1.ts sd) sd.length]⟩
      else .fail (why + 20))
    (orderE 100000 (es.filter fun y => !bitAt S y.i) [] false 0) 0 ⟨setT s.ts tm .bad, s.H⟩

/-- The same, if the region is such. -/
noncomputable def evMap (K : Ctx) (call : FuncId → List C → List Blk → T (C × List Blk)) (why : Nat) (all : Array Oper) (s : St) : Option (T St) :=
  match makeOf (ents all.toList 0) with
  | none => none
  | some (im, tm) => match inss K.P tm (ents all.toList 0) with
    | [] => none
    | e :: sd => if wellOk (ents all.toList 0) && (sdOk e.k (e :: sd) && Nat.blt tm s.ts.n) then
        some (forceN (fun S => forceN (fun F => evM K call why all (ents all.toList 0) im tm (e :: sd) S F s) (entMask (ents all.toList 0))) (Nat.lor (Nat.shiftLeft 1 im) (insMask (e :: sd))))
      else none

/-- Does the region write memory that is there? -/
noncomputable def writesOp (op : Op) : Bool :=
  match op with
  | .store _ _ _ => true
  | .mapUpdate _ _ _ _ => true
  | .insert _ _ _ _ => true
  | _ => false

/-- The blocks that its stores write, but for those that the region itself makes; 'none': not known. -/
noncomputable def storeMask (ops : Array Oper) (ts : Ts) : List Oper → Option (List Nat)
  | [] => some []
  | o :: l => match o.op with
    | .store _ p _ => match p with
      | .tmp t => if ops.any fun q => match q.op with
          | .alloc _ => match q.dst with
            | some d => Nat.beq d t
            | none => false
          | _ => false
        then storeMask ops ts l
        else match getT ts t with
          | .ptr b _ => match storeMask ops ts l with
            | some m => some (b :: m)
            | none => none
          | _ => none
      | _ => none
    | .mapUpdate _ _ _ _ => none
    | .insert _ _ _ _ => none
    | _ => storeMask ops ts l

/-! A region whose operations have no guards: what is done, as a number's bits. -/

noncomputable def maskB (l : List Edge) : Nat := @List.rec Edge (fun _ => Nat) 0 (fun e _ ih => cond (Region.binds .any e) (Nat.lor (Nat.shiftLeft 1 e.on) ih) ih) l

noncomputable def mkEntB (i : Nat) (o : Oper) : Ent := ⟨i, o, maskB o.after.toList, tmpsOf o.op.operands.toList⟩

noncomputable def entsB (l : List Oper) : Nat → List Ent := @List.rec Oper (fun _ => Nat → List Ent) (fun _ => []) (fun o _ ih i => mkEntB i o :: ih (Nat.succ i)) l

noncomputable def noGuard (x : Ent) : Bool :=
  match x.o.guard with
  | none => true
  | some _ => false

noncomputable def wellB (l : List Ent) : Bool := l.all fun y => noGuard y && l.all fun x => pairOk x y

noncomputable def readyQ (es : List Ent) (N : Nat) : List Ent := es.filter fun x => !bitAt N x.i && readyE x N

noncomputable def takeQ (K : Ctx) (ld : Bool) (H0 : List Blk) (all : Array Oper) (s : St) : List Ent → Option (Ent × C × E)
  | [] => none
  | x :: l => match evTake K ld H0 all x.o s with
    | some v => some (x, v)
    | none => takeQ K ld H0 all s l

noncomputable def allE {α : Type} (f : Ent → T α) : List Ent → T α
  | [] => .fail 0
  | x :: l => match l with
    | [] => f x
    | _ => .both (f x) (allE f l)

noncomputable def evQ (K : Ctx) (call : FuncId → List C → List Blk → T (C × List Blk)) (why : Nat) (ld : Bool) (mk : List Nat) (H0 : List Blk) (all : Array Oper) (es : List Ent) : Nat → Nat → St → T St
  | 0, N, s => match readyQ es N with
    | [] => .leaf s
    | _ => .fail (why + 7)
  | m + 1, N, s => match readyQ es N with
    | [] => .leaf s
    | r :: rs => match takeQ K ld H0 all s (r :: rs) with
      | some (x, v, nd) => needT nd (forceN (fun N' => evQ K call why ld mk H0 all es m N' ⟨putD s.ts x.o.dst v, s.H⟩) (Nat.lor N (Nat.shiftLeft 1 x.i)))
      | none => allE (fun x => evStep K call why x.o s fun s' => if !ld || preH H0 (wkH mk s'.H) then forceN (fun N' => evQ K call why ld mk H0 all es m N' s') (Nat.lor N (Nat.shiftLeft 1 x.i)) else .fail (why + 9)) (r :: rs)

/-- The region's loads. -/
noncomputable def ldMask (es : List Ent) : Nat := @List.rec Ent (fun _ => Nat) 0 (fun x _ ih => cond (isLd x.o.op) (Nat.lor (Nat.shiftLeft 1 x.i) ih) ih) es

noncomputable def isAct (op : Op) : Bool :=
  match op with
  | .store _ _ _ => true
  | .call c => match c.callee with
    | .builtin _ => false
    | _ => true
  | _ => false

/-- All that a mask's operations come after. -/
noncomputable def clM (m : Nat) (acc : List (Nat × Nat)) : Nat := @List.rec (Nat × Nat) (fun _ => Nat) m (fun p _ ih => cond (bitAt m p.1) (Nat.lor p.2 ih) ih) acc

/-- For each operation all that it comes after. -/
noncomputable def clL (es : List Ent) : List (Nat × Nat) → List (Nat × Nat) :=
  @List.rec Ent (fun _ => List (Nat × Nat) → List (Nat × Nat)) (fun acc => acc) (fun x _ ih acc => forceN (fun M => ih ((x.i, M) :: acc)) (clM x.m acc)) es

noncomputable def lookM (CL : List (Nat × Nat)) (i : Nat) : Nat := @List.rec (Nat × Nat) (fun _ => Nat) 0 (fun p _ ih => cond (Nat.beq p.1 i) p.2 ih) CL

/-- A store or call that comes after all loads. -/
noncomputable def finE (CL : List (Nat × Nat)) (LD : Nat) (x : Ent) : Bool := isAct x.o.op && Nat.beq (Nat.land (lookM CL x.i) LD) LD

/-- The same; loads may be taken first; behind what comes after all loads nothing is asked of the memory any more. -/
noncomputable def evF (K : Ctx) (call : FuncId → List C → List Blk → T (C × List Blk)) (why : Nat) (mk : List Nat) (H0 : List Blk) (all : Array Oper) (es : List Ent) (CL : List (Nat × Nat)) (LD : Nat) : Nat → Nat → St → T St
  | 0, N, s => match readyQ es N with
    | [] => .leaf s
    | _ => .fail (why + 7)
  | m + 1, N, s => match readyQ es N with
    | [] => .leaf s
    | r :: rs => match takeQ K true H0 all s (r :: rs) with
      | some (x, v, nd) => if finE CL LD x then .fail (why + 26) else needT nd (forceN (fun N' => evF K call why mk H0 all es CL LD m N' ⟨putD s.ts x.o.dst v, s.H⟩) (Nat.lor N (Nat.shiftLeft 1 x.i)))
      | none => allE (fun x => evStep K call why x.o s fun s' =>
          if finE CL LD x then forceN (fun N' => evQ K call why false mk H0 all es m N' s') (Nat.lor N (Nat.shiftLeft 1 x.i))
          else if preH H0 (wkH mk s'.H) then forceN (fun N' => evF K call why mk H0 all es CL LD m N' s') (Nat.lor N (Nat.shiftLeft 1 x.i)) else .fail (why + 9)) (r :: rs)

/-- May loads be taken first with some hope? -/
noncomputable def heldOk (K : Ctx) (why : Nat) (ops : Array Oper) (s : St) (CL : List (Nat × Nat)) (LD : Nat) : Bool :=
  match storeMask ops s.ts ops.toList with
  | some _ => true
  | none => match K.wm why ops.size s.H.length with
    | [] => (entsB ops.toList 0).all fun x => !isAct x.o.op || finE CL LD x
    | _ => true

noncomputable def evRegion (K : Ctx) (call : FuncId → List C → List Blk → T (C × List Blk)) (why : Nat) (ops : Array Oper) (draw : Bool) (s : St) : T St :=
  if draw then
    if Region.noSelect ops && K.P.follows .mixedOrders then
      match evMap K call why ops s with
      | some t => t
      | none => if wellB (entsB ops.toList 0) then
          forceN (fun LD => if heldOk K why ops s (clL (entsB ops.toList 0) []) LD then evF K call why (K.wm why ops.size s.H.length ++ (storeMask ops s.ts ops.toList).getD []) (wkH (K.wm why ops.size s.H.length ++ (storeMask ops s.ts ops.toList).getD []) s.H) ops (entsB ops.toList 0) (clL (entsB ops.toList 0) []) LD ops.size 0 s
            else evQ K call why false [] s.H ops (entsB ops.toList 0) ops.size 0 s) (ldMask (entsB ops.toList 0))
       else match storeMask ops s.ts ops.toList with
        | some mk => evAny K call why true (K.wm why ops.size s.H.length ++ mk) (wkH (K.wm why ops.size s.H.length ++ mk) s.H) ops (4 * ops.size + 4) ops.size (Array.replicate ops.size false) s
        | none => evAny K call why false [] s.H ops (4 * ops.size + 4) ops.size (Array.replicate ops.size false) s
    else .fail (why + 12)
  else evOps K call why ops ops.toList s

noncomputable def evRes1 (P : Program) (s : St) (x : ResultVar) : Option C :=
  match x with
  | .tmp t => some (getT s.ts t)
  | .cell p t => match getT s.ts p with
    | .ptr b o => match getL s.H b with
      | some (.cells cs _) => partC P t cs o
      | _ => none
    | _ => none

noncomputable def evResL (P : Program) (s : St) : List ResultVar → Option (List C)
  | [] => some []
  | x :: xs => match evRes1 P s x, evResL P s xs with
    | some v, some vs => some (v :: vs)
    | _, _ => none

noncomputable def evResults (P : Program) (rs : List ResultVar) (s : St) : Option C :=
  match evResL P s rs with
  | some vs => match vs with
    | [v] => some v
    | vs => some (.tup (.toC vs))
  | none => none

noncomputable def blkClean (m : Nat) : Blk → Bool
  | .cells cs _ => cs.all (C.clean m)
  | .mp es _ => es.all fun e => e.1.clean m && e.2.1.clean m

/-- Behind a call: the callee's own blocks go, if nothing points to them. -/
noncomputable def dropNew (m : Nat) (v : C) (H : List Blk) : C × List Blk :=
  match getL H m with
  | none => (v, H)
  | some _ => if v.clean m && (H.take m).all (blkClean m) then (v, H.take m) else (v, H)

noncomputable def okName (fn : Func) : Bool := !decide (fn.name = "runtime.NumGoroutine")

/-- The deferred calls. -/
noncomputable def evD (K : Ctx) : List (Nat × List C) → List Blk → Option (List Blk)
  | [], H => some H
  | e :: ds, H => match K.dg e.1 e.2 H with
    | some H' => evD K ds H'
    | none => none

/-- A call: by its summary, else by its body ('code': how code is met). -/
noncomputable def evFnBy (K : Ctx) (code : Code → St → T (X × St)) (f : FuncId) (vs : List C) (H : List Blk) : T (C × List Blk) :=
  match K.P.funcs[f]? with
  | some fn => match fn.body with
    | some c => if okName fn then
        (joinAt (K.sp f) H.length ((code c ⟨Ts.start vs fn.ntmps, H⟩).bind fun r => match r.1 with
          | .exit _ => .fail (100 * f + 90)
          | _ => match evD K r.2.ts.d r.2.H with
            | some H1 => match evResults K.P fn.results.toList ⟨r.2.ts, H1⟩ with
              | some v => let d := dropNew H.length (if K.nf f then v.deep K.nrm else v) H1; .leaf (.ret, ⟨⟨1, [(0, d.1)], []⟩, d.2⟩)
              | none => .fail (100 * f + 91)
            | none => .fail (100 * f + 96))).bind fun r => .leaf (getT r.2.ts 0, r.2.H)
      else .fail (100 * f + 92)
    | none => .fail (100 * f + 93)
  | none => .fail (100 * f + 94)

noncomputable def evCall0 (K : Ctx) (code : FuncId → Code → St → T (X × St)) (f : FuncId) (vs : List C) (H : List Blk) : T (C × List Blk) :=
  match K.sg f vs with
  | some v => .leaf (v, H)
  | none => match K.sm f vs H with
   | some t => t
   | none => if K.fr f && vs.all (C.clean 0) then (evFnBy K (code f) f vs []).bind fun r => match r.2 with
      | [] => .leaf (r.1, H)
      | _ => .fail (100 * f + 95)
    else evFnBy K (code f) f vs H

noncomputable def blkNoQ : Blk → Bool
  | .cells cs _ => cs.all C.noQ
  | .mp _ _ => true

/-- The same; some functions are met apart from all blocks but the first few. -/
noncomputable def evCallBy (K : Ctx) (code : FuncId → Code → St → T (X × St)) (f : FuncId) (vs : List C) (H : List Blk) : T (C × List Blk) :=
  match K.fm f with
  | none => evCall0 K code f vs H
  | some m => if vs.all (C.clean m) && ((takeL H m).all (blkClean m) && ((dropL H m).all blkNoQ && Nat.ble m (lenL H))) then
      (evCall0 K code f vs (takeL H m)).bind fun r => if Nat.beq (lenL r.2) m then .leaf (r.1, r.2 ++ dropL H m) else .fail (100 * f + 97)
    else .fail (100 * f + 98)

/-! Temporaries that are asked for elsewhere than where they are made. -/

/-- Of a region's operations: what they look at and none ahead has made; 'd': what is made. -/
noncomputable def liveOps (l : List Oper) : Nat → Nat → Nat :=
  @List.rec Oper (fun _ => Nat → Nat → Nat) (fun _ u => u) (fun o _ ih d u =>
    forceN (fun x => forceN (fun d' => forceN (fun u' => ih d' u') (Nat.lor u (Nat.xor x (Nat.land x d)))) (match o.dst with
      | some t => Nat.lor d (Nat.shiftLeft 1 t)
      | none => d)) (tmpsOf o.op.operands.toList)) l

noncomputable def liveC : Code → Nat
  | .region _ ops _ => liveOps ops.toList 0 0
  | .seq a b => Nat.lor (liveC a) (liveC b)
  | .block _ b => liveC b
  | .loop b => liveC b
  | .scope b => liveC b
  | .cond c a b => Nat.lor (tmpsOf [c]) (Nat.lor (liveC a) (liveC b))
  | _ => 0

noncomputable def liveR : List ResultVar → Nat
  | [] => 0
  | x :: l => match x with
    | .tmp t => Nat.lor (Nat.shiftLeft 1 t) (liveR l)
    | .cell p _ => Nat.lor (Nat.shiftLeft 1 p) (liveR l)

noncomputable def liveF (P : Program) (f : FuncId) : Nat :=
  match P.funcs[f]? with
  | some fn => match fn.body with
    | some c => Nat.lor (liveC c) (liveR fn.results.toList)
    | none => 0
  | none => 0

noncomputable def trimL (lv : Nat) (l : List (Nat × C)) : Nat → List (Nat × C) :=
  @List.rec (Nat × C) (fun _ => Nat → List (Nat × C)) (fun _ => []) (fun p _ ih seen => cond (bitAt lv p.1 && !bitAt seen p.1) (p :: forceN ih (Nat.lor seen (Nat.shiftLeft 1 p.1))) (ih seen)) l

noncomputable def trimT (lv : Nat) (ts : Ts) : Ts := ⟨ts.n, trimL lv ts.l 0, ts.d⟩

/-- Code of function 'f'. -/
noncomputable def evCode (K : Ctx) : Nat → FuncId → Code → St → T (X × St)
  | 0, f, _, _ => .fail (100 * f + 80)
  | n + 1, f, c, s => match c with
    | .skip => .leaf (.normal, s)
    | .label _ => .leaf (.normal, s)
    | .ret => .leaf (.ret, s)
    | .exit id => .leaf (.exit id, s)
    | .seq a b => (evCode K n f a s).bind fun r => match r.1 with
      | .normal => evCode K n f b r.2
      | x => .leaf (x, r.2)
    | .block id b => joinAt (K.sp f) s.H.length ((evCode K n f b s).bind fun r => match r.1 with
      | .exit id' => if Nat.beq id' id then .leaf (.normal, r.2) else .leaf (.exit id', r.2)
      | x => .leaf (x, r.2))
    | .loop b => (evCode K n f b s).bind fun r => match r.1 with
      | .normal => evCode K n f (.loop b) r.2
      | x => .leaf (x, r.2)
    | .scope b => evCode K n f b s
    | .cond c a b => match evO s.ts c with
      | .bool e => match e with
        | .lit v => if intBeq v 0 then evCode K n f b s else evCode K n f a s
        | e => joinAt (K.sp f) s.H.length (.br e (evCode K n f a s) (evCode K n f b s))
      | _ => .fail (100 * f + 81)
    | .region _ ops draw =>
      if !draw && ops.toList.all fun o => calmOp o.op then joinTs (K.sp f) s.H ((evRegion K (evCallBy K (fun g c s => evCode K n g c s)) (100 * f) ops draw s).bind fun s' => .leaf (.normal, ⟨trimT (liveF K.P f) s'.ts, s'.H⟩))
      else joinAt (K.sp f) s.H.length ((evRegion K (evCallBy K (fun g c s => evCode K n g c s)) (100 * f) ops draw s).bind fun s' => .leaf (.normal, ⟨trimT (liveF K.P f) s'.ts, s'.H⟩))
    | _ => .fail (100 * f + 82)

/-- A call met by its body. -/
noncomputable def evFn (K : Ctx) (n : Nat) (f : FuncId) (vs : List C) (H : List Blk) : T (C × List Blk) := evFnBy K (fun c s => evCode K n f c s) f vs H

end Go.Sx
