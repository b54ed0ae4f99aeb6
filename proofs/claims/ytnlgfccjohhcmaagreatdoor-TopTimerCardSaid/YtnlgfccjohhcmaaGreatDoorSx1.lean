/-
  The data of a symbolic executor for the model's code: terms over whole numbers, values, blocks, trees of ways. No condition.
-/
import Derived.WalkKit

namespace Go.Sx

/-- A term over whole numbers (a bool is a number: 0 is false). 'cons' and 'nil' make a list of terms. -/
inductive E where
  | lit (n : Int)
  | var (i : Nat)
  | slen (i : Nat)
  | bin (o : BinOp) (k : IntKind) (a b : E)
  | conv (k : IntKind) (a : E)
  | ite (c a b : E)
  | app (f : Nat) (as : E)
  | cons (a b : E)
  | nil

/-- What the variables and the named functions mean. -/
structure Env where
  v : Nat → Int
  f : Nat → List Int → Int
  /-- the slices that came in -/
  sl : Nat → Option Addr × Nat × Nat
  /-- objects that stay as they are -/
  fz : Nat → Option Obj := fun _ => none
  /-- what is known of a value of which else nothing is known -/
  such : Nat → Value → Prop := fun _ _ => True

def b2i (b : Bool) : Int := if b then 1 else 0

/-- What the model's operations on two whole numbers of a kind yield (a test: 1 or 0). -/
def binDen (o : BinOp) (k : IntKind) (x y : Int) : Int :=
  match o with
  | .add => k.wrap (x + y)
  | .sub => k.wrap (x - y)
  | .mul => k.wrap (x * y)
  | .quo => k.wrap (x.tdiv y)
  | .rem => x.tmod y
  | .and => k.wrap (BitVec.ofInt k.bits x &&& BitVec.ofInt k.bits y).toNat
  | .or => k.wrap (BitVec.ofInt k.bits x ||| BitVec.ofInt k.bits y).toNat
  | .xor => k.wrap (BitVec.ofInt k.bits x ^^^ BitVec.ofInt k.bits y).toNat
  | .andNot => k.wrap (BitVec.ofInt k.bits x &&& ~~~BitVec.ofInt k.bits y).toNat
  | .shl => k.wrap (x * 2 ^ (min y.toNat k.bits))
  | .shr => x.fdiv (2 ^ (min y.toNat k.bits))
  | .eql => b2i (x == y)
  | .neq => b2i (x != y)
  | .lss => b2i (decide (x < y))
  | .leq => b2i (decide (x ≤ y))
  | .gtr => b2i (decide (x > y))
  | .geq => b2i (decide (x ≥ y))

/-- A number of its kind. -/
def InK (k : IntKind) (n : Int) : Prop := k.min ≤ n ∧ n ≤ k.max

def inKb (k : IntKind) (n : Int) : Bool := decide (k.min ≤ n) && decide (n ≤ k.max)

theorem inKb_iff {k : IntKind} {n : Int} : inKb k n = true ↔ InK k n := by simp [inKb, InK]

theorem inK_wrap (k : IntKind) (n : Int) : InK k (k.wrap n) := by
  cases k <;> simp [InK, IntKind.wrap, IntKind.min, IntKind.max, IntKind.signed, IntKind.bits] <;> (try split) <;> omega

theorem inK_tmod {k : IntKind} {x : Int} (h : InK k x) (y : Int) : InK k (x.tmod y) := by
  have h0 : k.min ≤ 0 ∧ 0 ≤ k.max := by cases k <;> decide
  obtain ⟨h1, h2⟩ := h
  rcases Int.le_total 0 x with hx | hx
  · have a := Int.tmod_nonneg y hx
    have b : x.tmod y ≤ x := by
      have h3 := Int.natAbs_tmod x y
      have h4 := Nat.mod_le x.natAbs y.natAbs
      omega
    exact ⟨by omega, by omega⟩
  · have a : x.tmod y ≤ 0 := by
      have := Int.tmod_nonneg y (show 0 ≤ -x by omega)
      rw [Int.neg_tmod] at this; omega
    have b : x ≤ x.tmod y := by
      have h3 := Int.natAbs_tmod x y
      have h4 := Nat.mod_le x.natAbs y.natAbs
      omega
    exact ⟨by omega, by omega⟩

theorem inK_fdiv {k : IntKind} {x : Int} (h : InK k x) (n : Nat) : InK k (x.fdiv (2 ^ n)) := by
  have h0 : k.min ≤ 0 ∧ 0 ≤ k.max := by cases k <;> decide
  obtain ⟨h1, h2⟩ := h
  have hp : (0 : Int) < 2 ^ n := Int.pow_pos (by omega)
  rw [Int.fdiv_eq_ediv_of_nonneg _ (Int.le_of_lt hp)]
  rcases Int.le_total 0 x with hx | hx
  · have a := Int.ediv_nonneg hx (Int.le_of_lt hp)
    have b := Int.ediv_le_self (2 ^ n) hx
    exact ⟨by omega, by omega⟩
  · have a : x / 2 ^ n ≤ 0 := by
      have := Int.ediv_le_ediv hp hx
      simpa using this
    have b : x ≤ x / 2 ^ n := by
      rw [Int.le_ediv_iff_mul_le hp]
      have : (1 : Int) ≤ 2 ^ n := hp
      have := Int.mul_le_mul_of_nonpos_left hx this
      simpa using this
    exact ⟨by omega, by omega⟩

/-- A term's number, and the list that it is. -/
def E.d (env : Env) : E → Int × List Int
  | .lit n => (n, [])
  | .var i => (env.v i, [])
  | .slen i => ((env.sl i).2.1, [])
  | .bin o k a b => (binDen o k (a.d env).1 (b.d env).1, [])
  | .conv k a => (k.wrap (a.d env).1, [])
  | .ite c a b => (if (c.d env).1 ≠ 0 then (a.d env).1 else (b.d env).1, [])
  | .app f as => (env.f f (as.d env).2, [])
  | .cons a b => (0, (a.d env).1 :: (b.d env).2)
  | .nil => (0, [])

def E.den (env : Env) (e : E) : Int := (e.d env).1
def E.tt (env : Env) (e : E) : Bool := decide (e.den env ≠ 0)

def intBeq (a b : Int) : Bool :=
  match a with
  | .ofNat m => match b with | .ofNat n => Nat.beq m n | .negSucc _ => false
  | .negSucc m => match b with | .ofNat _ => false | .negSucc n => Nat.beq m n

theorem intBeq_iff {a b : Int} : intBeq a b = true ↔ a = b := by
  cases a <;> cases b <;> simp [intBeq]
  omega
theorem intBeq_eq (a b : Int) : intBeq a b = decide (a = b) := by
  rw [Bool.eq_iff_iff, intBeq_iff]; simp

def opNo : BinOp → Nat
  | .add => 0 | .sub => 1 | .mul => 2 | .quo => 3 | .rem => 4 | .and => 5 | .or => 6 | .xor => 7 | .andNot => 8 | .shl => 9 | .shr => 10
  | .eql => 11 | .neq => 12 | .lss => 13 | .leq => 14 | .gtr => 15 | .geq => 16

def kindNo : IntKind → Nat
  | .i8 => 0 | .i16 => 1 | .i32 => 2 | .i64 => 3 | .u8 => 4 | .u16 => 5 | .u32 => 6 | .u64 => 7

def sameOp (a b : BinOp) : Bool := Nat.beq (opNo a) (opNo b)
def sameKind (a b : IntKind) : Bool := Nat.beq (kindNo a) (kindNo b)

theorem sameOp_iff {a b : BinOp} : sameOp a b = true ↔ a = b := by cases a <;> cases b <;> decide
theorem sameKind_iff {a b : IntKind} : sameKind a b = true ↔ a = b := by cases a <;> cases b <;> decide

/-- Are two terms the same term? -/
noncomputable def E.beq (a : E) : E → Bool :=
  @E.rec (fun _ => E → Bool)
    (fun n e => match e with | .lit m => intBeq n m | _ => false)
    (fun i e => match e with | .var j => Nat.beq i j | _ => false)
    (fun i e => match e with | .slen j => Nat.beq i j | _ => false)
    (fun o k _ _ iha ihb e => match e with | .bin o' k' a' b' => sameOp o o' && (sameKind k k' && (iha a' && ihb b')) | _ => false)
    (fun k _ iha e => match e with | .conv k' a' => sameKind k k' && iha a' | _ => false)
    (fun _ _ _ ihc iha ihb e => match e with | .ite c' a' b' => ihc c' && (iha a' && ihb b') | _ => false)
    (fun f _ ih e => match e with | .app g bs => Nat.beq f g && ih bs | _ => false)
    (fun _ _ iha ihb e => match e with | .cons a' b' => iha a' && ihb b' | _ => false)
    (fun e => match e with | .nil => true | _ => false) a

theorem E.beq_eq : ∀ {a b : E}, a.beq b = true → a = b := by
  intro a
  induction a with
  | lit n => intro b h; cases b <;> first | exact Bool.noConfusion h | (have h : intBeq _ _ = true := h; rw [intBeq_iff.1 h])
  | var i => intro b h; cases b <;> first | exact Bool.noConfusion h | (have h : Nat.beq _ _ = true := h; rw [Nat.eq_of_beq_eq_true h])
  | slen i => intro b h; cases b <;> first | exact Bool.noConfusion h | (have h : Nat.beq _ _ = true := h; rw [Nat.eq_of_beq_eq_true h])
  | bin o k a b iha ihb =>
    intro e h; cases e <;> first | exact Bool.noConfusion h | skip
    rename_i o' k' a' b'
    have h : (sameOp o o' && (sameKind k k' && (a.beq a' && b.beq b'))) = true := h
    simp only [Bool.and_eq_true, sameOp_iff, sameKind_iff] at h
    obtain ⟨rfl, rfl, h1, h2⟩ := h; rw [iha h1, ihb h2]
  | conv k a iha =>
    intro e h; cases e <;> first | exact Bool.noConfusion h | skip
    rename_i k' a'
    have h : (sameKind k k' && a.beq a') = true := h
    simp only [Bool.and_eq_true, sameKind_iff] at h
    obtain ⟨rfl, h1⟩ := h; rw [iha h1]
  | ite c a b ihc iha ihb =>
    intro e h; cases e <;> first | exact Bool.noConfusion h | skip
    rename_i c' a' b'
    have h : (c.beq c' && (a.beq a' && b.beq b')) = true := h
    simp only [Bool.and_eq_true] at h
    obtain ⟨h0, h1, h2⟩ := h; rw [ihc h0, iha h1, ihb h2]
  | app f as ih =>
    intro e h; cases e <;> first | exact Bool.noConfusion h | skip
    rename_i g bs
    have h : (Nat.beq f g && as.beq bs) = true := h
    simp only [Bool.and_eq_true] at h
    rw [Nat.eq_of_beq_eq_true h.1, ih h.2]
  | cons a b iha ihb =>
    intro e h; cases e <;> first | exact Bool.noConfusion h | skip
    rename_i a' b'
    have h : (a.beq a' && b.beq b') = true := h
    simp only [Bool.and_eq_true] at h
    rw [iha h.1, ihb h.2]
  | nil => intro e h; cases e <;> first | exact Bool.noConfusion h | rfl

/-! ### Terms made with their folding -/

def E.isLit : E → Option Int
  | .lit n => some n
  | _ => none

noncomputable def foldEq (o : BinOp) (k : IntKind) (a b : E) : E :=
  match o with
  | .eql => if a.beq b then .lit 1 else match a with
    | .lit x => .bin .eql k b (.lit x)
    | _ => .bin .eql k a b
  | .neq => if a.beq b then .lit 0 else match a with
    | .lit x => .bin .eql .i64 (.bin .eql k b (.lit x)) (.lit 0)
    | _ => .bin .eql .i64 (.bin .eql k a b) (.lit 0)
  | .gtr => .bin .lss k b a
  | .geq => .bin .eql .i64 (.bin .lss k a b) (.lit 0)
  | .leq => .bin .eql .i64 (.bin .lss k b a) (.lit 0)
  | _ => .bin o k a b

noncomputable def mkBin (o : BinOp) (k : IntKind) (a b : E) : E :=
  match a with
  | .lit x => match b with
    | .lit y => .lit (binDen o k x y)
    | _ => foldEq o k a b
  | _ => foldEq o k a b

def mkConv (k : IntKind) (a : E) : E :=
  match a with
  | .lit x => .lit (k.wrap x)
  | _ => .conv k a

/-- What a term denies, if it is a denial. -/
def unNot (c : E) : Option E :=
  match c with
  | .bin o k c' z => match z with
    | .lit n => if sameOp o .eql && (sameKind k .i64 && intBeq n 0) then some c' else none
    | _ => none
  | _ => none

def notE (c : E) : E :=
  match c with
  | .lit n => if intBeq n 0 then .lit 1 else .lit 0
  | _ => match unNot c with
    | some c' => c'
    | none => .bin .eql .i64 c (.lit 0)

/-- What 'a' is where 'c' says that it is a number. -/
noncomputable def eqLit0 (c a : E) : E :=
  match c with
  | .bin o _ x z => match z with
    | .lit n => match o with
      | .eql => if x.beq a then .lit n else a
      | _ => a
    | _ => a
  | _ => a

/-- What 'a' is where 'c' holds. -/
noncomputable def eqLit (c a : E) : E :=
  match a with
  | .ite d x _ => if c.beq d then x else a
  | _ => eqLit0 c a

/-- What 'b' is where 'c' does not hold. -/
noncomputable def neLit (c b : E) : E :=
  match b with
  | .ite d _ y => if c.beq d then y else b
  | _ => b

/-- 'if c then a else b'. -/
noncomputable def mkIte (c a b : E) : E :=
  match c with
  | .lit n => if intBeq n 0 then b else a
  | _ => if a.beq b then a else match unNot c with
    | some c' => .ite c' (eqLit c' b) (neLit c' a)
    | none => .ite c (eqLit c a) (neLit c b)

/-- The same, of two bools: what counts is whether it is 0. -/
def iteB (c a b : E) : E :=
  match a with
  | .lit x => match b with
    | .lit y => if intBeq x 0 then (if intBeq y 0 then .lit 0 else notE c) else (if intBeq y 0 then c else .lit 1)
    | _ => .ite c a b
  | _ => .ite c a b

/-- A bool where 'c' holds. -/
noncomputable def tLit (c a : E) : E :=
  if c.beq a then .lit 1 else match unNot a with
    | some a' => if c.beq a' then .lit 0 else eqLit c a
    | none => eqLit c a

/-- A bool where 'c' does not hold. -/
noncomputable def fLit (c b : E) : E :=
  if c.beq b then .lit 0 else match unNot b with
    | some b' => if c.beq b' then .lit 1 else neLit c b
    | none => neLit c b

/-- 'if c then a else b' of two bools, with folding. -/
noncomputable def mkIteB (c a b : E) : E :=
  match c with
  | .lit n => if intBeq n 0 then b else a
  | _ => if a.beq b then a else match unNot c with
    | some c' => iteB c' (tLit c' b) (fLit c' a)
    | none => iteB c (tLit c a) (fLit c b)

/-- What is no test yields a number of its kind. -/
theorem binDen_in {o : BinOp} {k : IntKind} {x : Int} (h : InK k x) (y : Int) (ho : o ≠ .eql ∧ o ≠ .neq ∧ o ≠ .lss ∧ o ≠ .leq ∧ o ≠ .gtr ∧ o ≠ .geq) : InK k (binDen o k x y) := by
  cases o <;> simp only [binDen] <;> first | exact inK_wrap _ _ | exact inK_tmod h y | exact inK_fdiv h _ | simp at ho

theorem den_lit (env : Env) (n : Int) : (E.lit n).den env = n := rfl

theorem b2i_eq0 (b : Bool) : b2i (b2i b == 0) = b2i (!b) := by cases b <;> rfl

theorem foldEq_den (env : Env) (o : BinOp) (k : IntKind) (a b : E) : (foldEq o k a b).den env = binDen o k (a.den env) (b.den env) := by
  have hne : ∀ x y : Int, (!(x == y)) = (x != y) := fun x y => rfl
  have hsw : ∀ x y : Int, (y == x) = (x == y) := fun x y => by
    rw [Bool.eq_iff_iff, beq_iff_eq, beq_iff_eq]; exact ⟨Eq.symm, Eq.symm⟩
  have hle : ∀ x y : Int, (!decide (x < y)) = decide (y ≤ x) := fun x y => by
    by_cases h : x < y
    · have : ¬ y ≤ x := by omega
      simp [h]
    · have : y ≤ x := by omega
      simp [h, this]
  unfold foldEq
  split
  · split
    · rename_i h; rw [E.beq_eq h]; simp [E.den, E.d, binDen, b2i]
    · split
      · simp only [E.den, E.d, binDen]; rw [hsw]
      · rfl
  · split
    · rename_i h; rw [E.beq_eq h]; simp [E.den, E.d, binDen, b2i]
    · split
      · simp only [E.den, E.d, binDen]; rw [b2i_eq0, hsw, hne]
      · simp only [E.den, E.d, binDen]; rw [b2i_eq0, hne]
  · simp only [E.den, E.d, binDen]; rfl
  · simp only [E.den, E.d, binDen]; rw [b2i_eq0, hle]; first | rfl | done
  · simp only [E.den, E.d, binDen]; rw [b2i_eq0, hle]; first | rfl | done
  · rfl

theorem mkBin_den (env : Env) (o : BinOp) (k : IntKind) (a b : E) : (mkBin o k a b).den env = binDen o k (a.den env) (b.den env) := by
  unfold mkBin
  split
  · split
    · rfl
    · exact foldEq_den ..
  · exact foldEq_den ..

theorem mkConv_den (env : Env) (k : IntKind) (a : E) : (mkConv k a).den env = k.wrap (a.den env) := by
  unfold mkConv
  split <;> rfl


theorem tt_true {env : Env} {e : E} : e.tt env = true ↔ e.den env ≠ 0 := by simp [E.tt]
theorem tt_false {env : Env} {e : E} : e.tt env = false ↔ e.den env = 0 := by simp [E.tt]

theorem tt_lit (env : Env) (n : Int) : (E.lit n).tt env = !intBeq n 0 := by
  by_cases h : n = 0 <;> simp [E.tt, E.den, E.d, intBeq_eq, h]

theorem tt_ite (env : Env) (c a b : E) : (E.ite c a b).tt env = if c.tt env then a.tt env else b.tt env := by
  by_cases hc : (c.d env).1 = 0
  · rw [if_neg (by simp [E.tt, E.den, hc])]
    show decide ((if (c.d env).1 ≠ 0 then (a.d env).1 else (b.d env).1) ≠ 0) = decide ((b.d env).1 ≠ 0)
    rw [if_neg (by simp [hc])]
  · rw [if_pos (by simp [E.tt, E.den, hc])]
    show decide ((if (c.d env).1 ≠ 0 then (a.d env).1 else (b.d env).1) ≠ 0) = decide ((a.d env).1 ≠ 0)
    rw [if_pos hc]

theorem unNot_tt {env : Env} {c c' : E} (h : unNot c = some c') : c.tt env = !c'.tt env := by
  unfold unNot at h
  split at h
  · split at h
    · split at h
      · rename_i hc
        simp only [Option.some.injEq] at h; subst h
        simp only [Bool.and_eq_true, sameOp_iff, sameKind_iff, intBeq_iff] at hc
        obtain ⟨rfl, rfl, rfl⟩ := hc
        rename_i e1 _ _
        simp only [E.tt, E.den, E.d, binDen, b2i]
        rename_i e2 _
        by_cases h0 : (e2.d env).1 = 0 <;> simp [h0]
      · cases h
    · cases h
  · cases h

theorem notE_tt (env : Env) (c : E) : (notE c).tt env = !c.tt env := by
  unfold notE
  split
  · rename_i n
    rw [tt_lit]
    cases h : intBeq n 0 <;> simp [E.tt, E.den, E.d]
  · split
    · rename_i h; rw [unNot_tt h]; simp
    · by_cases hc : (c.d env).1 = 0 <;> simp [E.tt, E.den, E.d, binDen, b2i, hc]

theorem den_ite (env : Env) (c a b : E) : (E.ite c a b).den env = if c.tt env then a.den env else b.den env := by
  by_cases hc : (c.d env).1 = 0 <;> simp [E.den, E.d, E.tt, hc]

theorem eqLit0_den {env : Env} {c : E} (h : c.tt env = true) (a : E) : (eqLit0 c a).den env = a.den env := by
  unfold eqLit0
  split
  · split
    · split
      · split
        · rename_i hb
          rw [← E.beq_eq hb]
          simp only [E.tt, E.den, E.d, binDen, b2i] at h ⊢
          simp at h
          exact h.symm
        · rfl
      · rfl
    · rfl
  · rfl

theorem eqLit_den {env : Env} {c : E} (h : c.tt env = true) (a : E) : (eqLit c a).den env = a.den env := by
  unfold eqLit
  split
  · split
    · rename_i hb; rw [den_ite, ← E.beq_eq hb, h]; rfl
    · rfl
  · exact eqLit0_den h a

theorem neLit_den {env : Env} {c : E} (h : c.tt env = false) (a : E) : (neLit c a).den env = a.den env := by
  unfold neLit
  split
  · split
    · rename_i hb; rw [den_ite, ← E.beq_eq hb, h]; rfl
    · rfl
  · rfl

theorem eqLit_tt {env : Env} {c : E} (h : c.tt env = true) (a : E) : (eqLit c a).tt env = a.tt env := by rw [E.tt, eqLit_den h, E.tt]
theorem neLit_tt {env : Env} {c : E} (h : c.tt env = false) (a : E) : (neLit c a).tt env = a.tt env := by rw [E.tt, neLit_den h, E.tt]

theorem mkIte_den (env : Env) (c a b : E) : (mkIte c a b).den env = if c.tt env then a.den env else b.den env := by
  unfold mkIte
  split
  · rename_i n
    rw [tt_lit]
    cases h : intBeq n 0 <;> simp
  · split
    · rename_i h; rw [E.beq_eq h]; simp
    · split
      · rename_i c' h; rw [unNot_tt h, den_ite]; cases hc : c'.tt env <;> simp [eqLit_den, neLit_den, hc]
      · rw [den_ite]; cases hc : c.tt env <;> simp [eqLit_den, neLit_den, hc]

theorem iteB_tt (env : Env) (c a b : E) : (iteB c a b).tt env = if c.tt env then a.tt env else b.tt env := by
  unfold iteB
  split
  · split
    · rename_i x _ y
      simp only [tt_lit]
      cases hx : intBeq x 0 <;> cases hy : intBeq y 0 <;> cases hc : c.tt env <;> simp only [if_true, if_false, Bool.false_eq_true, Bool.not_true, Bool.not_false, tt_lit, notE_tt, hc, hx, hy] <;> rfl
    · exact tt_ite ..
  · exact tt_ite ..

theorem tLit_tt {env : Env} {c : E} (h : c.tt env = true) (a : E) : (tLit c a).tt env = a.tt env := by
  unfold tLit
  split
  · rename_i hb; rw [← E.beq_eq hb, h]; rfl
  · split
    · rename_i a' ha
      split
      · rename_i hb; rw [unNot_tt ha, ← E.beq_eq hb, h]; rfl
      · exact eqLit_tt h a
    · exact eqLit_tt h a

theorem fLit_tt {env : Env} {c : E} (h : c.tt env = false) (a : E) : (fLit c a).tt env = a.tt env := by
  unfold fLit
  split
  · rename_i hb; rw [← E.beq_eq hb, h]; rfl
  · split
    · rename_i a' ha
      split
      · rename_i hb; rw [unNot_tt ha, ← E.beq_eq hb, h]; rfl
      · exact neLit_tt h a
    · exact neLit_tt h a

theorem mkIteB_tt (env : Env) (c a b : E) : (mkIteB c a b).tt env = if c.tt env then a.tt env else b.tt env := by
  unfold mkIteB
  split
  · rename_i n
    rw [tt_lit]
    cases h : intBeq n 0 <;> simp
  · split
    · rename_i h; rw [E.beq_eq h]; simp
    · split
      · rename_i c' h; rw [unNot_tt h, iteB_tt]; cases hc : c'.tt env <;> simp [tLit_tt, fLit_tt, hc]
      · rw [iteB_tt]; cases hc : c.tt env <;> simp [tLit_tt, fLit_tt, hc]

end Go.Sx
