/-
  The rounds of TopTimer: what is asked of each, and what it says. No condition.
-/
import Derived.Test.YtnlgfccjohhcmaaGreatDoorTopDef
namespace Go.Sx

/-! ### Trees with one way -/

noncomputable def beqS (a b : List (Nat × E)) : Bool :=
  match a with
  | [] => (match b with | [] => true | _ => false)
  | p :: a => match b with
    | q :: b => (Nat.beq p.1 q.1 && p.2.beq q.2) && beqS a b
    | [] => false

theorem beqS_eq : ∀ {a b : List (Nat × E)}, beqS a b = true → a = b := by
  intro a
  induction a with
  | nil => intro b h; cases b with
    | nil => rfl
    | cons => simp [beqS] at h
  | cons p a ih =>
    intro b h
    cases b with
    | nil => simp [beqS] at h
    | cons q b =>
      simp only [beqS, Bool.and_eq_true] at h
      obtain ⟨⟨h1, h2⟩, h3⟩ := h
      have h1 := Nat.eq_of_beq_eq_true h1
      have h2 := E.beq_eq h2
      rw [ih h3]
      congr 1
      exact Prod.ext h1 h2

/-- One way, that goes on to the pattern. -/
noncomputable def runTo (base : Nat) (pat : St) (σ0 : List (Nat × E)) (nd : E) : T (X × St) → Bool
  | .leaf r => match r.1 with
    | .normal => (match matchSt base pat r.2 with
      | some σ => beqS σ σ0
      | none => false)
    | _ => false
  | .br _ _ _ => false
  | .both _ _ => false
  | .need d t => d.beq nd && runTo base pat σ0 nd t
  | .fail _ => false

theorem runTo_sat {base : Nat} {pat : St} {σ0 : List (Nat × E)} {nd : E} {env : Env} (hn : nd.tt env = true) : ∀ {t : T (X × St)}, runTo base pat σ0 nd t = true →
    t.sat env (fun r => r.1 = .normal ∧ matchSt base pat r.2 = some σ0) := by
  intro t
  induction t with
  | leaf r =>
    intro h
    obtain ⟨x, s⟩ := r
    cases x <;> simp only [runTo] at h <;> first | cases h | skip
    split at h
    · rename_i σ hσ
      exact ⟨rfl, by rw [← beqS_eq h]; exact hσ⟩
    · cases h
  | br c a b iha ihb => intro h; simp [runTo] at h
  | both a b iha ihb => intro h; simp [runTo] at h
  | need d t ih =>
    intro h
    simp only [runTo, Bool.and_eq_true] at h
    have h1 := E.beq_eq h.1
    subst h1
    exact ⟨hn, ih h.2⟩
  | fail n => intro h; simp [runTo] at h

/-- Every way ends in the constant true. -/
noncomputable def endT (P : Program) (fn : Func) : T (X × St) → Bool
  | .leaf r => ((match r.1 with | .exit _ => false | _ => true) && noD r.2.ts.d) && (match evResults P fn.results.toList r.2 with
    | some (.bool (.lit n)) => !intBeq n 0
    | _ => false)
  | .br _ a b => endT P fn a && endT P fn b
  | .both a b => endT P fn a && endT P fn b
  | .need _ _ => false
  | .fail _ => false

theorem endT_sat {P : Program} {fn : Func} {env : Env} : ∀ {t : T (X × St)}, endT P fn t = true → t.sat env (EndOk P fn env) := by
  intro t
  induction t with
  | leaf r =>
    intro h
    simp only [endT, Bool.and_eq_true] at h
    obtain ⟨⟨h1, h0⟩, h2⟩ := h
    refine ⟨fun id hid => by rw [hid] at h1; simp at h1, noD_eq h0, ?_⟩
    split at h2
    · rename_i n he
      exact ⟨_, he, by rw [tt_lit]; exact h2⟩
    · cases h2
  | br c a b iha ihb => intro h; simp only [endT, Bool.and_eq_true] at h; exact ⟨fun _ => iha h.1, fun _ => ihb h.2⟩
  | both a b iha ihb => intro h; simp only [endT, Bool.and_eq_true] at h; exact ⟨iha h.1, ihb h.2⟩
  | need c t ih => intro h; simp [endT] at h
  | fail n => intro h; simp [endT] at h

/-- One way, that leaves the loop and ends in true. -/
noncomputable def runEnd (P : Program) (K : Ctx) (n : Nat) (f : FuncId) (fn : Func) (frs : List Fr) : T (X × St) → Bool
  | .leaf r => match r.1 with
    | .normal => false
    | x => endT P fn (evFrs K n f frs (x, r.2))
  | _ => false

theorem runEnd_sat {P : Program} {K : Ctx} {n : Nat} {f : FuncId} {fn : Func} {frs : List Fr} {env : Env} {next : St → Prop} {t : T (X × St)} (h : runEnd P K n f fn frs t = true) : t.sat env (RoundEnd P K n f fn frs env next) := by
  unfold runEnd at h
  split at h
  · rename_i r
    obtain ⟨x, s⟩ := r
    cases x with
    | normal => cases h
    | exit id => exact endT_sat h
    | ret => exact endT_sat h
  · cases h

/-- One way, to the loop. -/
noncomputable def runStart (base : Nat) (pat : St) (σ0 : List (Nat × E)) : T (Bool × X × St) → Bool
  | .leaf r => r.1 && (match matchSt base pat r.2.2 with
      | some σ => beqS σ σ0
      | none => false)
  | _ => false

theorem runStart_sat {base : Nat} {pat : St} {σ0 : List (Nat × E)} {env : Env} {P : Program} {fn : Func} {next : St → Prop} {t : T (Bool × X × St)} (h : runStart base pat σ0 t = true) (hn : ∀ s, matchSt base pat s = some σ0 → next s) :
    t.sat env (ToEnd P fn env next) := by
  unfold runStart at h
  split at h
  · rename_i r
    simp only [Bool.and_eq_true] at h
    obtain ⟨h1, h2⟩ := h
    show ToEnd P fn env next r
    unfold ToEnd
    rw [if_pos h1]
    split at h2
    · rename_i σ hσ
      exact hn _ (by rw [← beqS_eq h2]; exact hσ)
    · cases h2
  · cases h

/-- The counter is in the slice's bounds. -/
def inBounds (ci sl : Nat) : E := .ite (.bin .lss .i64 (.var ci) (.lit 0)) (.lit 0) (.bin .lss .i64 (.var ci) (.slen sl))

theorem inBounds_tt {env : Env} {ci sl : Nat} (h0 : 0 ≤ env.v ci) (h1 : env.v ci < ((env.sl sl).2.1 : Int)) : (inBounds ci sl).tt env = true := by
  unfold inBounds
  have e1 : (E.bin .lss .i64 (.var ci) (.lit 0)).tt env = decide (env.v ci < 0) := b2i_dec _
  have e2 : (E.bin .lss .i64 (.var ci) (.slen sl)).tt env = decide (env.v ci < ((env.sl sl).2.1 : Int)) := b2i_dec _
  rw [tt_ite, e1, e2, decide_eq_false (by omega), decide_eq_true h1]; rfl

end Go.Sx

namespace Go.Top
open Go.Sx

noncomputable def fn3 : Func := match P.funcs[3]? with | some f => f | none => default
noncomputable def code3 : Code := match fn3.body with | some c => c | none => .skip
noncomputable def foc3 : List Fr × Code := match focus code3 [] with | some r => r | none => ([], .skip)

/-- What is known in the c-th case of the i-th pattern. -/
def eqsR (i c : Nat) : List (E × E) :=
  if Nat.blt i 4 then (match c with | 0 => eqsT 0 0 1 0 | 1 => eqsT 1 0 1 0 | _ => eqsT 1 1 0 1) else (match c with | 0 => eqsT 0 0 0 1 | 1 => eqsT 0 1 0 1 | _ => eqsT 1 0 0 1)
/-- The pattern that follows. -/
def nx (i c : Nat) : Nat :=
  if Nat.blt i 4 then (match c with | 0 => i | 1 => i | _ => if Nat.blt i 2 then 4 else 5) else i
/-- The world ticks. -/
def tk (i c : Nat) : Bool := if Nat.blt i 4 then (match c with | 0 => false | _ => true) else (match c with | 0 => false | 1 => false | _ => true)
/-- A step is taken. -/
def st (i c : Nat) : Bool := match i with | 0 => Nat.blt c 2 | 1 => false | 2 => Nat.blt c 2 | 3 => false | _ => true
def w12 (i c : Nat) : List (Nat × E) :=
  if Nat.blt i 4 then (match c with | 0 => [] | 1 => [] | _ => [(12, .lit (match i with | 0 => 0 | 2 => 0 | _ => 1))]) else [(12, .var 12)]
def up (k : IntKind) (j : Nat) (b : Bool) : Nat × E := (j, if b then .bin .add k (.var j) (.lit 1) else .var j)
/-- What the variables become. -/
def sgR (i c : Nat) : List (Nat × E) :=
  [up .i64 11 true, up .u64 10 (st i c), up .u64 9 true, up .u64 7 (tk i c), up .u64 8 false] ++ w12 i c ++ [up .i64 6 true, up .i64 5 (tk i c), up .i64 4 false]

/-- The row that the Hart answers. -/
noncomputable def rowR (i c : Nat) : C :=
  if st i c then rowC 1 (modeI i) (pcI i) 111 4 0 (pcI i) (modeI i) else if Nat.blt c 2 then rowC 4 (modeI i) (pcI i) 0 0 0 (pcI i) (modeI i) else rowC 3 (modeI i) (pcI i) 0 0 9223372036854775815 pcB 3
def tkI (i c : Nat) : Int := if tk i c then 1 else 0
noncomputable def vs9 (i c : Nat) : List C := [agg (cpuI i), .ptr 6 0, wdC (tkI i c)]
noncomputable def v9 (i c : Nat) : C := tup [agg (cpuIE (nx i c) (up .u64 9 true).2 (up .u64 10 (st i c)).2), rowR i c]
noncomputable def H9 (i c : Nat) : List Blk := hb i (nowE (tkI i c))
/-- A step of the Hart. -/
noncomputable def memo9 (i c : Nat) : MemoH := ⟨9, vs9 i c, (pat i).H, v9 i c, H9 i c⟩
noncomputable def step9 (i c : Nat) : Bool := leafH (v9 i c) (H9 i c) (evFn (ctx (eqsR i c) (memo1 i) []) 1000 9 (vs9 i c) (pat i).H)

/-- Calls without memory, run. -/
noncomputable def memoOk (K : Ctx) (n : Nat) : Memo → Bool
  | [] => true
  | e :: m => (e.2.1.all (C.clean 0) && (C.clean 0 e.2.2 && leafV e.2.2 (evFn K n e.1 e.2.1 []))) && memoOk K n m
noncomputable def pure1 (i : Nat) : Bool := memoOk (ctx [] [] []) 1000 (memo1 i)

noncomputable def ctxR (i c : Nat) : Ctx := ctx (eqsR i c) [] [memo9 i c]
noncomputable def round (i c : Nat) : Bool := runTo 4 (pat (nx i c)) (sgR i c) (inBounds 6 3) (evCode (ctxR i c) 1000 3 foc3.2 (pat i))
noncomputable def ctxX (e60 : Bool) : Ctx := ctx (if e60 then [(.bin .lss .i64 (.var 6) (.slen 3), .lit 1), (.bin .lss .i64 (.var 6) (.lit 60), .lit 0)] else [(.bin .lss .i64 (.var 6) (.slen 3), .lit 0)]) [] []
noncomputable def exit (i : Nat) (e60 : Bool) : Bool := runEnd P (ctxX e60) 1000 3 fn3 foc3.1 (evCode (ctxX e60) 1000 3 foc3.2 (pat i))


/-! ### The start -/

def kds : List Kd := [.num (some .i64), .num none, .num none, .sl [.num none, .num none, .num none, .inp]]
noncomputable def cs0 : List C := match argsC P [24] 0 with | some r => r.1 | none => []
def v1I (i : Nat) : Int := match i with | 0 => 0 | 1 => 0 | _ => 1
def v2I (i : Nat) : Int := match i with | 0 => 0 | 2 => 0 | _ => 1
noncomputable def csI (i : Nat) : List C := (cs0.map (C.fix (.var 1) (v1I i))).map (C.fix (.var 2) (v2I i))
def absE : E := .ite (.bin .lss .i64 (.var 0) (.lit 0)) (.bin .sub .i64 (.lit 0) (.bin .add .i64 (.var 0) (.lit 1))) (.var 0)
/-- The number of ticks up to the timer's. -/
def numE : E := .bin .add .i64 (.lit 1) (.bin .rem .i64 absE (.lit 20))
def sg0 : List (Nat × E) := [(11, .lit 0), (10, .lit 0), (9, .lit 0), (7, .lit 100), (8, .bin .add .u64 (.lit 100) (.conv .u64 numE)), (6, .lit 0), (5, .lit 0), (4, numE)]
noncomputable def ctx0 : Ctx := ctx [] [] []
noncomputable def start (i : Nat) : Bool := runStart 4 (pat i) sg0 (evTo ctx0 1000 3 code3 [] ⟨Ts.start (csI i) fn3.ntmps, []⟩)

end Go.Top
