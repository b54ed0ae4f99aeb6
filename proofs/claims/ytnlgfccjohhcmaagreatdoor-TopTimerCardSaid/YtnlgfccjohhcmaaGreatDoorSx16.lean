/-
  The symbolic executor: rules by which terms are rewritten, whatever the variables mean. No condition.
-/
import Derived.Test.YtnlgfccjohhcmaaGreatDoorSx15
namespace Go.Sx

/-- A test: its number is 0 or 1. -/
def isTest (e : E) : Bool :=
  match e with
  | .bin o _ _ _ => match o with
    | .eql => true
    | .lss => true
    | _ => false
  | _ => false

/-- 'if c then x else y'. -/
def iteL (c : E) (x y : Int) : E :=
  if intBeq x y then .lit x else if isTest c then
    if intBeq x 1 && intBeq y 0 then c else if intBeq x 0 && intBeq y 1 then (match unNot c with
      | some c' => if isTest c' then c' else .bin .eql .i64 c (.lit 0)
      | none => .bin .eql .i64 c (.lit 0)) else .ite c (.lit x) (.lit y)
  else .ite c (.lit x) (.lit y)

noncomputable def mgL (c a b : E) : E :=
  match a with
  | .lit x => match b with
    | .lit y => iteL c x y
    | _ => .ite c a b
  | _ => if a.beq b then a else .ite c a b

/-- A function on the numbers that a term may be. -/
noncomputable def mapL (f : Int → Int) : E → Option E
  | .lit n => some (.lit (f n))
  | .ite c a b => match mapL f a with
    | some a' => match mapL f b with
      | some b' => some (mgL c a' b')
      | none => none
    | none => none
  | _ => none

def andI (k : IntKind) (m n : Int) : Int := ((BitVec.ofInt k.bits m &&& BitVec.ofInt k.bits n).toNat : Int)
def complI (k : IntKind) (n : Int) : Int := ((~~~ BitVec.ofInt k.bits n).toNat : Int)

/-- A mask laid over what is masked already. -/
noncomputable def pushMask (k : IntKind) (n : Int) : E → Option E
  | .lit m => some (.lit (binDen .and k m n))
  | .bin o k' x z => match z with
    | .lit m => if sameOp o .and && sameKind k k' then some (.bin .and k x (.lit (andI k m n))) else none
    | _ => none
  | .ite c a b => match pushMask k n a with
    | some a' => match pushMask k n b with
      | some b' => some (mgL c a' b')
      | none => none
    | none => none
  | _ => none

noncomputable def andLit (k : IntKind) (a : E) (n : Int) : E :=
  match pushMask k n a with
  | some r => r
  | none => .bin .and k a (.lit n)

noncomputable def nrmC (e : E) : E :=
  match e with
  | .bin o k a b => match b with
    | .lit z => match mapL (fun x => binDen o k x z) a with
      | some r => r
      | none => match o with
        | .andNot => andLit k a (complI k z)
        | .and => andLit k a z
        | _ => e
    | _ => match a with
      | .lit z => match mapL (fun x => binDen o k z x) b with
        | some r => r
        | none => match o with
          | .mul => if intBeq z 4 then .bin .shl k b (.lit 2) else e
          | .and => andLit k b z
          | _ => e
      | _ => e
  | .conv k a => match mapL k.wrap a with
    | some r => r
    | none => e
  | e => e

/-- The denial of a test. -/
def ntG (d : E) : E :=
  match d with
  | .lit n => if intBeq n 0 then .lit 1 else .lit 0
  | _ => match unNot d with
    | some d' => if isTest d' then d' else .bin .eql .i64 d (.lit 0)
    | none => .bin .eql .i64 d (.lit 0)

noncomputable def nrmG (e : E) : E :=
  match unNot e with
  | some c => if isTest c then ntG (nrmC c) else nrmC e
  | none => nrmC e

section
variable {env : Env}

theorem den_bin (o : BinOp) (k : IntKind) (a b : E) : (E.bin o k a b).den env = binDen o k (a.den env) (b.den env) := rfl
theorem den_conv (k : IntKind) (a : E) : (E.conv k a).den env = k.wrap (a.den env) := rfl

theorem b2i_tt (b : Bool) : b2i b = b2i (decide (b2i b ≠ 0)) := by cases b <;> decide

theorem isTest_den {e : E} (h : isTest e = true) : e.den env = b2i (e.tt env) := by
  unfold isTest at h
  split at h
  · split at h
    · simp only [E.tt, den_bin, binDen]; exact b2i_tt _
    · simp only [E.tt, den_bin, binDen]; exact b2i_tt _
    · cases h
  · cases h

theorem iteL_den (c : E) (x y : Int) : (iteL c x y).den env = if c.tt env then x else y := by
  unfold iteL
  have hnot : ∀ {d : E}, isTest d = true → (E.bin .eql .i64 d (.lit 0)).den env = b2i (!d.tt env) := fun {d} hd => by
    rw [den_bin, isTest_den hd]; cases d.tt env <;> rfl
  split
  · rename_i h; rw [intBeq_iff.1 h, den_lit]; simp
  · split
    · rename_i hc
      split
      · rename_i h; simp only [Bool.and_eq_true, intBeq_iff] at h; obtain ⟨rfl, rfl⟩ := h; rw [isTest_den hc]; cases c.tt env <;> rfl
      · split
        · rename_i h; simp only [Bool.and_eq_true, intBeq_iff] at h; obtain ⟨rfl, rfl⟩ := h
          split
          · rename_i c' hu
            split
            · rename_i hc'; rw [isTest_den hc', unNot_tt hu]; cases c'.tt env <;> rfl
            · rw [hnot hc]; cases c.tt env <;> rfl
          · rw [hnot hc]; cases c.tt env <;> rfl
        · rw [den_ite]; rfl
    · rw [den_ite]; rfl

theorem mgL_den (c a b : E) : (mgL c a b).den env = if c.tt env then a.den env else b.den env := by
  unfold mgL
  split
  · split
    · exact iteL_den ..
    · exact den_ite ..
  · split
    · rename_i h; rw [E.beq_eq h]; simp
    · exact den_ite ..

theorem mapL_den {f : Int → Int} : ∀ {e r : E}, mapL f e = some r → r.den env = f (e.den env) := by
  intro e
  induction e with
  | lit n => intro r h; simp only [mapL, Option.some.injEq] at h; subst h; rfl
  | ite c a b _ iha ihb =>
    intro r h
    simp only [mapL] at h
    split at h
    · rename_i a' ha
      split at h
      · rename_i b' hb
        simp only [Option.some.injEq] at h; subst h
        rw [mgL_den, den_ite, iha ha, ihb hb]
        cases c.tt env <;> rfl
      · cases h
    · cases h
  | _ => intro r h; simp [mapL] at h

theorem ofInt_wrap (k : IntKind) (n : Int) : BitVec.ofInt k.bits (k.wrap n) = BitVec.ofInt k.bits n := by
  apply BitVec.eq_of_toNat_eq
  rw [BitVec.toNat_ofInt, BitVec.toNat_ofInt]
  congr 1
  cases k <;> simp [IntKind.wrap, IntKind.signed, IntKind.bits] <;> (try split) <;> omega

theorem ofInt_toNat {w : Nat} (x : BitVec w) : BitVec.ofInt w (x.toNat : Int) = x := by
  rw [BitVec.ofInt_natCast, BitVec.ofNat_toNat, BitVec.setWidth_eq]

theorem pushMask_den {k : IntKind} {n : Int} : ∀ {e r : E}, pushMask k n e = some r → r.den env = binDen .and k (e.den env) n := by
  intro e
  induction e with
  | lit m => intro r h; simp only [pushMask, Option.some.injEq] at h; subst h; rfl
  | bin o k' x z _ _ =>
    intro r h
    simp only [pushMask] at h
    split at h
    · split at h
      · rename_i hc
        simp only [Option.some.injEq] at h; subst h
        simp only [Bool.and_eq_true, sameOp_iff, sameKind_iff] at hc
        obtain ⟨rfl, rfl⟩ := hc
        simp only [den_bin, den_lit, binDen, andI]
        congr 2
        rw [ofInt_wrap]
        rw [ofInt_toNat, ofInt_toNat, BitVec.and_assoc]
      · cases h
    · cases h
  | ite c a b _ iha ihb =>
    intro r h
    simp only [pushMask] at h
    split at h
    · rename_i a' ha
      split at h
      · rename_i b' hb
        simp only [Option.some.injEq] at h; subst h
        rw [mgL_den, den_ite, iha ha, ihb hb]
        cases c.tt env <;> rfl
      · cases h
    · cases h
  | _ => intro r h; simp [pushMask] at h

theorem andLit_den (k : IntKind) (a : E) (n : Int) : (andLit k a n).den env = binDen .and k (a.den env) n := by
  unfold andLit
  split
  · rename_i r h; exact pushMask_den h
  · rfl

theorem nrmC_den (e : E) : (nrmC e).den env = e.den env := by
  unfold nrmC
  split
  · rename_i o k a b
    split
    · rename_i z
      split
      · rename_i r hr; rw [mapL_den hr]; rfl
      · split
        · rw [andLit_den, den_bin]; simp only [binDen, complI, den_lit]
          congr 2
          rw [ofInt_toNat]
        · rw [andLit_den, den_bin]; rfl
        · rfl
    · split
      · rename_i z _
        split
        · rename_i r hr; rw [mapL_den hr]; rfl
        · split
          · split
            · rename_i h; rw [intBeq_iff.1 h]; simp only [den_bin, den_lit, binDen]
              congr 1
              have : min (2 : Int).toNat k.bits = 2 := by cases k <;> rfl
              rw [this]; omega
            · rfl
          · rw [andLit_den, den_bin]; simp only [binDen, den_lit]; rw [BitVec.and_comm]
          · rfl
      · rfl
  · rename_i k a
    split
    · rename_i r hr; rw [mapL_den hr]; rfl
    · rfl
  · rfl

theorem unNot_den {e c : E} (h : unNot e = some c) : e.den env = b2i (!c.tt env) := by
  have h1 := unNot_tt (env := env) h
  have h2 : isTest e = true := by
    unfold unNot at h
    split at h
    · split at h
      · split at h
        · rename_i hc
          simp only [Bool.and_eq_true, sameOp_iff] at hc
          rw [hc.1]; rfl
        · cases h
      · cases h
    · cases h
  rw [isTest_den h2, h1]

theorem ntG_den (d : E) : (ntG d).den env = b2i (!d.tt env) := by
  have hz : (E.bin .eql .i64 d (.lit 0)).den env = b2i (!d.tt env) := by
    rw [den_bin]
    show b2i (d.den env == 0) = _
    by_cases h : d.den env = 0
    · simp [E.tt, h]
    · have : (d.den env == 0) = false := by simpa using h
      rw [this]; simp [E.tt, h]
  unfold ntG
  split
  · rename_i n
    rw [tt_lit]
    cases h : intBeq n 0 <;> simp [den_lit, b2i]
  · split
    · rename_i d' h
      split
      · rename_i ht; rw [isTest_den ht, unNot_tt h]; simp
      · exact hz
    · exact hz

theorem nrmG_den (e : E) : (nrmG e).den env = e.den env := by
  unfold nrmG
  split
  · rename_i c h
    split
    · rw [ntG_den, unNot_den h, E.tt, nrmC_den, E.tt]
    · exact nrmC_den e
  · exact nrmC_den e

end
end Go.Sx
