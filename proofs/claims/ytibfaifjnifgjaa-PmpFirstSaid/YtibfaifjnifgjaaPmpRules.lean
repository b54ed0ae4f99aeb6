/-
  Rules for the tests on Cfg bytes and on addresses. No condition.
-/
import Derived.Test.YtibfaifjnifgjaaCases
namespace Go.Proofs.Ytibfaifjnifgjaa
open Go.Sx Go.RowKit

/-- What a proper byte was made of. -/
def coreB (e : E) : Option E :=
  match e with
  | .app g l => match l with
    | .cons x r => match r with
      | .nil => if Nat.beq g 21 then some x else none
      | _ => none
    | _ => none
  | _ => none

theorem coreB_den {env : Env} (hF : EnvF Phi env) {e x : E} (h : coreB e = some x) : e.den env = byteF (x.den env) := by
  unfold coreB at h
  split at h
  · split at h
    · split at h
      · split at h
        · rename_i hg
          simp only [Option.some.injEq] at h; subst h
          have hg := Nat.eq_of_beq_eq_true hg; subst hg
          rw [app1_den, f21 hF]; rfl
        · cases h
      · cases h
    · cases h
  · cases h

/-- Is it a 54 bit address? -/
def isA54 (e : E) : Bool :=
  match e with
  | .lit n => intBeq n 0
  | .bin o k _ z => match z with
    | .lit m => sameOp o .and && (sameKind k .u64 && intBeq m 18014398509481983)
    | _ => false
  | _ => false

/-- An address times four. -/
def unShl (e : E) : Option E :=
  match e with
  | .lit n => if intBeq n 0 then some (.lit 0) else none
  | .bin o k x z => match z with
    | .lit m => if sameOp o .shl && (sameKind k .u64 && (intBeq m 2 && isA54 x)) then some x else none
    | _ => none
  | _ => none

def nrmP1 (e : E) : E :=
  match e with
  | .conv k a => match a with
    | .bin o1 k1 s z => match z with
      | .lit n => match s with
        | .bin o2 k2 c z2 => match z2 with
          | .lit m => if sameKind k .i64 && (sameOp o1 .and && (sameKind k1 .u8 && (intBeq n 3 && (sameOp o2 .shr && (sameKind k2 .u8 && intBeq m 3))))) then
              match coreB c with
              | some x => kindT x
              | none => e
            else e
          | _ => e
        | _ => e
      | _ => e
    | _ => e
  | .bin o k a z => match o with
    | .and => match z with
      | .lit n => match a with
        | .conv k1 s => match s with
          | .bin o2 k2 c z2 => match z2 with
            | .lit m => if sameKind k .i64 && (intBeq n 3 && (sameKind k1 .i64 && (sameOp o2 .shr && (sameKind k2 .u8 && intBeq m 3)))) then
                match coreB c with
                | some x => kindT x
                | none => e
              else e
            | _ => e
          | _ => e
        | _ => e
      | _ => e
    | .eql => match z with
      | .lit n => match a with
        | .bin o2 k2 c z2 => match z2 with
          | .lit m =>
            if sameKind k .u8 && (sameKind k2 .u8 && (intBeq n 0 && (sameOp o2 .and && intBeq m 128))) then
              match coreB c with
              | some x => lockT x
              | none => e
            else if sameKind k .u8 && (sameKind k2 .u8 && (intBeq n 1 && (sameOp o2 .shr && intBeq m 7))) then
              match coreB c with
              | some x => ntE (lockT x)
              | none => e
            else e
          | _ => e
        | _ => e
      | _ => e
    | .lss => if sameKind k .u64 then match unShl a with
        | some x => match unShl z with
          | some y => .bin .lss .u64 x y
          | none => e
        | none => e
      else e
    | _ => e
  | _ => e

/-- The same under a denial. -/
def nrmP (e : E) : E :=
  match unNot e with
  | some c => if isTest c then ntG (nrmP1 c) else nrmP1 e
  | none => nrmP1 e

/-! ### The bytes -/

theorem byte_lock_all : (List.range 256).all (fun n => decide ((lockT (.var 0)).den (envL [byteF n]) = (lockT (.var 0)).den (envL [(n : Int)])) && (decide ((E.bin .eql .u8 (.bin .shr .u8 (.var 0) (.lit 7)) (.lit 1)).den (envL [byteF n]) = (ntE (lockT (.var 0))).den (envL [(n : Int)])) &&
    (decide ((kindT (.var 0)).den (envL [byteF n]) = (kindT (.var 0)).den (envL [(n : Int)])) && decide ((E.bin .and .i64 (.conv .i64 (.bin .shr .u8 (.var 0) (.lit 3))) (.lit 3)).den (envL [byteF n]) = (kindT (.var 0)).den (envL [(n : Int)]))))) = true := by decide +kernel

def lowB (x : Int) : Nat := (BitVec.ofInt 8 x).toNat

theorem lock_low (x : Int) : (lockT (.var 0)).den (envL [x]) = (lockT (.var 0)).den (envL [(lowB x : Int)]) := by
  show b2i (binDen .and .u8 x 128 == 0) = b2i (binDen .and .u8 (lowB x : Int) 128 == 0)
  rw [and_u8, and_u8, lowB, ofInt_toNat]

theorem kind_low (x : Int) : (kindT (.var 0)).den (envL [x]) = (kindT (.var 0)).den (envL [(lowB x : Int)]) := by
  show IntKind.i64.wrap (binDen .and .u8 (binDen .shr .u8 x 3) 3) = IntKind.i64.wrap (binDen .and .u8 (binDen .shr .u8 (lowB x : Int) 3) 3)
  have key : ∀ y : Int, binDen .and .u8 (binDen .shr .u8 y 3) 3 = (y / 8) % 4 := fun y => by
    rw [and_u8]
    have e1 : binDen .shr .u8 y 3 = y / 8 := by
      show y.fdiv 8 = _
      exact Int.fdiv_eq_ediv_of_nonneg _ (by decide)
    rw [e1, BitVec.toNat_and, BitVec.toNat_ofInt, show (BitVec.ofInt 8 3).toNat = 2 ^ 2 - 1 from rfl, Nat.and_two_pow_sub_one_eq_mod]
    omega
  rw [key, key, lowB, BitVec.toNat_ofInt]
  congr 1
  omega

theorem byte_facts (x : Int) : (lockT (.var 0)).den (envL [byteF x]) = (lockT (.var 0)).den (envL [x]) ∧ (E.bin .eql .u8 (.bin .shr .u8 (.var 0) (.lit 7)) (.lit 1)).den (envL [byteF x]) = (ntE (lockT (.var 0))).den (envL [x]) ∧
    (kindT (.var 0)).den (envL [byteF x]) = (kindT (.var 0)).den (envL [x]) ∧ (E.bin .and .i64 (.conv .i64 (.bin .shr .u8 (.var 0) (.lit 3))) (.lit 3)).den (envL [byteF x]) = (kindT (.var 0)).den (envL [x]) := by
  have hlt : lowB x < 256 := (BitVec.ofInt 8 x).isLt
  have h := List.all_eq_true.1 byte_lock_all (lowB x) (by simpa using hlt)
  simp only [Bool.and_eq_true, decide_eq_true_eq] at h
  have hb : byteF x = byteF (lowB x : Int) := byteF_low x
  obtain ⟨h1, h2, h3, h4⟩ := h
  have hn : (ntE (lockT (.var 0))).den (envL [x]) = (ntE (lockT (.var 0))).den (envL [(lowB x : Int)]) := by
    show b2i ((lockT (.var 0)).den (envL [x]) == 0) = b2i ((lockT (.var 0)).den (envL [(lowB x : Int)]) == 0)
    rw [lock_low]
  rw [hb, lock_low x, kind_low x, hn]
  exact ⟨h1, h2, h3, h4⟩

/-! ### The addresses -/

theorem a54_range {env : Env} {e : E} (h : isA54 e = true) : 0 ≤ e.den env ∧ e.den env < 18014398509481984 := by
  unfold isA54 at h
  split at h
  · rw [den_lit, intBeq_iff.1 h]; decide
  · split at h
    · rename_i o k x _ m
      simp only [Bool.and_eq_true, sameOp_iff, sameKind_iff, intBeq_iff] at h
      obtain ⟨rfl, rfl, rfl⟩ := h
      rw [den_bin, and_u64]
      have : (BitVec.ofInt 64 (x.den env) &&& BitVec.ofInt 64 ((E.lit 18014398509481983).den env)).toNat ≤ 18014398509481983 := by
        rw [BitVec.toNat_and]; exact Nat.and_le_right
      constructor <;> omega
    · cases h
  · cases h

theorem unShl_den {env : Env} {e x : E} (h : unShl e = some x) : e.den env = x.den env * 4 ∧ 0 ≤ x.den env := by
  unfold unShl at h
  split at h
  · split at h
    · rename_i n hn
      simp only [Option.some.injEq] at h; subst h
      rw [den_lit, den_lit, intBeq_iff.1 hn]; decide
    · cases h
  · split at h
    · split at h
      · rename_i o k y _ m hc
        simp only [Option.some.injEq] at h; subst h
        simp only [Bool.and_eq_true, sameOp_iff, sameKind_iff, intBeq_iff] at hc
        obtain ⟨rfl, rfl, rfl, hA⟩ := hc
        obtain ⟨h0, h1⟩ := a54_range (env := env) hA
        refine ⟨?_, h0⟩
        rw [den_bin]
        show IntKind.u64.wrap (y.den env * 4) = _
        simp only [IntKind.wrap, IntKind.signed, IntKind.bits]
        simp
        omega
      · cases h
    · cases h
  · cases h

theorem nrmP1_den {env : Env} (hF : EnvF Phi env) (e : E) : (nrmP1 e).den env = e.den env := by
  have B := byte_facts
  unfold nrmP1
  repeat' split
  all_goals first
    | rfl
    | skip
  · rename_i hc _ x hx
    simp only [Bool.and_eq_true, sameOp_iff, sameKind_iff, intBeq_iff] at hc
    obtain ⟨rfl, rfl, rfl, rfl, rfl, rfl, rfl⟩ := hc
    have := (B (x.den env)).2.2.1
    rw [← coreB_den hF hx] at this
    exact this.symm
  · rename_i hc _ x hx
    simp only [Bool.and_eq_true, sameOp_iff, sameKind_iff, intBeq_iff] at hc
    obtain ⟨rfl, rfl, rfl, rfl, rfl, rfl⟩ := hc
    have := (B (x.den env)).2.2.2
    rw [← coreB_den hF hx] at this
    exact this.symm
  · rename_i hc _ x hx
    simp only [Bool.and_eq_true, sameOp_iff, sameKind_iff, intBeq_iff] at hc
    obtain ⟨rfl, rfl, rfl, rfl, rfl⟩ := hc
    have := (B (x.den env)).1
    rw [← coreB_den hF hx] at this
    exact this.symm
  · rename_i hc _ x hx
    simp only [Bool.and_eq_true, sameOp_iff, sameKind_iff, intBeq_iff] at hc
    obtain ⟨rfl, rfl, rfl, rfl, rfl⟩ := hc
    have := (B (x.den env)).2.1
    rw [← coreB_den hF hx] at this
    exact this.symm
  · rename_i hk _ x hx _ y hy
    have hk := sameKind_iff.1 hk; subst hk
    obtain ⟨e1, _⟩ := unShl_den (env := env) hx
    obtain ⟨e2, _⟩ := unShl_den (env := env) hy
    rw [den_bin, den_bin, e1, e2]
    show b2i (decide _) = b2i (decide _)
    congr 1
    rw [Bool.eq_iff_iff]; simp only [decide_eq_true_eq]; omega

theorem nrmP_den {env : Env} (hF : EnvF Phi env) (e : E) : (nrmP e).den env = e.den env := by
  unfold nrmP
  split
  · rename_i c h
    split
    · rw [ntG_den, unNot_den h, E.tt, nrmP1_den hF, E.tt]
    · exact nrmP1_den hF e
  · exact nrmP1_den hF e

end Go.Proofs.Ytibfaifjnifgjaa
