/-
  Plain laws on the bits of numbers: bit by bit. No condition.
-/
import Derived.Test.YtibfaifjnifgjaaBits
namespace Go.Sx

section
variable {env : Env}

/-- The number of a term that is no less than 0 and below 2^64. -/
def In64 (env : Env) (e : E) : Prop := 0 ≤ e.den env ∧ e.den env < 18446744073709551616

theorem in64_of {e : E} (h : InK .u64 (e.den env)) : In64 env e := by
  obtain ⟨h1, h2⟩ := h
  simp [IntKind.max, IntKind.min, IntKind.bits, IntKind.signed] at h1 h2
  exact ⟨h1, by omega⟩

def nOf (env : Env) (e : E) : Nat := (e.den env).toNat

theorem nOf_den {e : E} (h : In64 env e) : e.den env = (nOf env e : Int) := by unfold nOf; have := h.1; omega
theorem nOf_lt {e : E} (h : In64 env e) : nOf env e < 2 ^ 64 := by unfold nOf; have := h.1; have := h.2; omega

theorem wrap_nat {n : Nat} (h : n < 2 ^ 64) : IntKind.u64.wrap (n : Int) = (n : Int) := by
  simp only [IntKind.wrap, IntKind.signed, IntKind.bits]
  simp
  omega

theorem ofInt_nat {n : Nat} (h : n < 2 ^ 64) : (BitVec.ofInt 64 (n : Int)).toNat = n := by
  rw [BitVec.ofInt_natCast, BitVec.toNat_ofNat, Nat.mod_eq_of_lt h]

theorem in64_lit {n : Int} (h0 : 0 ≤ n) (h1 : n < 18446744073709551616) : In64 env (.lit n) := ⟨h0, h1⟩

theorem and_nat {x y : Nat} (hx : x < 2 ^ 64) (hy : y < 2 ^ 64) : binDen .and .u64 x y = ((x &&& y : Nat) : Int) := by
  rw [and_u64, BitVec.toNat_and, ofInt_nat hx, ofInt_nat hy]

theorem or_nat {x y : Nat} (hx : x < 2 ^ 64) (hy : y < 2 ^ 64) : binDen .or .u64 x y = ((x ||| y : Nat) : Int) := by
  have : binDen .or .u64 x y = ((BitVec.ofInt 64 x ||| BitVec.ofInt 64 y).toNat : Int) := wrap_u64 _
  rw [this, BitVec.toNat_or, ofInt_nat hx, ofInt_nat hy]

theorem shr_nat {x n : Nat} (hn : n ≤ 64) : binDen .shr .u64 x n = ((x >>> n : Nat) : Int) := by
  show (x : Int).fdiv (2 ^ (min (n : Int).toNat 64)) = _
  have : min (n : Int).toNat 64 = n := by omega
  rw [this, Nat.shiftRight_eq_div_pow]
  have h2 : (2 : Int) ^ n = ((2 ^ n : Nat) : Int) := by simp
  rw [h2, Int.fdiv_eq_ediv_of_nonneg _ (Int.natCast_nonneg _)]
  rfl

theorem quo_nat {x y : Nat} (hx : x < 2 ^ 64) : binDen .quo .u64 x y = ((x / y : Nat) : Int) := by
  show IntKind.u64.wrap ((x : Int).tdiv y) = _
  have : (x : Int).tdiv y = ((x / y : Nat) : Int) := by rw [Int.tdiv_eq_ediv_of_nonneg (Int.natCast_nonneg _)]; rfl
  rw [this]
  exact wrap_nat (Nat.lt_of_le_of_lt (Nat.div_le_self _ _) hx)

theorem rem_nat (x y : Nat) : binDen .rem .u64 x y = ((x % y : Nat) : Int) := by
  show (x : Int).tmod y = _
  rw [Int.tmod_eq_emod_of_nonneg (Int.natCast_nonneg _)]; rfl

/-- Halved 'n' times. -/
def halves : Nat → E → E
  | 0, e => e
  | n + 1, e => .bin .quo .u64 (halves n e) (.lit 2)

theorem halves_den {e : E} (h : In64 env e) : ∀ n, (halves n e).den env = ((nOf env e / 2 ^ n : Nat) : Int) := by
  intro n
  induction n with
  | zero => simp only [halves, Nat.pow_zero, Nat.div_one]; exact nOf_den h
  | succ n ih =>
    simp only [halves, den_bin, ih, den_lit]
    have := quo_nat (x := nOf env e / 2 ^ n) (y := 2) (Nat.lt_of_le_of_lt (Nat.div_le_self _ _) (nOf_lt h))
    rw [show ((2 : Nat) : Int) = 2 from rfl] at this
    rw [this, Nat.pow_succ, Nat.div_div_eq_div_mul]

/-- The reference's question for a bit. -/
def bitR (n : Nat) (e : E) : E := .bin .eql .u64 (.bin .rem .u64 (halves n e) (.lit 2)) (.lit 1)
/-- The program's. -/
def bitI (n : Nat) (e : E) : E := .bin .eql .u64 (.bin .and .u64 (.bin .shr .u64 e (.lit n)) (.lit 1)) (.lit 1)

theorem b2i_eq (p q : Prop) [Decidable p] [Decidable q] (h : p ↔ q) : b2i (decide p) = b2i (decide q) := by by_cases hp : p <;> simp [hp, h.1, ← h, hp]

theorem beq_dec (a b : Int) : (a == b) = decide (a = b) := by rw [Bool.eq_iff_iff]; simp

theorem bitR_den {e : E} (h : In64 env e) (n : Nat) : (bitR n e).den env = b2i ((nOf env e).testBit n) := by
  simp only [bitR, den_bin, halves_den h, den_lit]
  have := rem_nat (nOf env e / 2 ^ n) 2
  rw [show ((2 : Nat) : Int) = 2 from rfl] at this
  rw [this]
  show b2i (_ == _) = _
  congr 1
  rw [Nat.testBit_eq_decide_div_mod_eq, beq_dec]
  rw [Bool.eq_iff_iff]; simp only [decide_eq_true_eq]; omega

theorem bitI_den {e : E} (h : In64 env e) {n : Nat} (hn : n ≤ 64) : (bitI n e).den env = b2i ((nOf env e).testBit n) := by
  simp only [bitI, den_bin, den_lit]
  have e1 := nOf_den h
  rw [e1, shr_nat hn]
  have : binDen .and .u64 ((nOf env e >>> n : Nat) : Int) ((1 : Nat) : Int) = _ := and_nat (Nat.lt_of_le_of_lt (by rw [Nat.shiftRight_eq_div_pow]; exact Nat.div_le_self _ _) (nOf_lt h)) (by decide)
  rw [show ((1 : Nat) : Int) = 1 from rfl] at this
  rw [this]
  show b2i (_ == _) = _
  congr 1
  rw [Nat.testBit, beq_dec, Nat.and_comm]
  have h2 : 1 &&& (nOf env e >>> n) = 0 ∨ 1 &&& (nOf env e >>> n) = 1 := by
    rw [Nat.and_comm, Nat.and_one_is_mod]; omega
  rcases h2 with h2 | h2 <;> rw [h2] <;> rfl

theorem and_in64 (a b : E) : In64 env (.bin .and .u64 a b) := by
  rw [In64, den_bin, and_u64]
  have := (BitVec.ofInt 64 (a.den env) &&& BitVec.ofInt 64 (b.den env)).isLt
  constructor <;> omega

theorem nOf_and {a b : E} (ha : In64 env a) (hb : In64 env b) : nOf env (.bin .and .u64 a b) = nOf env a &&& nOf env b := by
  show (binDen .and .u64 (a.den env) (b.den env)).toNat = _
  rw [nOf_den ha, nOf_den hb, and_nat (nOf_lt ha) (nOf_lt hb)]
  rfl

/-- A bit of what two terms have in common. -/
theorem bitI_and {a b : E} (ha : In64 env a) (hb : In64 env b) {n : Nat} (hn : n ≤ 64) : (bitI n (.bin .and .u64 a b)).den env = (E.ite (bitR n a) (bitR n b) (.lit 0)).den env := by
  rw [bitI_den (and_in64 a b) hn, nOf_and ha hb, Nat.testBit_and, den_ite, bitR_den hb]
  have : (bitR n a).tt env = (nOf env a).testBit n := by
    rw [E.tt, bitR_den ha]; cases (nOf env a).testBit n <;> rfl
  rw [this]
  cases (nOf env a).testBit n <;> rfl

end
end Go.Sx
