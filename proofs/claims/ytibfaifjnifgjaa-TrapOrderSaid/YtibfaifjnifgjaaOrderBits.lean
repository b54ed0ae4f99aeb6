/-
  Plain laws on the bits that the law TrapOrder uses. No condition.
-/
import Derived.Test.YtibfaifjnifgjaaTrapBits
namespace Go.Proofs.Ytibfaifjnifgjaa
open Go.Sx Go.RowKit

theorem stat_idem_all : statVals.all (fun m => decide (Go.Sx.stat m = m)) = true := by decide +kernel
theorem stat_idem (x : Int) : Go.Sx.stat (Go.Sx.stat x) = Go.Sx.stat x := of_decide_eq_true (List.all_eq_true.1 stat_idem_all _ (stat_vals x))

def st35 : E := .app 20 (.cons (.var 35) .nil)
def idemE : E × E := (.app 20 (.cons st35 .nil), st35)
theorem idem_ok {env : Env} (hF : EnvF Phi env) : idemE.1.den env = idemE.2.den env := by
  show (E.app 20 (.cons st35 .nil)).den env = st35.den env
  have h1 : st35.den env = Go.Sx.stat (env.v 35) := f20 hF _
  rw [app1_den, f20 hF, h1]
  exact stat_idem _

section
variable {env : Env}

theorem or_in64 (a b : E) : In64 env (.bin .or .u64 a b) := by
  have e : (E.bin .or .u64 a b).den env = ((BitVec.ofInt 64 (a.den env) ||| BitVec.ofInt 64 (b.den env)).toNat : Int) := wrap_u64 _
  rw [In64, e]
  have := (BitVec.ofInt 64 (a.den env) ||| BitVec.ofInt 64 (b.den env)).isLt
  constructor <;> omega

theorem nOf_or {a b : E} (ha : In64 env a) (hb : In64 env b) : nOf env (.bin .or .u64 a b) = nOf env a ||| nOf env b := by
  show (binDen .or .u64 (a.den env) (b.den env)).toNat = _
  rw [nOf_den ha, nOf_den hb, or_nat (nOf_lt ha) (nOf_lt hb)]
  rfl

/-- What was pending ahead, and with the lower ones added. -/
def pE : E := .bin .and .u64 (.var 82) (.bin .and .u64 (.var 37) (.lit 2184))
def uE (l : Int) : E := .bin .and .u64 (.bin .or .u64 (.var 82) (.bin .and .u64 (.var 83) (.lit l))) (.bin .and .u64 (.bin .or .u64 (.bin .and .u64 (.var 37) (.lit 2184)) (.bin .and .u64 (.var 84) (.lit l))) (.lit 2184))

theorem pE_bit (h82 : In64 env (.var 82)) (h37 : In64 env (.var 37)) {n : Nat} (hn : n ≤ 64) (hb : (2184 : Nat).testBit n = true) :
    (bitI n pE).tt env = ((nOf env (.var 82)).testBit n && (nOf env (.var 37)).testBit n) := by
  rw [E.tt, pE, bitI_den (and_in64 _ _) hn, nOf_and h82 (and_in64 _ _), nOf_and h37 (in64_lit (by decide) (by decide)), Nat.testBit_and, Nat.testBit_and]
  have : (nOf env (.lit 2184)).testBit n = true := hb
  rw [this]
  cases (nOf env (.var 82)).testBit n <;> cases (nOf env (.var 37)).testBit n <;> rfl

theorem uE_bit (h82 : In64 env (.var 82)) (h37 : In64 env (.var 37)) (h83 : In64 env (.var 83)) (h84 : In64 env (.var 84)) {l : Nat} (hl : l < 2 ^ 64) {n : Nat} (hn : n ≤ 64) (hb : (2184 : Nat).testBit n = true) :
    (bitI n (uE l)).tt env = (((nOf env (.var 82)).testBit n || ((nOf env (.var 83)).testBit n && l.testBit n)) && ((nOf env (.var 37)).testBit n || ((nOf env (.var 84)).testBit n && l.testBit n))) := by
  have hL : In64 env (.lit (l : Int)) := in64_lit (by omega) (by omega)
  rw [E.tt, uE, bitI_den (and_in64 _ _) hn, nOf_and (or_in64 _ _) (and_in64 _ _), nOf_or h82 (and_in64 _ _), nOf_and h83 hL, nOf_and (or_in64 _ _) (in64_lit (by decide) (by decide)),
    nOf_or (and_in64 _ _) (and_in64 _ _), nOf_and h37 (in64_lit (by decide) (by decide)), nOf_and h84 hL]
  simp only [Nat.testBit_and, Nat.testBit_or]
  have : (nOf env (.lit 2184)).testBit n = true := hb
  have h2 : (nOf env (.lit (l : Int))).testBit n = l.testBit n := by
    show ((l : Int).toNat).testBit n = _
    rw [Int.toNat_natCast]
  rw [this, h2]
  cases (nOf env (.var 82)).testBit n <;> cases (nOf env (.var 37)).testBit n <;> cases (nOf env (.var 83)).testBit n <;> cases (nOf env (.var 84)).testBit n <;> cases l.testBit n <;> rfl

/-- Nothing is added to a bit that the mask bars. -/
theorem uE_barred (h82 : In64 env (.var 82)) (h37 : In64 env (.var 37)) (h83 : In64 env (.var 83)) (h84 : In64 env (.var 84)) {l : Nat} (hl : l < 2 ^ 64) {n : Nat} (hn : n ≤ 64) (hb : (2184 : Nat).testBit n = true) (hb' : l.testBit n = false) :
    (bitI n (uE l)).tt env = (bitI n pE).tt env := by
  rw [uE_bit h82 h37 h83 h84 hl hn hb, pE_bit h82 h37 hn hb, hb']
  simp

theorem uE_stays (h82 : In64 env (.var 82)) (h37 : In64 env (.var 37)) (h83 : In64 env (.var 83)) (h84 : In64 env (.var 84)) {l : Nat} (hl : l < 2 ^ 64) {n : Nat} (hn : n ≤ 64) (hb : (2184 : Nat).testBit n = true) (h : (bitI n pE).tt env = true) :
    (bitI n (uE l)).tt env = true := by
  rw [pE_bit h82 h37 hn hb, Bool.and_eq_true] at h
  rw [uE_bit h82 h37 h83 h84 hl hn hb, h.1, h.2]
  rfl

end

/-- MIE is 0. -/
def offE : E := .bin .eql .u64 (.bin .and .u64 st35 (.lit 8)) (.lit 0)

/-- The four ways of what is pending. -/
def ord11 : List (E × E) := [isE (bitI 11 pE) true, isE (bitI 11 (uE 18446744073709551615)) true]
def ord3 : List (E × E) := [isE (bitI 11 pE) false, isE (bitI 3 pE) true, isE (bitI 11 (uE 18446744073709549567)) false, isE (bitI 3 (uE 18446744073709549567)) true]
def ord7 : List (E × E) := [isE (bitI 11 pE) false, isE (bitI 3 pE) false, isE (bitI 7 pE) true, isE (bitI 11 (uE 18446744073709549431)) false, isE (bitI 3 (uE 18446744073709549431)) false, isE (bitI 7 (uE 18446744073709549431)) true]
def ord0 : List (E × E) := [isE (bitI 11 pE) false, isE (bitI 3 pE) false, isE (bitI 7 pE) false]

theorem ords {env : Env} (h82 : In64 env (.var 82)) (h37 : In64 env (.var 37)) (h83 : In64 env (.var 83)) (h84 : In64 env (.var 84)) : ∃ l, (l = ord11 ∨ l = ord3 ∨ l = ord7 ∨ l = ord0) ∧ ∀ p ∈ l, p.1.den env = p.2.den env := by
  have bar := fun {l : Nat} (hl : l < 2 ^ 64) {n : Nat} => uE_barred h82 h37 h83 h84 hl (n := n)
  have stay := fun {l : Nat} (hl : l < 2 ^ 64) {n : Nat} => uE_stays h82 h37 h83 h84 hl (n := n)
  cases e11 : (bitI 11 pE).tt env with
  | true =>
    refine ⟨ord11, by simp, fun p hp => ?_⟩
    simp only [ord11, List.mem_cons, List.not_mem_nil, or_false] at hp
    rcases hp with rfl | rfl
    · exact isE_ok rfl e11
    · exact isE_ok rfl (stay (l := 18446744073709551615) (by decide) (by decide) (by decide) e11)
  | false =>
    cases e3 : (bitI 3 pE).tt env with
    | true =>
      refine ⟨ord3, by simp, fun p hp => ?_⟩
      simp only [ord3, List.mem_cons, List.not_mem_nil, or_false] at hp
      rcases hp with rfl | rfl | rfl | rfl
      · exact isE_ok rfl e11
      · exact isE_ok rfl e3
      · exact isE_ok rfl ((bar (l := 18446744073709549567) (by decide) (by decide) (by decide) (by decide)).trans e11)
      · exact isE_ok rfl (stay (l := 18446744073709549567) (by decide) (by decide) (by decide) e3)
    | false =>
      cases e7 : (bitI 7 pE).tt env with
      | true =>
        refine ⟨ord7, by simp, fun p hp => ?_⟩
        simp only [ord7, List.mem_cons, List.not_mem_nil, or_false] at hp
        rcases hp with rfl | rfl | rfl | rfl | rfl | rfl
        · exact isE_ok rfl e11
        · exact isE_ok rfl e3
        · exact isE_ok rfl e7
        · exact isE_ok rfl ((bar (l := 18446744073709549431) (by decide) (by decide) (by decide) (by decide)).trans e11)
        · exact isE_ok rfl ((bar (l := 18446744073709549431) (by decide) (by decide) (by decide) (by decide)).trans e3)
        · exact isE_ok rfl (stay (l := 18446744073709549431) (by decide) (by decide) (by decide) e7)
      | false =>
        refine ⟨ord0, by simp, fun p hp => ?_⟩
        simp only [ord0, List.mem_cons, List.not_mem_nil, or_false] at hp
        rcases hp with rfl | rfl | rfl
        · exact isE_ok rfl e11
        · exact isE_ok rfl e3
        · exact isE_ok rfl e7

end Go.Proofs.Ytibfaifjnifgjaa
