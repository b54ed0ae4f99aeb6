/-
  Plain laws on the bits that traps use. No condition.
-/
import Derived.Test.YtibfaifjnifgjaaCases
namespace Go.Proofs.Ytibfaifjnifgjaa
open Go.Sx Go.RowKit

/-! ### Where a trap goes -/

def m4 : E := .bin .and .u64 (.var 36) (.lit 18446744073709551612)
def handE : E := .bin .add .u64 m4 (.bin .shl .u64 (.bin .shr .u64 (.bin .shl .u64 (.var 82) (.lit 1)) (.lit 1)) (.lit 2))
def isIrq : E := .bin .eql .u64 (.bin .shr .u64 (.var 82) (.lit 63)) (.lit 1)
def isVec : E := .bin .eql .u64 (.bin .and .u64 (.var 36) (.lit 1)) (.lit 1)
def pcE : E := .ite isIrq (.ite isVec handE m4) m4

theorem and_even (a m : Nat) (h : m % 2 = 0) : (a &&& m) % 2 = 0 := by rw [and_step, h]; omega

theorem and_m2 (n : Nat) (hn : n < 2 ^ 64) (h : n % 2 = 0) : n &&& 18446744073709551614 = n := by
  rw [and_step]
  have : (n / 2) &&& (18446744073709551614 / 2) = (n / 2) % 2 ^ 63 := Nat.and_two_pow_sub_one_eq_mod (n := 63) (n / 2)
  rw [this]; omega

section
variable {env : Env}

theorem nOf_m4 (h : In64 env (.var 36)) : m4.den env = ((nOf env (.var 36) &&& 18446744073709551612 : Nat) : Int) := by
  have := nOf_den h
  show binDen .and .u64 ((E.var 36).den env) ((18446744073709551612 : Nat) : Int) = _
  rw [this, and_nat (nOf_lt h) (by decide)]

theorem pc_even (h36 : In64 env (.var 36)) : ∃ n : Nat, pcE.den env = n ∧ n < 2 ^ 64 ∧ n % 2 = 0 := by
  have hm := nOf_m4 h36
  have hev := and_even (nOf env (.var 36)) 18446744073709551612 (by decide)
  have hlt : nOf env (.var 36) &&& 18446744073709551612 < 2 ^ 64 := Nat.lt_of_le_of_lt Nat.and_le_left (nOf_lt h36)
  have hb : ∃ n : Nat, m4.den env = n ∧ n < 2 ^ 64 ∧ n % 2 = 0 := ⟨_, hm, hlt, hev⟩
  have hh : ∃ n : Nat, handE.den env = n ∧ n < 2 ^ 64 ∧ n % 2 = 0 := by
    have e : handE.den env = IntKind.u64.wrap (m4.den env + IntKind.u64.wrap (((IntKind.u64.wrap ((E.var 82).den env * 2 ^ (min (1 : Int).toNat 64))).fdiv (2 ^ (min (1 : Int).toNat 64))) * 2 ^ (min (2 : Int).toNat 64))) := rfl
    rw [e, hm]
    generalize (IntKind.u64.wrap ((E.var 82).den env * 2 ^ (min (1 : Int).toNat 64))).fdiv (2 ^ (min (1 : Int).toNat 64)) = y
    generalize nOf env (.var 36) &&& 18446744073709551612 = a at hev hlt ⊢
    have : min (2 : Int).toNat 64 = 2 := rfl
    rw [this]
    simp only [IntKind.wrap, IntKind.signed, IntKind.bits]
    simp
    refine ⟨((a + y * 4 % 18446744073709551616) % 18446744073709551616).toNat, ?_, ?_, ?_⟩ <;> omega
  unfold pcE
  rw [den_ite, den_ite]
  split
  · split
    · exact hh
    · exact hb
  · exact hb

theorem pc_fix (h36 : In64 env (.var 36)) : (E.bin .and .u64 pcE (.lit 18446744073709551614)).den env = pcE.den env := by
  obtain ⟨n, h1, h2, h3⟩ := pc_even h36
  show binDen .and .u64 (pcE.den env) ((18446744073709551614 : Nat) : Int) = _
  rw [h1, and_nat h2 (by decide), and_m2 n h2 h3]

theorem irq_bit (h : In64 env (.var 82)) : (bitR 63 (.var 82)).den env = isIrq.den env := by
  rw [bitR_den h]
  have e : isIrq.den env = b2i (binDen .shr .u64 ((E.var 82).den env) ((63 : Nat) : Int) == 1) := rfl
  rw [e, nOf_den h, shr_nat (by decide)]
  congr 1
  have hlt := nOf_lt h
  have h2 : nOf env (.var 82) >>> 63 < 2 := by rw [Nat.shiftRight_eq_div_pow]; omega
  rw [Nat.testBit]
  generalize nOf env (.var 82) >>> 63 = y at h2
  rcases (show y = 0 ∨ y = 1 by omega) with rfl | rfl <;> decide

theorem vec_bit (h : In64 env (.var 36)) : (bitR 0 (.bin .and .u64 (.var 36) (.lit 18446744073709551613))).den env = isVec.den env := by
  rw [bitR_den (and_in64 _ _), nOf_and h (in64_lit (by decide) (by decide)), Nat.testBit_and]
  have e : isVec.den env = b2i (binDen .and .u64 ((E.var 36).den env) ((1 : Nat) : Int) == 1) := rfl
  rw [e, nOf_den h, and_nat (nOf_lt h) (by decide)]
  congr 1
  have : (nOf env (.lit 18446744073709551613)).testBit 0 = true := by
    show (18446744073709551613 : Nat).testBit 0 = true
    decide
  rw [this, Bool.and_true, Nat.testBit_zero, beq_dec, Nat.and_one_is_mod]
  rw [Bool.eq_iff_iff]; simp; omega

def m2 : E := .bin .and .u64 (.var 36) (.lit 18446744073709551613)

theorem base_eq (h : In64 env (.var 36)) : (E.bin .sub .u64 m2 (.bin .rem .u64 m2 (.lit 4))).den env = m4.den env := by
  rw [nOf_m4 h]
  have hm : m2.den env = ((nOf env (.var 36) &&& 18446744073709551613 : Nat) : Int) := by
    show binDen .and .u64 ((E.var 36).den env) ((18446744073709551613 : Nat) : Int) = _
    rw [nOf_den h, and_nat (nOf_lt h) (by decide)]
  have hlt := nOf_lt h
  generalize nOf env (.var 36) = a at *
  have s1 : a &&& 18446744073709551613 = 4 * (a / 4 % 2 ^ 62) + a % 2 := by
    rw [and_step a, and_step (a / 2)]
    have : a / 2 / 2 &&& 18446744073709551613 / 2 / 2 = (a / 4) % 2 ^ 62 := by
      have := Nat.and_two_pow_sub_one_eq_mod (n := 62) (a / 4)
      rw [Nat.div_div_eq_div_mul]; exact this
    rw [this]; omega
  have s2 : a &&& 18446744073709551612 = 4 * (a / 4 % 2 ^ 62) := by
    rw [and_step a, and_step (a / 2)]
    have : a / 2 / 2 &&& 18446744073709551612 / 2 / 2 = (a / 4) % 2 ^ 62 := by
      have := Nat.and_two_pow_sub_one_eq_mod (n := 62) (a / 4)
      rw [Nat.div_div_eq_div_mul]; exact this
    rw [this]; omega
  have e : (E.bin .sub .u64 m2 (.bin .rem .u64 m2 (.lit 4))).den env = IntKind.u64.wrap (m2.den env - binDen .rem .u64 (m2.den env) ((4 : Nat) : Int)) := rfl
  rw [e, hm, rem_nat, s1, s2]
  simp only [IntKind.wrap, IntKind.signed, IntKind.bits]
  simp
  omega

theorem far_eq (h : In64 env (.var 82)) : (E.bin .shl .u64 (.bin .sub .u64 (.var 82) (.lit 9223372036854775808)) (.lit 2)).den env = (E.bin .shl .u64 (.bin .shr .u64 (.bin .shl .u64 (.var 82) (.lit 1)) (.lit 1)) (.lit 2)).den env := by
  obtain ⟨h0, h1⟩ := h
  have e1 : (E.bin .shl .u64 (.bin .sub .u64 (.var 82) (.lit 9223372036854775808)) (.lit 2)).den env = IntKind.u64.wrap (IntKind.u64.wrap ((E.var 82).den env - 9223372036854775808) * 4) := rfl
  have e2 : (E.bin .shl .u64 (.bin .shr .u64 (.bin .shl .u64 (.var 82) (.lit 1)) (.lit 1)) (.lit 2)).den env = IntKind.u64.wrap ((IntKind.u64.wrap ((E.var 82).den env * 2)).fdiv 2 * 4) := rfl
  rw [e1, e2, Int.fdiv_eq_ediv_of_nonneg _ (by decide)]
  generalize (E.var 82).den env = x at *
  simp only [IntKind.wrap, IntKind.signed, IntKind.bits]
  simp
  omega

/-! ### What is pending -/

def pendE : E := .bin .and .u64 (.var 84) (.bin .and .u64 (.var 37) (.lit 2184))
def someE : E := .bin .and .u64 pendE (.lit 2184)
def tE (n : Nat) : E := bitI n pendE
def anyE : E := .ite (tE 11) (.lit 1) (.ite (tE 3) (.lit 1) (tE 7))
def noneE : E := .bin .eql .u64 someE (.lit 0)
def whichE : E := .ite (tE 11) (.lit 11) (.ite (tE 3) (.lit 3) (.ite (tE 7) (.lit 7) (.lit 0)))
def silEqs : List (E × E) :=
  [(ntE noneE, anyE), (noneE, .ite (tE 11) (.lit 0) (.ite (tE 3) (.lit 0) (ntE (tE 7)))), (.bin .eql .u64 (.bin .and .u64 (.bin .shr .u64 someE whichE) (.lit 1)) (.lit 1), anyE)]

/-- The three bits, of the number that is left. -/
def anyN (c : Nat) : Int := if c.testBit 11 then 1 else if c.testBit 3 then 1 else b2i (c.testBit 7)
def whichN (c : Nat) : Nat := if c.testBit 11 then 11 else if c.testBit 3 then 3 else if c.testBit 7 then 7 else 0

theorem sil_all : (subsN 12 2184).all (fun c => decide (b2i (!decide (c = 0)) = anyN c) && (decide (b2i (decide (c = 0)) = if c.testBit 11 then 0 else if c.testBit 3 then 0 else b2i (!c.testBit 7)) && decide (b2i (decide ((c >>> whichN c) &&& 1 = 1)) = anyN c))) = true := by decide +kernel

theorem sil_ok (h84 : In64 env (.var 84)) (h37 : In64 env (.var 37)) : ∀ p ∈ silEqs, p.1.den env = p.2.den env := by
  have hp : In64 env pendE := and_in64 _ _
  have hs : In64 env someE := and_in64 _ _
  let c := nOf env someE
  have hc : c = nOf env pendE &&& 2184 := nOf_and hp (in64_lit (by decide) (by decide))
  have hmem : c ∈ subsN 12 2184 := by rw [hc]; exact subsN_mem 12 2184 _ (by decide)
  have hall := List.all_eq_true.1 sil_all c hmem
  simp only [Bool.and_eq_true, decide_eq_true_eq] at hall
  obtain ⟨a1, a2, a3⟩ := hall
  have hbit : ∀ n, n = 11 ∨ n = 3 ∨ n = 7 → (tE n).den env = b2i (c.testBit n) := fun n hn => by
    have : (nOf env pendE).testBit n = c.testBit n := by
      rw [hc, Nat.testBit_and]
      rcases hn with rfl | rfl | rfl <;> simp [show (2184 : Nat).testBit 11 = true by decide, show (2184 : Nat).testBit 3 = true by decide, show (2184 : Nat).testBit 7 = true by decide]
    unfold tE
    rw [bitI_den hp (by rcases hn with rfl | rfl | rfl <;> decide), this]
  have htt : ∀ n, n = 11 ∨ n = 3 ∨ n = 7 → (tE n).tt env = c.testBit n := fun n hn => by
    rw [E.tt, hbit n hn]; cases c.testBit n <;> rfl
  have hany : anyE.den env = anyN c := by
    unfold anyE anyN
    rw [den_ite, den_ite, htt 11 (by simp), htt 3 (by simp), hbit 7 (by simp)]
    cases c.testBit 11 <;> cases c.testBit 3 <;> rfl
  have hwhich : whichE.den env = ((whichN c : Nat) : Int) := by
    unfold whichE whichN
    rw [den_ite, den_ite, den_ite, htt 11 (by simp), htt 3 (by simp), htt 7 (by simp)]
    cases c.testBit 11 <;> cases c.testBit 3 <;> cases c.testBit 7 <;> rfl
  have hw : whichN c ≤ 64 := by unfold whichN; split <;> (try split) <;> (try split) <;> decide
  have hnone : noneE.tt env = decide (c = 0) := by
    unfold noneE
    rw [eql_tt, nOf_den hs, den_lit]
    by_cases h0 : c = 0
    · have : nOf env someE = 0 := h0
      simp [this, h0]
    · have : nOf env someE ≠ 0 := h0
      simp [this, h0]
  intro p hpm
  simp only [silEqs, List.mem_cons, List.not_mem_nil, or_false] at hpm
  rcases hpm with rfl | rfl | rfl
  · rw [hany, isTest_den (by rfl), ntE_tt, hnone]; exact a1
  · rw [isTest_den (by rfl), hnone, a2, den_ite, den_ite, htt 11 (by simp), htt 3 (by simp), isTest_den (e := ntE (tE 7)) rfl, ntE_tt, htt 7 (by simp)]; rfl
  · rw [hany, ← a3]
    show b2i (binDen .and .u64 (binDen .shr .u64 (someE.den env) (whichE.den env)) ((1 : Nat) : Int) == 1) = _
    rw [hwhich, nOf_den hs, shr_nat hw]
    have hlt : nOf env someE >>> whichN c < 2 ^ 64 := Nat.lt_of_le_of_lt (by rw [Nat.shiftRight_eq_div_pow]; exact Nat.div_le_self _ _) (nOf_lt hs)
    rw [and_nat hlt (by decide), beq_dec]
    congr 1
    show decide ((((c >>> whichN c) &&& 1 : Nat) : Int) = 1) = decide ((c >>> whichN c) &&& 1 = 1)
    rw [Bool.eq_iff_iff]; simp only [decide_eq_true_eq]; omega

end
end Go.Proofs.Ytibfaifjnifgjaa
