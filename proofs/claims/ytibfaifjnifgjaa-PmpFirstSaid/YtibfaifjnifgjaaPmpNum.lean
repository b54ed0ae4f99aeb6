/-
  Numbers with ones at their end: plain facts on natural numbers and words. No condition but those in the statements.
-/
import Derived.Test.YtibfaifjnifgjaaPmpCfg
namespace Go.Proofs.Ytibfaifjnifgjaa
open Go.Sx Go.RowKit

/-- Every number below 2^n ends in some ones, and a zero ahead of them. -/
theorem trail_form : ∀ (n A : Nat), A < 2 ^ n → ∃ t q, t ≤ n ∧ A + 1 = 2 ^ t * (2 * q + 1) := by
  intro n
  induction n with
  | zero => intro A h; exact ⟨0, 0, Nat.le_refl _, by simp at h; omega⟩
  | succ n ih =>
    intro A h
    by_cases he : A % 2 = 0
    · exact ⟨0, A / 2, Nat.zero_le _, by simp; omega⟩
    · obtain ⟨t, q, ht, hq⟩ := ih (A / 2) (by rw [Nat.pow_succ] at h; omega)
      refine ⟨t + 1, q, by omega, ?_⟩
      rw [Nat.pow_succ, Nat.mul_comm (2 ^ t) 2, Nat.mul_assoc, ← hq]
      omega

theorem mod_last {A M : Nat} (hM : 0 < M) : A % M = M - 1 ↔ M ∣ A + 1 := by
  constructor
  · intro h
    refine ⟨A / M + 1, ?_⟩
    have := Nat.div_add_mod A M
    rw [Nat.mul_add]
    omega
  · rintro ⟨c, hc⟩
    have hc0 : 0 < c := by
      rcases Nat.eq_zero_or_pos c with h | h
      · subst h; simp at hc
      · exact h
    have e : A = (M - 1) + M * (c - 1) := by
      have : M * c = M * (c - 1) + M := by
        rw [← Nat.mul_succ]; congr 1; omega
      omega
    rw [e, Nat.add_mul_mod_self_left]
    exact Nat.mod_eq_of_lt (by omega)

theorem ones_iff {A t q m : Nat} (h : A + 1 = 2 ^ t * (2 * q + 1)) : A % 2 ^ m = 2 ^ m - 1 ↔ m ≤ t := by
  rw [mod_last (Nat.two_pow_pos m), h]
  constructor
  · intro hd
    rcases Nat.lt_or_ge t m with hlt | hge
    · exfalso
      have h1 : 2 ^ (t + 1) ∣ 2 ^ t * (2 * q + 1) := Nat.dvd_trans (Nat.pow_dvd_pow 2 hlt) hd
      rw [Nat.pow_succ] at h1
      have := Nat.dvd_of_mul_dvd_mul_left (Nat.two_pow_pos t) h1
      omega
    · exact hge
  · intro hle
    exact Nat.dvd_trans (Nat.pow_dvd_pow 2 hle) (Nat.dvd_mul_right _ _)

/-- The same, as a sum. -/
theorem form_sum {A t q : Nat} (h : A + 1 = 2 ^ t * (2 * q + 1)) : A = 2 ^ (t + 1) * q + (2 ^ t - 1) ∧ A + 1 = 2 ^ (t + 1) * q + 2 ^ t := by
  have hp := Nat.two_pow_pos t
  have e : 2 ^ t * (2 * q + 1) = 2 ^ (t + 1) * q + 2 ^ t := by rw [Nat.mul_add, Nat.mul_one, ← Nat.mul_assoc, Nat.pow_succ]
  omega

theorem andNot_nat {x y z : Nat} (hz : z < 2 ^ 64) (h : ∀ j, j < 64 → (x.testBit j && !y.testBit j) = z.testBit j) : binDen .andNot .u64 (x : Int) (y : Int) = (z : Int) := by
  show IntKind.u64.wrap ((BitVec.ofInt 64 (x : Int) &&& ~~~ BitVec.ofInt 64 (y : Int)).toNat : Int) = _
  rw [wrap_u64]
  have e : BitVec.ofInt 64 (x : Int) &&& ~~~ BitVec.ofInt 64 (y : Int) = BitVec.ofNat 64 z := by
    apply BitVec.eq_of_getLsbD_eq
    intro j hj
    rw [BitVec.getLsbD_and, BitVec.getLsbD_not, BitVec.ofInt_natCast, BitVec.ofInt_natCast, BitVec.getLsbD_ofNat, BitVec.getLsbD_ofNat, BitVec.getLsbD_ofNat]
    simp only [hj, decide_true, Bool.true_and]
    exact h j hj
  rw [e, BitVec.toNat_ofNat, Nat.mod_eq_of_lt hz]

section
variable {A t q : Nat}

theorem tail_bits (h : A + 1 = 2 ^ t * (2 * q + 1)) (hA : A < 2 ^ 54) : t ≤ 54 ∧ 2 ^ (t + 1) * q + 2 ^ t ≤ 2 ^ 54 := by
  obtain ⟨_, h2⟩ := form_sum h
  constructor
  · rcases Nat.lt_or_ge 54 t with hlt | hge
    · exfalso
      have := Nat.pow_le_pow_right (show 0 < 2 by decide) hlt
      have h3 : 2 ^ t ≤ A + 1 := by omega
      have : (2 : Nat) ^ 54 < 2 ^ 55 := by decide
      omega
    · exact hge
  · omega

theorem pow_le {t : Nat} (h : t ≤ 54) : 2 ^ t ≤ 2 ^ 54 := Nat.pow_le_pow_right (by decide) h

/-- The ones at the end. -/
theorem ones_of (h : A + 1 = 2 ^ t * (2 * q + 1)) (hA : A < 2 ^ 54) : binDen .andNot .u64 (A : Int) (binDen .add .u64 (A : Int) 1) = ((2 ^ t - 1 : Nat) : Int) := by
  obtain ⟨h1, h2⟩ := form_sum h
  obtain ⟨ht, hb⟩ := tail_bits h hA
  have hp := pow_le ht
  have e : binDen .add .u64 (A : Int) 1 = ((A + 1 : Nat) : Int) := by
    show IntKind.u64.wrap ((A : Int) + 1) = _
    rw [show (A : Int) + 1 = ((A + 1 : Nat) : Int) by omega]
    exact wrap_nat (by omega)
  rw [e]
  refine andNot_nat (by omega) (fun j _ => ?_)
  have p1 : 2 ^ t - 1 < 2 ^ (t + 1) := by rw [Nat.pow_succ]; omega
  have p2 : 2 ^ t < 2 ^ (t + 1) := by rw [Nat.pow_succ]; have := Nat.two_pow_pos t; omega
  rw [h2]
  have h1' : A.testBit j = (2 ^ (t + 1) * q + (2 ^ t - 1)).testBit j := by rw [← h1]
  rw [h1', Nat.testBit_two_pow_mul_add q p1, Nat.testBit_two_pow_mul_add q p2, Nat.testBit_two_pow_sub_one, Nat.testBit_two_pow]
  by_cases hj : j < t + 1
  · rw [if_pos hj, if_pos hj]
    by_cases hj' : j < t
    · have : ¬ t = j := by omega
      simp [hj', this]
    · have : t = j := by omega
      simp [this]
  · rw [if_neg hj, if_neg hj]
    have : ¬ j < t := by omega
    simp [this]

theorem low_of (ht : t ≤ 54) : binDen .or .u64 (binDen .shl .u64 ((2 ^ t - 1 : Nat) : Int) 1) 1 = ((2 ^ (t + 1) - 1 : Nat) : Int) := by
  have hp := pow_le ht
  have hp0 := Nat.two_pow_pos t
  have e : binDen .shl .u64 ((2 ^ t - 1 : Nat) : Int) 1 = (((2 ^ t - 1) <<< 1 : Nat) : Int) := by
    show IntKind.u64.wrap (((2 ^ t - 1 : Nat) : Int) * 2 ^ (min (1 : Int).toNat 64)) = _
    rw [show (2 : Int) ^ (min (1 : Int).toNat 64) = ((2 : Nat) : Int) from rfl, ← Int.natCast_mul, wrap_nat (by omega), Nat.shiftLeft_eq]
  rw [e, show (1 : Int) = ((1 : Nat) : Int) from rfl, or_nat (by rw [Nat.shiftLeft_eq]; omega) (by decide), ← Nat.shiftLeft_add_eq_or_of_lt (show 1 < 2 ^ 1 by decide), Nat.shiftLeft_eq, Nat.pow_succ]
  congr 1; omega

theorem base_of (h : A + 1 = 2 ^ t * (2 * q + 1)) (hA : A < 2 ^ 54) : binDen .andNot .u64 (A : Int) ((2 ^ (t + 1) - 1 : Nat) : Int) = ((2 ^ (t + 1) * q : Nat) : Int) := by
  obtain ⟨h1, _⟩ := form_sum h
  refine andNot_nat (by omega) (fun j _ => ?_)
  have p1 : 2 ^ t - 1 < 2 ^ (t + 1) := by rw [Nat.pow_succ]; omega
  have h1' : A.testBit j = (2 ^ (t + 1) * q + (2 ^ t - 1)).testBit j := by rw [← h1]
  have h3 : (2 ^ (t + 1) * q).testBit j = (2 ^ (t + 1) * q + 0).testBit j := rfl
  rw [h1', h3, Nat.testBit_two_pow_mul_add q p1, Nat.testBit_two_pow_mul_add q (Nat.two_pow_pos _), Nat.testBit_two_pow_sub_one]
  by_cases hj : j < t + 1
  · rw [if_pos hj, if_pos hj]; simp [hj]
  · rw [if_neg hj, if_neg hj]; simp [hj]

theorem shl2_nat {x : Nat} (h : x < 2 ^ 62) : binDen .shl .u64 (x : Int) 2 = ((x * 4 : Nat) : Int) := by
  show IntKind.u64.wrap ((x : Int) * 2 ^ (min (2 : Int).toNat 64)) = _
  rw [show (2 : Int) ^ (min (2 : Int).toNat 64) = ((4 : Nat) : Int) from rfl, ← Int.natCast_mul, wrap_nat (by omega)]

theorem add_nat {x y : Nat} (h : x + y < 2 ^ 64) : binDen .add .u64 (x : Int) (y : Int) = ((x + y : Nat) : Int) := by
  show IntKind.u64.wrap ((x : Int) + y) = _
  rw [show (x : Int) + y = ((x + y : Nat) : Int) by omega, wrap_nat h]

theorem mul_nat {x y : Nat} (h : x * y < 2 ^ 64) : binDen .mul .u64 (x : Int) (y : Int) = ((x * y : Nat) : Int) := by
  show IntKind.u64.wrap ((x : Int) * y) = _
  rw [← Int.natCast_mul, wrap_nat h]

end
end Go.Proofs.Ytibfaifjnifgjaa
