/-
  The ranges of entries: terms for what Span answers; bits from the lowest on, as one test. No condition.
-/
import Derived.Test.YtibfaifjnifgjaaPmpNum
namespace Go.Proofs.Ytibfaifjnifgjaa
open Go.Sx Go.RowKit

/-! ### Bits from the lowest on -/

/-- Bit number k of a number, as a test. -/
def bitOf (e : E) : Option (E × Nat) :=
  match e with
  | .bin o k a b => match b with
    | .lit n => match a with
      | .bin o2 k2 c d => match d with
        | .lit m => match c with
          | .bin o3 k3 x y => match y with
            | .lit s => match s with
              | .ofNat s => if sameOp o .eql && (sameKind k .u64 && (intBeq n 1 && (sameOp o2 .and && (sameKind k2 .u64 && (intBeq m 1 && (sameOp o3 .shr && (sameKind k3 .u64 && Nat.ble s 59))))))) then some (x, s) else none
              | .negSucc _ => none
            | _ => none
          | _ => none
        | _ => none
      | _ => none
    | _ => none
  | _ => none

/-- The bits from number k on, one behind the other: how many are asked in all. -/
noncomputable def trailG (e : E) : Nat → E → Option Nat :=
  @E.rec (fun _ => Nat → E → Option Nat) (fun _ _ _ => none) (fun _ _ _ => none) (fun _ _ _ => none)
    (fun o kd u v _ _ k a => match bitOf (.bin o kd u v) with
      | some (x, s) => if Nat.beq s k && x.beq a then some (k + 1) else none
      | none => none)
    (fun _ _ _ _ _ => none)
    (fun c _ z _ iht _ k a => match z with
      | .lit n => if intBeq n 0 then match bitOf c with
          | some (x, s) => if Nat.beq s k && x.beq a then iht (k + 1) a else none
          | none => none
        else none
      | _ => none)
    (fun _ _ _ _ _ => none) (fun _ _ _ _ _ _ => none) (fun _ _ => none) e

def onesE (n : Nat) : Int := ((2 ^ n - 1 : Nat) : Int)

noncomputable def maskT (x : E) (n : Nat) : E := .bin .eql .u64 (andLit .u64 x (onesE n)) (.lit (onesE n))

noncomputable def nrmT (e : E) : E :=
  match e with
  | .ite c t z => match z with
    | .lit n => if intBeq n 0 then match bitOf c with
        | some (x, s) => match s with
          | 0 => match trailG t 1 x with
            | some n => maskT x n
            | none => e
          | _ => e
        | none => e
      else e
    | _ => e
  | _ => e

/-! ### The terms -/

/-- The size, as the reference has it: doubled once for each one at the end. -/
noncomputable def sizeC (x : E) (d : Int) : Nat → Nat → E
  | 0, k => .lit (((2 ^ (k + 3) : Nat) : Int) - d)
  | n + 1, k => .ite (if Nat.beq k 0 then .bin .eql .u64 (.bin .and .u64 (.bin .shr .u64 (a54 x) (.lit 0)) (.lit 1)) (.lit 1) else maskT (a54 x) (k + 1)) (sizeC x d n (k + 1)) (.lit (((2 ^ (k + 3) : Nat) : Int) - d))

noncomputable def spanEqs (x : E) : List (E × E) :=
  let S := sizeC x 0 54 0
  [(.bin .mul .u64 (.bin .quo .u64 (.bin .shl .u64 (a54 x) (.lit 2)) S) S, napFrom (a54 x)), (.bin .add .u64 (napFrom (a54 x)) (sizeC x 1 54 0), napTo (a54 x))]

/-! ### Bits: what the tests say -/

/-- Bit number s of a whole number. -/
def bitZ (x : Int) (s : Nat) : Prop := x / 2 ^ s % 2 = 1

theorem and_one (x : Int) : binDen .and .u64 x 1 = x % 2 := by
  rw [and_u64, BitVec.toNat_and, BitVec.toNat_ofInt, show (BitVec.ofInt 64 1).toNat = 2 ^ 1 - 1 from rfl, Nat.and_two_pow_sub_one_eq_mod]
  omega

theorem and_ones (x : Int) {n : Nat} (hn : n ≤ 60) : binDen .and .u64 x (onesE n) = x % 2 ^ n := by
  have hp : 2 ^ n ≤ 2 ^ 60 := Nat.pow_le_pow_right (by decide) hn
  have h60 : (2 : Nat) ^ 60 < 2 ^ 64 := by decide
  have hp0 := Nat.two_pow_pos n
  rw [and_u64, BitVec.toNat_and, onesE, ofInt_nat (by omega), Nat.and_two_pow_sub_one_eq_mod, BitVec.toNat_ofInt]
  have e : ((2 ^ 64 : Nat) : Int) = ((2 ^ n : Nat) : Int) * ((2 ^ (64 - n) : Nat) : Int) := by
    rw [← Int.natCast_mul, ← Nat.pow_add]; congr 2; omega
  have h1 : (0 : Int) ≤ x % ((2 ^ 64 : Nat) : Int) := Int.emod_nonneg _ (by decide)
  rw [Int.natCast_emod, Int.toNat_of_nonneg h1, e, Int.emod_emod_of_dvd x ⟨_, rfl⟩]
  rw [Int.natCast_pow]; rfl

theorem bitOf_den {env : Env} {e x : E} {s : Nat} (h : bitOf e = some (x, s)) : s ≤ 59 ∧ (e.den env = 1 ∨ e.den env = 0) ∧ (e.den env = 1 ↔ bitZ (x.den env) s) := by
  unfold bitOf at h
  repeat' split at h
  all_goals try (simp at h; done)
  rename_i hc
  simp only [Option.some.injEq, Prod.mk.injEq] at h
  obtain ⟨hx, hs0⟩ := h
  have hx := hx.symm
  have hs0 := hs0.symm
  subst hx hs0
  simp only [Bool.and_eq_true, sameOp_iff, sameKind_iff, intBeq_iff, Nat.ble_eq] at hc
  obtain ⟨rfl, rfl, rfl, rfl, rfl, rfl, rfl, rfl, hs⟩ := hc
  refine ⟨hs, ?_⟩
  have e1 : (E.bin .eql .u64 (.bin .and .u64 (.bin .shr .u64 x (.lit (.ofNat s))) (.lit 1)) (.lit 1)).den env = b2i (binDen .and .u64 (binDen .shr .u64 (x.den env) (s : Int)) 1 == 1) := rfl
  rw [e1, and_one]
  have e2 : binDen .shr .u64 (x.den env) (s : Int) = x.den env / 2 ^ s := by
    show (x.den env).fdiv (2 ^ (min (s : Int).toNat 64)) = _
    rw [show min (s : Int).toNat 64 = s by omega]
    exact Int.fdiv_eq_ediv_of_nonneg _ (Int.le_of_lt (Int.pow_pos (by omega)))
  rw [e2]
  unfold bitZ
  by_cases hb : x.den env / 2 ^ s % 2 = 1
  · simp [hb, b2i]
  · have : (x.den env / 2 ^ s % 2 == 1) = false := by simpa using hb
    rw [this]; simp [hb, b2i]

theorem trailG_den {env : Env} {a : E} : ∀ {e : E} {k n : Nat}, trailG e k a = some n → k < n ∧ n ≤ 60 ∧ (e.den env = 1 ∨ e.den env = 0) ∧ (e.den env = 1 ↔ ∀ j, k ≤ j → j < n → bitZ (a.den env) j) := by
  intro e
  induction e with
  | bin o kd u v _ _ =>
    intro k n h
    replace h : (match bitOf (.bin o kd u v) with
      | some (x, s) => if Nat.beq s k && x.beq a then some (k + 1) else none
      | none => none) = some n := h
    split at h
    · rename_i x s hb
      split at h
      · rename_i hc
        simp only [Bool.and_eq_true] at hc
        have hs := Nat.eq_of_beq_eq_true hc.1
        have hx := E.beq_eq hc.2
        subst hs hx
        simp only [Option.some.injEq] at h; subst h
        obtain ⟨h1, h2, h3⟩ := bitOf_den (env := env) hb
        refine ⟨by omega, by omega, h2, h3.trans ⟨fun hz j j1 j2 => ?_, fun hz => hz s (Nat.le_refl _) (by omega)⟩⟩
        rw [show j = s by omega]; exact hz
      · cases h
    · cases h
  | ite c t z _ iht _ =>
    intro k n h
    replace h : (match (generalizing := false) z with
      | .lit n => if intBeq n 0 then match bitOf c with
          | some (x, s) => if Nat.beq s k && x.beq a then trailG t (k + 1) a else none
          | none => none
        else none
      | _ => none) = some n := h
    split at h
    · rename_i m
      split at h
      · rename_i hm
        have hm := intBeq_iff.1 hm
        subst hm
        split at h
        · rename_i x s hb
          split at h
          · rename_i hc
            simp only [Bool.and_eq_true] at hc
            have hs := Nat.eq_of_beq_eq_true hc.1
            have hx := E.beq_eq hc.2
            subst hs hx
            obtain ⟨h1, h2, h3⟩ := bitOf_den (env := env) hb
            obtain ⟨k1, k2, k3, k4⟩ := iht h
            have e1 : (E.ite c t (.lit 0)).den env = if c.den env ≠ 0 then t.den env else 0 := den_ite2 ..
            refine ⟨by omega, k2, ?_, ?_⟩
            · rw [e1]; split
              · exact k3
              · exact .inr rfl
            · rw [e1]
              rcases h2 with h2 | h2
              · rw [if_pos (by omega), k4]
                refine ⟨fun hz j j1 j2 => ?_, fun hz j j1 j2 => hz j (by omega) j2⟩
                rcases Nat.eq_or_lt_of_le j1 with he | hl
                · rw [← he]; exact h3.1 h2
                · exact hz j hl j2
              · rw [if_neg (by omega)]
                refine ⟨fun h => by omega, fun hz => ?_⟩
                have := h3.2 (hz s (Nat.le_refl _) (by omega))
                omega
          · cases h
        · cases h
      · cases h
    · cases h
  | _ => intro k n h; cases h

theorem all_bits (x : Int) : ∀ n, (∀ j, j < n → bitZ x j) ↔ x % 2 ^ n = 2 ^ n - 1 := by
  intro n
  induction n with
  | zero => simp
  | succ n ih =>
    have hp : (0 : Int) < 2 ^ n := Int.pow_pos (by omega)
    have hx := Int.emod_add_mul_ediv x (2 ^ n)
    have hr0 := Int.emod_nonneg x (Int.ne_of_gt hp)
    have hr1 := Int.emod_lt_of_pos x hp
    have hq := Int.emod_add_mul_ediv (x / 2 ^ n) 2
    have hb : x / 2 ^ n % 2 = 0 ∨ x / 2 ^ n % 2 = 1 := by omega
    have e : x = (x % 2 ^ n + 2 ^ n * (x / 2 ^ n % 2)) + 2 ^ (n + 1) * (x / 2 ^ n / 2) := by
      rw [Int.pow_succ, Int.mul_assoc, Int.add_assoc, ← Int.mul_add, hq, hx]
    have e2 : x % 2 ^ (n + 1) = x % 2 ^ n + 2 ^ n * (x / 2 ^ n % 2) := by
      have h1 : x % 2 ^ (n + 1) = (x % 2 ^ n + 2 ^ n * (x / 2 ^ n % 2)) % 2 ^ (n + 1) := by
        conv => lhs; rw [e]
        rw [Int.add_mul_emod_self_left]
      rw [h1]
      refine Int.emod_eq_of_lt ?_ ?_
      · rcases hb with h | h <;> rw [h] <;> simp <;> omega
      · rw [Int.pow_succ]
        rcases hb with h | h <;> rw [h] <;> simp <;> omega
    rw [e2, Int.pow_succ]
    constructor
    · intro h
      have h1 := ih.1 (fun j hj => h j (by omega))
      have h2 : x / 2 ^ n % 2 = 1 := h n (by omega)
      rw [h1, h2]; omega
    · intro h
      rcases hb with hb | hb
      · rw [hb] at h; omega
      · rw [hb] at h
        have h1 := ih.2 (by omega)
        intro j hj
        rcases Nat.lt_or_eq_of_le (Nat.le_of_lt_succ hj) with hl | he
        · exact h1 j hl
        · rw [he]; exact hb

theorem maskT_den (env : Env) (x : E) {n : Nat} (hn : n ≤ 60) : (maskT x n).den env = b2i (decide (x.den env % 2 ^ n = 2 ^ n - 1)) := by
  have e : (maskT x n).den env = b2i ((andLit .u64 x (onesE n)).den env == onesE n) := rfl
  rw [e, andLit_den, and_ones _ hn, beq_dec]
  congr 2
  have : onesE n = (2 : Int) ^ n - 1 := by
    have hp := Nat.two_pow_pos n
    unfold onesE
    rw [Int.natCast_sub hp, Int.natCast_pow]; rfl
  rw [this]

theorem nrmT_den (env : Env) (e : E) : (nrmT e).den env = e.den env := by
  unfold nrmT
  split
  · rename_i c t z
    split
    · rename_i m
      split
      · rename_i hm
        have hm := intBeq_iff.1 hm
        subst hm
        split
        · rename_i x s hb
          split
          · split
            · rename_i n hn
              obtain ⟨h1, h2, h3⟩ := bitOf_den (env := env) hb
              obtain ⟨k1, k2, k3, k4⟩ := trailG_den (env := env) hn
              have e1 : (E.ite c t (.lit 0)).den env = if c.den env ≠ 0 then t.den env else 0 := den_ite2 ..
              have hk : (t.den env = 1 ∧ bitZ (x.den env) 0) ↔ x.den env % 2 ^ n = 2 ^ n - 1 := by
                rw [← all_bits, k4]
                refine ⟨fun ⟨hz, h0⟩ j hj => ?_, fun hz => ⟨fun j j1 j2 => hz j j2, hz 0 (by omega)⟩⟩
                rcases Nat.eq_zero_or_pos j with hj0 | hj0
                · rw [hj0]; exact h0
                · exact hz j hj0 hj
              rw [maskT_den env x k2, e1]
              by_cases hb : x.den env % 2 ^ n = 2 ^ n - 1
              · obtain ⟨ht, h0⟩ := hk.2 hb
                rw [if_pos (by have := h3.2 h0; omega), ht, decide_eq_true hb]; rfl
              · rw [decide_eq_false hb]
                rcases h2 with h2 | h2
                · rw [if_pos (by omega)]
                  rcases k3 with k3 | k3
                  · exact absurd (hk.1 ⟨k3, h3.1 h2⟩) hb
                  · rw [k3]; rfl
                · rw [if_neg (by omega)]; rfl
            · rfl
          · rfl
        · rfl
      · rfl
    · rfl
  · rfl

end Go.Proofs.Ytibfaifjnifgjaa
