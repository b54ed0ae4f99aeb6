/-
  Plain laws on the bits of numbers. No condition.
-/
import Derived.Test.YtibfaifjnifgjaaSx17
namespace Go.Sx

theorem and_step (a m : Nat) : a &&& m = 2 * ((a / 2) &&& (m / 2)) + ((a % 2) * (m % 2)) := by
  have h1 : (a &&& m) / 2 = (a / 2) &&& (m / 2) := by exact Nat.and_div_two
  have h2 : (a &&& m) % 2 = (a % 2) * (m % 2) := by
    have : (a &&& m) % 2 = (a % 2) &&& (m % 2) := by
      have := Nat.and_mod_two_pow (a := a) (b := m) (n := 1)
      simpa using this
    rw [this]
    rcases Nat.mod_two_eq_zero_or_one a with h | h <;> rcases Nat.mod_two_eq_zero_or_one m with h' | h' <;> rw [h, h'] <;> rfl
  have := Nat.div_add_mod (a &&& m) 2
  rw [h1, h2] at this
  omega

/-- All numbers that a mask may leave. -/
def subsN : Nat → Nat → List Nat
  | 0, _ => [0]
  | n + 1, m => if m % 2 = 1 then (subsN n (m / 2)).flatMap fun x => [2 * x, 2 * x + 1] else (subsN n (m / 2)).map fun x => 2 * x

theorem subsN_mem : ∀ (n m a : Nat), m < 2 ^ n → a &&& m ∈ subsN n m := by
  intro n
  induction n with
  | zero => intro m a h; have : m = 0 := by simpa using h
            subst this; simp [subsN]
  | succ n ih =>
    intro m a h
    have hm := ih (m / 2) (a / 2) (by rw [Nat.pow_succ] at h; omega)
    rw [and_step a m]
    unfold subsN
    split
    · rename_i h1
      rw [h1, List.mem_flatMap]
      refine ⟨_, hm, ?_⟩
      rcases Nat.mod_two_eq_zero_or_one a with h2 | h2 <;> simp [h2]
    · rename_i h1
      have : m % 2 = 0 := by omega
      rw [this, Nat.mul_zero, Nat.add_zero]
      exact List.mem_map.2 ⟨_, hm, rfl⟩

/-- What a mask leaves, as bits. -/
theorem mask_mem (x : Int) (m n : Nat) (hm : m < 2 ^ n) (h64 : m < 2 ^ 64) : (BitVec.ofInt 64 x &&& BitVec.ofNat 64 m).toNat ∈ subsN n m := by
  rw [BitVec.toNat_and, BitVec.toNat_ofNat, Nat.mod_eq_of_lt h64]
  exact subsN_mem n m _ hm

theorem wrap_u64 (z : BitVec 64) : IntKind.u64.wrap (z.toNat : Int) = (z.toNat : Int) := by
  have h := z.isLt
  simp only [IntKind.wrap, IntKind.signed, IntKind.bits]
  simp
  omega

theorem and_u64 (x y : Int) : binDen .and .u64 x y = ((BitVec.ofInt 64 x &&& BitVec.ofInt 64 y).toNat : Int) := wrap_u64 _

/-- A mask in a mask. -/
theorem and_of_mask (x : Int) (m n : Nat) (h : BitVec.ofNat 64 n &&& BitVec.ofNat 64 m = BitVec.ofNat 64 m) :
    binDen .and .u64 x m = binDen .and .u64 (((BitVec.ofInt 64 x &&& BitVec.ofNat 64 n).toNat : Int)) m := by
  rw [and_u64, and_u64, ofInt_toNat, BitVec.ofInt_natCast, BitVec.and_assoc, h]

/-! ### mstatus -/

def stImpl (v : E) : E :=
  .bin .or .u64 (.bin .or .u64 (.bin .and .u64 v (.lit 2228360)) (.ite (.bin .eql .u64 (.bin .and .u64 v (.lit 6144)) (.lit 6144)) (.lit 6144) (.lit 0))) (.lit 8589934592)

def stRef (v : E) : E :=
  let m : E := .bin .and .u64 (.bin .shr .u64 (.bin .and .u64 v (.lit 2234504)) (.lit 11)) (.lit 3)
  .bin .or .u64 (.ite (.ite (.bin .eql .u64 m (.lit 1)) (.lit 1) (.bin .eql .u64 m (.lit 2))) (.bin .and .u64 v (.lit 2228360)) (.bin .and .u64 v (.lit 2234504))) (.lit 8589934592)

/-- An environment of numbers alone. -/
def envL (l : List Int) : Env := ⟨fun i => (l[i]?).getD 0, fun _ _ => 0, fun _ => (none, 0, 0), fun _ => none⟩

def stat (x : Int) : Int := (stImpl (.var 0)).den (envL [x])
def statRef (x : Int) : Int := (stRef (.var 0)).den (envL [x])

theorem stImpl_den (env : Env) (e : E) : (stImpl e).den env = stat (e.den env) := rfl
theorem stRef_den (env : Env) (e : E) : (stRef e).den env = statRef (e.den env) := rfl

/-- Only six bits count. -/
theorem stat_mask (x : Int) : stat x = stat ((BitVec.ofInt 64 x &&& BitVec.ofNat 64 2234504).toNat : Int) := by
  show binDen .or .u64 (binDen .or .u64 (binDen .and .u64 x (2228360 : Nat)) (if b2i (binDen .and .u64 x (6144 : Nat) == 6144) ≠ 0 then 6144 else 0)) 8589934592 =
    binDen .or .u64 (binDen .or .u64 (binDen .and .u64 _ (2228360 : Nat)) (if b2i (binDen .and .u64 _ (6144 : Nat) == 6144) ≠ 0 then 6144 else 0)) 8589934592
  rw [and_of_mask x 2228360 2234504 (by decide), and_of_mask x 6144 2234504 (by decide)]
  rfl

theorem statRef_mask (x : Int) : statRef x = statRef ((BitVec.ofInt 64 x &&& BitVec.ofNat 64 2234504).toNat : Int) := by
  show binDen .or .u64 (if (if b2i (binDen .and .u64 (binDen .shr .u64 (binDen .and .u64 x (2234504 : Nat)) 11) 3 == 1) ≠ 0 then 1 else b2i (binDen .and .u64 (binDen .shr .u64 (binDen .and .u64 x (2234504 : Nat)) 11) 3 == 2)) ≠ 0 then binDen .and .u64 x (2228360 : Nat) else binDen .and .u64 x (2234504 : Nat)) 8589934592 =
    binDen .or .u64 (if (if b2i (binDen .and .u64 (binDen .shr .u64 (binDen .and .u64 _ (2234504 : Nat)) 11) 3 == 1) ≠ 0 then 1 else b2i (binDen .and .u64 (binDen .shr .u64 (binDen .and .u64 _ (2234504 : Nat)) 11) 3 == 2)) ≠ 0 then binDen .and .u64 _ (2228360 : Nat) else binDen .and .u64 _ (2234504 : Nat)) 8589934592
  rw [and_of_mask x 2228360 2234504 (by decide), and_of_mask x 2234504 2234504 (by decide)]
  rfl

theorem stat_all : (subsN 22 2234504).all (fun n => decide (stat n = statRef n)) = true := by decide +kernel

theorem stat_ref (x : Int) : statRef x = stat x := by
  rw [stat_mask, statRef_mask]
  have := List.all_eq_true.1 stat_all _ (mask_mem x 2234504 22 (by decide) (by decide))
  exact (of_decide_eq_true this).symm

/-- The values that mstatus may have. -/
def statVals : List Int := [8589934592, 8589934600, 8589934720, 8589934728, 8590065664, 8590065672, 8590065792, 8590065800, 8592031744, 8592031752, 8592031872, 8592031880, 8592162816, 8592162824, 8592162944, 8592162952,
  8589940736, 8589940744, 8589940864, 8589940872, 8590071808, 8590071816, 8590071936, 8590071944, 8592037888, 8592037896, 8592038016, 8592038024, 8592168960, 8592168968, 8592169088, 8592169096]

theorem stat_vals_all : (subsN 22 2234504).all (fun n => statVals.contains (stat n)) = true := by decide +kernel

theorem stat_vals (x : Int) : stat x ∈ statVals := by
  rw [stat_mask]
  have := List.all_eq_true.1 stat_vals_all _ (mask_mem x 2234504 22 (by decide) (by decide))
  exact List.contains_iff_mem.1 this

/-! ### The reservation -/

def ntE (e : E) : E := .bin .eql .i64 e (.lit 0)

/-- Is it none that can be? -/
def rcImpl (a b c : E) : E :=
  let x : E := ntE (.bin .eql .u64 (.bin .and .u64 b (.conv .u64 (.bin .sub .i64 c (.lit 1)))) (.lit 0))
  .ite a (.ite (.bin .eql .i64 c (.lit 4)) x (.ite (.bin .eql .i64 c (.lit 8)) x (.lit 1))) (.lit 1)

def rcRef (a b c : E) : E :=
  let y : E := .ite (.bin .eql .u64 (.bin .rem .u64 b (.lit 8)) (.lit 0)) (.lit 0) (.ite (.bin .eql .i64 c (.lit 8)) (.lit 1) (ntE (.bin .eql .u64 (.bin .rem .u64 b (.lit 4)) (.lit 0))))
  .ite a (.ite (.bin .eql .i64 c (.lit 4)) y (.ite (.bin .eql .i64 c (.lit 8)) (ntE (.bin .eql .u64 (.bin .rem .u64 b (.lit 8)) (.lit 0))) (.lit 1))) (.lit 1)

def resV (l : List Int) : Int := (E.ite (rcImpl (.var 0) (.var 1) (.var 2)) (.lit 0) (.var 0)).den (envL l)

theorem low3 (b : Int) (h0 : 0 ≤ b) (h1 : b < 18446744073709551616) : binDen .and .u64 b 3 = b.tmod 4 := by
  rw [and_u64, Int.tmod_eq_emod_of_nonneg h0]
  have e : (BitVec.ofInt 64 b &&& BitVec.ofInt 64 3).toNat = b.toNat % 4 := by
    rw [BitVec.toNat_and, BitVec.toNat_ofInt]
    have : (b % (2 ^ 64 : Nat)).toNat = b.toNat := by omega
    rw [this, show (BitVec.ofInt 64 3).toNat = 2 ^ 2 - 1 from rfl, Nat.and_two_pow_sub_one_eq_mod]
  rw [e]; omega

theorem low7 (b : Int) (h0 : 0 ≤ b) (h1 : b < 18446744073709551616) : binDen .and .u64 b 7 = b.tmod 8 := by
  rw [and_u64, Int.tmod_eq_emod_of_nonneg h0]
  have e : (BitVec.ofInt 64 b &&& BitVec.ofInt 64 7).toNat = b.toNat % 8 := by
    rw [BitVec.toNat_and, BitVec.toNat_ofInt]
    have : (b % (2 ^ 64 : Nat)).toNat = b.toNat := by omega
    rw [this, show (BitVec.ofInt 64 7).toNat = 2 ^ 3 - 1 from rfl, Nat.and_two_pow_sub_one_eq_mod]
  rw [e]; omega

theorem ntE_tt (env : Env) (e : E) : (ntE e).tt env = !e.tt env := by
  by_cases h : (e.d env).1 = 0 <;> simp [ntE, E.tt, E.den, E.d, binDen, b2i, h]

theorem eql_tt (env : Env) (k : IntKind) (a b : E) : (E.bin .eql k a b).tt env = decide (a.den env = b.den env) := by
  by_cases h : (a.d env).1 = (b.d env).1 <;> simp [E.tt, E.den, E.d, binDen, b2i, h]

theorem rc_eq (env : Env) (a b c : E) (hb : InK .u64 (b.den env)) : (rcRef a b c).tt env = (rcImpl a b c).tt env := by
  have h0 : 0 ≤ b.den env := hb.1
  have h1 : b.den env < 18446744073709551616 := by have := hb.2; simp [IntKind.max, IntKind.bits, IntKind.signed] at this; omega
  have l3 := low3 _ h0 h1
  have l7 := low7 _ h0 h1
  rw [Int.tmod_eq_emod_of_nonneg h0] at l3 l7
  simp only [rcRef, rcImpl, tt_ite, ntE_tt, eql_tt, den_bin, den_conv, den_lit, tt_lit]
  by_cases c4 : c.den env = 4
  · have e3 : IntKind.u64.wrap (binDen .sub .i64 4 1) = 3 := by decide
    simp only [c4, e3, l3, decide_true, if_true, show (binDen .rem .u64 (b.den env) 8) = (b.den env).tmod 8 from rfl, show (binDen .rem .u64 (b.den env) 4) = (b.den env).tmod 4 from rfl, Int.tmod_eq_emod_of_nonneg h0]
    by_cases q : b.den env % 8 = 0
    · have : b.den env % 4 = 0 := by omega
      simp [q, this, intBeq_eq]
    · simp [q]
  · by_cases c8 : c.den env = 8
    · have e7 : IntKind.u64.wrap (binDen .sub .i64 8 1) = 7 := by decide
      simp only [c8, e7, l7, decide_true, if_true, show (binDen .rem .u64 (b.den env) 8) = (b.den env).tmod 8 from rfl, Int.tmod_eq_emod_of_nonneg h0]
      by_cases q : b.den env % 8 = 0 <;> simp [q, intBeq_eq]
    · simp [c4, c8]

theorem resV_den (env : Env) (a b c : E) : (E.ite (rcImpl a b c) (.lit 0) a).den env = resV [a.den env, b.den env, c.den env] := rfl

/-- Of a valid one the rest is as it was. -/
theorem res_rest (env : Env) (a b c z : E) : (E.ite (rcImpl a b c) (.lit 0) z).den env = if resV [a.den env, b.den env, c.den env] ≠ 0 then z.den env else 0 := by
  rw [← resV_den, den_ite, den_ite, den_lit]
  cases h : (rcImpl a b c).tt env
  · have ha : a.den env ≠ 0 := by
      intro h0
      rw [rcImpl, tt_ite] at h
      have : a.tt env = false := by simp [E.tt, h0]
      rw [this] at h
      simp [tt_lit, intBeq_eq] at h
    simp [ha]
  · simp

end Go.Sx
