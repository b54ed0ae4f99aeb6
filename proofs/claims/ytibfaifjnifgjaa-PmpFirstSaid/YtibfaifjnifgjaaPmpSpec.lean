/-
  What a Check, a Match say of single bytes. Plain facts on the named functions. No condition but those in the statements.
-/
import Derived.Test.YtibfaifjnifgjaaPmpRule2
namespace Go.Proofs.Ytibfaifjnifgjaa
open Go.Sx Go.RowKit

/-! ### The named functions over the entries alone -/

theorem checkF_congr {l l' : List Int} (h : SameP l l') (m a s b : Int) : checkF l m a s b = checkF l' m a s b := by
  unfold checkF
  rw [matchI_congr h, matchOk_congr h]
  rcases matchI_range l' a s with h0 | ⟨j, hj, he⟩
  · simp only [h0, show (-1 : Int) < 0 by decide, if_true]
  · rw [he, Int.toNat_natCast, (h j hj).1]

theorem grantF_congr {l l' : List Int} (h : SameP l l') (a b : Int) : grantF l a b = grantF l' a b := by
  unfold grantF
  rw [matchI_congr h]
  rcases matchI_range l' a 1 with h0 | ⟨j, hj, he⟩
  · simp only [h0, show (-1 : Int) < 0 by decide, if_true]
  · rw [he, Int.toNat_natCast, (h j hj).1]

theorem sameP_app {l : List Int} (r : List Int) (hl : l.length = 32) : SameP (l ++ r) l := by
  have := same_rest l r [] hl
  rwa [List.append_nil] at this

section
variable {env : Env}

theorem canonV_length (env : Env) : (canonV.map (E.den env)).length = 32 := by simp [canonV]

theorem c30_den (hF : EnvF Phi env) (a s : E) : (E.app 30 (argV [a, s])).den env = matchI (canonV.map (E.den env)) (a.den env) (s.den env) := by
  have hl := canonV_length env
  rw [argV_den env 30 _ rfl, f30 hF]
  have e1 : cAt (canonV.map (E.den env) ++ [a, s].map (E.den env)) 32 = a.den env := rest_app hl _ 0
  have e2 : cAt (canonV.map (E.den env) ++ [a, s].map (E.den env)) 33 = s.den env := rest_app hl _ 1
  rw [e1, e2, matchI_congr (sameP_app _ hl)]

theorem c31_den (hF : EnvF Phi env) (a s : E) : (E.app 31 (argV [a, s])).den env = matchOk (canonV.map (E.den env)) (a.den env) (s.den env) := by
  have hl := canonV_length env
  rw [argV_den env 31 _ rfl, f31 hF]
  have e1 : cAt (canonV.map (E.den env) ++ [a, s].map (E.den env)) 32 = a.den env := rest_app hl _ 0
  have e2 : cAt (canonV.map (E.den env) ++ [a, s].map (E.den env)) 33 = s.den env := rest_app hl _ 1
  rw [e1, e2, matchOk_congr (sameP_app _ hl)]

theorem c32_den (hF : EnvF Phi env) (m a s b : E) : (E.app 32 (argV [m, a, s, b])).den env = checkF (canonV.map (E.den env)) (m.den env) (a.den env) (s.den env) (b.den env) := by
  have hl := canonV_length env
  rw [argV_den env 32 _ rfl, f32 hF]
  have e1 : cAt (canonV.map (E.den env) ++ [m, a, s, b].map (E.den env)) 32 = m.den env := rest_app hl _ 0
  have e2 : cAt (canonV.map (E.den env) ++ [m, a, s, b].map (E.den env)) 33 = a.den env := rest_app hl _ 1
  have e3 : cAt (canonV.map (E.den env) ++ [m, a, s, b].map (E.den env)) 34 = s.den env := rest_app hl _ 2
  have e4 : cAt (canonV.map (E.den env) ++ [m, a, s, b].map (E.den env)) 35 = b.den env := rest_app hl _ 3
  rw [e1, e2, e3, e4, checkF_congr (sameP_app _ hl)]

theorem c33_den (hF : EnvF Phi env) (a b : E) : (E.app 33 (argV [a, b])).den env = grantF (canonV.map (E.den env)) (a.den env) (b.den env) := by
  have hl := canonV_length env
  rw [argV_den env 33 _ rfl, f33 hF]
  have e1 : cAt (canonV.map (E.den env) ++ [a, b].map (E.den env)) 32 = a.den env := rest_app hl _ 0
  have e2 : cAt (canonV.map (E.den env) ++ [a, b].map (E.den env)) 33 = b.den env := rest_app hl _ 1
  rw [e1, e2, grantF_congr (sameP_app _ hl)]

end

/-! ### Single bytes -/

section
variable {l : List Int}

/-- A count that is full: every byte is held. -/
theorem cnt_le (i : Nat) (a : Int) : ∀ n, cntF l i a n ≤ n := by
  intro n
  induction n with
  | zero => exact Nat.le_refl _
  | succ n ih => simp only [cntF]; split <;> omega

theorem cnt_full {i : Nat} {a : Int} : ∀ {n : Nat}, cntF l i a n = n → ∀ k, k < n → holdsF l i (IntKind.u64.wrap (a + k)) = true := by
  intro n
  induction n with
  | zero => intro _ k hk; omega
  | succ n ih =>
    intro h k hk
    simp only [cntF] at h
    have hle := cnt_le (l := l) i a n
    have hb : holdsF l i (IntKind.u64.wrap (a + n)) = true := by
      cases hh : holdsF l i (IntKind.u64.wrap (a + n)) with
      | true => rfl
      | false => rw [hh] at h; simp at h; omega
    rw [hb] at h
    rcases Nat.lt_or_eq_of_le (Nat.le_of_lt_succ hk) with h1 | h1
    · exact ih (by simp at h; omega) k h1
    · rw [h1]; exact hb

theorem cnt_zero {i : Nat} {a : Int} : ∀ {n : Nat}, cntF l i a n = 0 → ∀ k, k < n → holdsF l i (IntKind.u64.wrap (a + k)) = false := by
  intro n
  induction n with
  | zero => intro _ k hk; omega
  | succ n ih =>
    intro h k hk
    simp only [cntF] at h
    rcases Nat.lt_or_eq_of_le (Nat.le_of_lt_succ hk) with h1 | h1
    · exact ih (by omega) k h1
    · rw [h1]
      cases hh : holdsF l i (IntKind.u64.wrap (a + n)) with
      | false => rfl
      | true => rw [hh] at h; simp at h

/-- What the first entry is. -/
theorem first_spec {a : Int} {n : Nat} : ∀ {m i : Nat} {j : Nat}, firstF l a n m i = (j : Int) → i ≤ j ∧ j < i + m ∧ 0 < cntF l j a n ∧ ∀ k, i ≤ k → k < j → cntF l k a n = 0 := by
  intro m
  induction m with
  | zero => intro i j h; simp only [firstF] at h; omega
  | succ m ih =>
    intro i j h
    simp only [firstF] at h
    split at h
    · rename_i hc
      have : i = j := by omega
      subst this
      exact ⟨Nat.le_refl _, by omega, hc, fun k h1 h2 => by omega⟩
    · rename_i hc
      obtain ⟨h1, h2, h3, h4⟩ := ih h
      refine ⟨by omega, by omega, h3, fun k k1 k2 => ?_⟩
      rcases Nat.eq_or_lt_of_le k1 with he | hl
      · rw [← he]; omega
      · exact h4 k hl k2

theorem first_of {a : Int} {n : Nat} : ∀ (m i j : Nat), i ≤ j → j < i + m → 0 < cntF l j a n → (∀ k, i ≤ k → k < j → cntF l k a n = 0) → firstF l a n m i = (j : Int) := by
  intro m
  induction m with
  | zero => intro i j h1 h2; omega
  | succ m ih =>
    intro i j h1 h2 h3 h4
    simp only [firstF]
    rcases Nat.eq_or_lt_of_le h1 with he | hl
    · subst he; rw [if_pos h3]
    · rw [if_neg (by rw [h4 i (Nat.le_refl _) hl]; omega)]
      exact ih (i + 1) j hl (by omega) h3 (fun k k1 k2 => h4 k (by omega) k2)

/-- What Match says where it finds an entry. -/
theorem match_spec {a s : Int} {j : Nat} (h : matchI l a s = (j : Int)) : 1 ≤ s ∧ s ≤ 8 ∧ j < 16 ∧ 0 < cntF l j a s.toNat ∧ ∀ k, k < j → cntF l k a s.toNat = 0 := by
  unfold matchI at h
  split at h
  · rename_i hs
    obtain ⟨_, h2, h3, h4⟩ := first_spec h
    exact ⟨hs.1, hs.2, by omega, h3, fun k hk => h4 k (Nat.zero_le _) hk⟩
  · omega

theorem match_of {a s : Int} {j : Nat} (h1 : 1 ≤ s) (h8 : s ≤ 8) (hj : j < 16) (h3 : 0 < cntF l j a s.toNat) (h4 : ∀ k, k < j → cntF l k a s.toNat = 0) : matchI l a s = (j : Int) := by
  unfold matchI
  rw [if_pos ⟨h1, h8⟩]
  exact first_of 16 0 j (Nat.zero_le _) (by omega) h3 (fun k _ hk => h4 k hk)

theorem wrap_wrap (x : Int) : IntKind.u64.wrap (IntKind.u64.wrap x + ((0 : Nat) : Int)) = IntKind.u64.wrap x := by
  simp only [IntKind.wrap, IntKind.signed, IntKind.bits]
  simp

theorem cnt_one (i : Nat) (x : Int) : cntF l i (IntKind.u64.wrap x) 1 = if holdsF l i (IntKind.u64.wrap x) then 1 else 0 := by
  simp only [cntF]
  rw [wrap_wrap, Nat.zero_add]

/-- A whole match, byte by byte. -/
theorem match_byte {a s : Int} {j : Nat} (h : matchI l a s = (j : Int)) (hok : cntF l j a s.toNat = s.toNat) {k : Nat} (hk : k < s.toNat) :
    matchI l (IntKind.u64.wrap (a + k)) 1 = (j : Int) ∧ cntF l j (IntKind.u64.wrap (a + k)) 1 = 1 := by
  obtain ⟨h1, h8, hj, h3, h4⟩ := match_spec h
  have hb := cnt_full hok k hk
  have hc : cntF l j (IntKind.u64.wrap (a + k)) 1 = 1 := by rw [cnt_one, hb]; rfl
  refine ⟨match_of (by decide) (by decide) hj (by show 0 < cntF l j _ 1; rw [hc]; decide) (fun i hi => ?_), hc⟩
  show cntF l i _ 1 = 0
  rw [cnt_one, cnt_zero (h4 i hi) k hk]; rfl

/-- What Check says where it says yes in U. -/
theorem check_yes {a s b : Int} (h : checkF l 0 a s b ≠ 0) : ∃ j : Nat, matchI l a s = (j : Int) ∧ cntF l j a s.toNat = s.toNat ∧ 1 ≤ b ∧ b ≤ 7 ∧ binDen .and .i64 (IntKind.i64.wrap (cfgAt l j)) b = b := by
  unfold checkF at h
  split at h
  · rename_i hc
    split at h
    · exact absurd rfl h
    · rename_i hm
      rcases matchI_range l a s with h0 | ⟨j, hj, he⟩
      · rw [h0] at hm; exact absurd (by decide) hm
      · split at h
        · exact absurd rfl h
        · rename_i hok
          rw [he] at h
          simp only [show ¬ ((0 : Int) = 3) by decide, false_and, if_false, Int.toNat_natCast] at h
          refine ⟨j, he, ?_, hc.2.2.2.1, hc.2.2.2.2, ?_⟩
          · unfold matchOk at hok
            rw [he, if_neg (by omega), Int.toNat_natCast] at hok
            by_cases hq : cntF l j a s.toNat = s.toNat
            · exact hq
            · rw [decide_eq_false hq] at hok; exact absurd rfl hok
          · by_cases hq : binDen .and .i64 (IntKind.i64.wrap (cfgAt l j)) b = b
            · exact hq
            · rw [decide_eq_false hq] at h; exact absurd rfl h
  · exact absurd rfl h

theorem check_of {m a s b : Int} {j : Nat} (hm : m = 0 ∨ m = 3) (h : matchI l a s = (j : Int)) (hok : cntF l j a s.toNat = s.toNat) (h1 : 1 ≤ b) (h7 : b ≤ 7) (hb : binDen .and .i64 (IntKind.i64.wrap (cfgAt l j)) b = b) : checkF l m a s b = 1 := by
  obtain ⟨s1, s8, hj, _, _⟩ := match_spec h
  have ho : matchOk l a s = 1 := by
    unfold matchOk
    rw [h, if_neg (by omega), Int.toNat_natCast, decide_eq_true hok]; rfl
  unfold checkF
  rw [if_pos ⟨hm, s1, s8, h1, h7⟩, h, if_neg (by omega), ho, if_neg (by decide), Int.toNat_natCast, hb]
  split
  · rfl
  · simp [b2i]

theorem and_bits {c b m : Int} (hb : binDen .and .i64 c b = b) (h7 : binDen .and .i64 m 7 = m) (hne : binDen .and .i64 b m ≠ 0) : binDen .and .i64 (binDen .and .i64 c m) 7 ≠ 0 := by
  have e : ∀ x y : Int, binDen .and .i64 x y = IntKind.i64.wrap ((BitVec.ofInt 64 x &&& BitVec.ofInt 64 y).toNat : Int) := fun x y => rfl
  have w : ∀ x y : Int, BitVec.ofInt 64 (binDen .and .i64 x y) = BitVec.ofInt 64 x &&& BitVec.ofInt 64 y := fun x y => by
    rw [e]
    have := ofInt_wrap .i64 ((BitVec.ofInt 64 x &&& BitVec.ofInt 64 y).toNat : Int)
    rw [show IntKind.i64.bits = 64 from rfl] at this
    rw [this, ofInt_toNat]
  intro h0
  apply hne
  have h1 : BitVec.ofInt 64 c &&& BitVec.ofInt 64 b = BitVec.ofInt 64 b := by rw [← w, hb]
  have h2 : BitVec.ofInt 64 m &&& BitVec.ofInt 64 7 = BitVec.ofInt 64 m := by rw [← w, h7]
  have h3 : BitVec.ofInt 64 c &&& BitVec.ofInt 64 m = 0#64 := by
    have : BitVec.ofInt 64 (binDen .and .i64 (binDen .and .i64 c m) 7) = 0#64 := by rw [h0]; rfl
    rw [w, w, BitVec.and_assoc, h2] at this
    exact this
  have h4 : BitVec.ofInt 64 b &&& BitVec.ofInt 64 m = 0#64 := by
    rw [← h1, BitVec.and_comm (BitVec.ofInt 64 c), BitVec.and_assoc, h3, BitVec.and_zero]
  rw [e, h4]; rfl

/-- **What passes in U passes in M, and byte by byte; each byte is granted each bit.** -/
theorem bytes_law {a s b : Int} (h : checkF l 0 a s b ≠ 0) : checkF l 3 a s b = 1 ∧ ∀ k : Nat, k < s.toNat → checkF l 0 (IntKind.u64.wrap (a + k)) 1 b = 1 ∧
    ∀ m : Int, binDen .and .i64 m 7 = m → binDen .and .i64 b m ≠ 0 → grantF l (IntKind.u64.wrap (a + k)) m = 1 := by
  obtain ⟨j, hm, hok, h1, h7, hb⟩ := check_yes h
  refine ⟨check_of (.inr rfl) hm hok h1 h7 hb, fun k hk => ?_⟩
  obtain ⟨q1, q2⟩ := match_byte hm hok hk
  refine ⟨check_of (.inl rfl) q1 (by show cntF l j _ 1 = 1; exact q2) h1 h7 hb, fun m hm7 hne => ?_⟩
  unfold grantF
  rw [q1, if_neg (by omega), Int.toNat_natCast, decide_eq_true (and_bits hb hm7 hne)]; rfl

theorem check_size {m a s b : Int} (h : checkF l m a s b ≠ 0) : 1 ≤ s ∧ s ≤ 8 := by
  unfold checkF at h
  split at h
  · rename_i hc; exact ⟨hc.2.1, hc.2.2.1⟩
  · exact absurd rfl h

end

end Go.Proofs.Ytibfaifjnifgjaa
