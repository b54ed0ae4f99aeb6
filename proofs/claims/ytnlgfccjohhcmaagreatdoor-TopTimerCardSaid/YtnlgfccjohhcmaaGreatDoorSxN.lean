/-
  Which operations of a region are listed, as the bits of a number. No condition.
-/
import Derived.Test.YtnlgfccjohhcmaaGreatDoorSxMf
namespace Go.Sx
open Go.RowKit

/-- The bits say what is listed. -/
def BitsOf (N : Nat) (listed : Array Bool) : Prop := ∀ j, j < listed.size → listed.getD j false = N.testBit j

theorem BitsOf.set {N i : Nat} {listed : Array Bool} (h : BitsOf N listed) : BitsOf (N ||| 2 ^ i) (listed.setIfInBounds i true) := by
  intro j hj
  rw [Array.size_setIfInBounds] at hj
  rw [Nat.testBit_or, Nat.testBit_two_pow]
  by_cases hij : i = j
  · subst hij; simp [hj]
  · rw [getD_set_ne false hij, h j hj]; simp [hij]

theorem BitsOf.zero (n : Nat) : BitsOf 0 (Array.replicate n false) := by
  intro j hj
  simp at hj
  simp [hj]

theorem mask_bit {e : Edge} : ∀ {l : List Edge}, e ∈ l → (maskOf l).testBit e.on = true := by
  intro l
  induction l with
  | nil => intro he; cases he
  | cons x l ih =>
    intro he
    have e1 : maskOf (x :: l) = (1 <<< x.on) ||| maskOf l := rfl
    rw [e1, Nat.testBit_or]
    rcases List.mem_cons.1 he with rfl | he
    · simp [Nat.testBit_shiftLeft]
    · simp [ih he]

theorem mask_sub {N : Nat} : ∀ {l : List Edge}, Nat.beq (Nat.land (maskOf l) N) (maskOf l) = true → ∀ e ∈ l, N.testBit e.on = true := by
  intro l h e he
  have h := Nat.eq_of_beq_eq_true h
  have hb := mask_bit he
  have h2 : (maskOf l &&& N).testBit e.on = true := by
    show (Nat.land (maskOf l) N).testBit e.on = true
    rw [h]; exact hb
  rw [Nat.testBit_and, Bool.and_eq_true] at h2
  exact h2.2

/-- The operations that are not listed yet, m of them. -/
def Left (n : Nat) (listed : Array Bool) (m : Nat) : Prop := ∃ L : List Nat, L.Nodup ∧ (∀ j, j ∈ L ↔ j < n ∧ listed.getD j true = false) ∧ L.length = m

theorem Left.pos {n m : Nat} {listed : Array Bool} (h : Left n listed m) {j : Nat} (hj : j < n) (hl : listed.getD j true = false) : ∃ k, m = k + 1 := by
  obtain ⟨L, _, h2, rfl⟩ := h
  have : j ∈ L := (h2 j).2 ⟨hj, hl⟩
  exact ⟨L.length - 1, by have := List.length_pos_of_mem this; omega⟩

theorem Left.set {n m : Nat} {listed : Array Bool} (h : Left n listed (m + 1)) {j : Nat} (hj : j < n) (hl : listed.getD j true = false) : Left n (listed.setIfInBounds j true) m := by
  obtain ⟨L, h1, h2, h3⟩ := h
  have hm : j ∈ L := (h2 j).2 ⟨hj, hl⟩
  refine ⟨L.erase j, h1.erase j, fun q => ?_, by rw [List.length_erase_of_mem hm]; omega⟩
  rw [h1.mem_erase_iff, h2]
  by_cases hq : j = q
  · subst hq
    simp only [ne_eq, not_true, false_and, false_iff, not_and]
    intro _
    have hlt : j < listed.size := by
      rcases Nat.lt_or_ge j listed.size with h' | h'
      · exact h'
      · simp [Array.getElem?_eq_none h'] at hl
    simp [hlt]
  · rw [getD_set_ne true hq]
    constructor
    · rintro ⟨_, h⟩; exact h
    · intro h; exact ⟨fun e => hq e.symm, h⟩

theorem Left.start (n : Nat) : Left n (Array.replicate n false) n := by
  refine ⟨List.range n, List.nodup_range, fun j => ?_, by simp⟩
  simp only [List.mem_range]
  constructor
  · intro h; exact ⟨h, by simp [h]⟩
  · intro h; exact h.1

end Go.Sx
