/-
  A region's operations: what each looks at, makes and comes after; which may be taken first. No condition.
-/
import Derived.Test.YtnlgfccjohhcmaaGreatDoorSxN
namespace Go.Sx
open Go.RowKit

theorem ents_get : ∀ (l : List Oper) (i j : Nat), (ents l i)[j]? = (l[j]?).map (mkEnt (i + j)) := by
  intro l
  induction l with
  | nil => intro i j; rfl
  | cons o l ih =>
    intro i j
    show (mkEnt i o :: ents l (i + 1))[j]? = _
    cases j with
    | zero => rfl
    | succ j => rw [List.getElem?_cons_succ, ih, List.getElem?_cons_succ]; congr 2; omega

theorem mem_ents {ops : Array Oper} {x : Ent} (h : x ∈ ents ops.toList 0) : ops[x.i]? = some x.o ∧ x = mkEnt x.i x.o := by
  obtain ⟨j, hj⟩ := List.mem_iff_getElem?.1 h
  rw [ents_get] at hj
  cases ho : ops.toList[j]? with
  | none => rw [ho] at hj; cases hj
  | some o =>
    rw [ho] at hj
    simp only [Option.map_some, Option.some.injEq, Nat.zero_add] at hj
    subst hj
    exact ⟨show ops[j]? = some o by simpa using ho, rfl⟩

theorem ents_mem {ops : Array Oper} {i : Nat} {o : Oper} (h : ops[i]? = some o) : mkEnt i o ∈ ents ops.toList 0 := by
  refine List.mem_iff_getElem?.2 ⟨i, ?_⟩
  rw [ents_get, Nat.zero_add]
  have : ops.toList[i]? = some o := by simpa using h
  rw [this]; rfl

theorem tmpsOf_bit {t : Nat} : ∀ {l : List Operand}, Operand.tmp t ∈ l → (tmpsOf l).testBit t = true := by
  intro l
  induction l with
  | nil => intro h; cases h
  | cons x l ih =>
    intro h
    rcases List.mem_cons.1 h with rfl | h'
    · show ((1 <<< t) ||| tmpsOf l).testBit t = true
      rw [Nat.testBit_or]; simp [Nat.testBit_shiftLeft]
    · cases x with
      | tmp u =>
        show ((1 <<< u) ||| tmpsOf l).testBit t = true
        rw [Nat.testBit_or, ih h']; simp
      | _ => exact ih h'

theorem bitAt_eq (N i : Nat) : bitAt N i = N.testBit i := by
  show Nat.beq ((N >>> i) &&& 1) 1 = _
  rw [Nat.testBit, Nat.and_comm]
  have : 1 &&& (N >>> i) = 0 ∨ 1 &&& (N >>> i) = 1 := by
    rw [Nat.one_and_eq_mod_two]; omega
  rcases this with h | h <;> rw [h] <;> rfl

end Go.Sx
