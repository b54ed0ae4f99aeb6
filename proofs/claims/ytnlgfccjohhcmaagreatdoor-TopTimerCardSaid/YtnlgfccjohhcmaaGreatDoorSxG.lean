/-
  An operation changes no temporary but its own. No condition.
-/
import Derived.Test.YtnlgfccjohhcmaaGreatDoorSx11
namespace Go.Sx
open Go.RowKit

theorem wp_puts {P : Program} {o : Oper} {a : Act} {w : World} {K : Act → World → Prop} {Q : Exit → Act → World → Prop} (hh : o.wp P a w K Q) :
    o.wp P a w (fun a' w' => K a' w' ∧ ∃ v, a'.tmps = (a.put o.dst v).tmps) Q := by
  unfold Oper.wp at *
  generalize (execOp a.eval o).run P w = r at *
  cases r with
  | ok n w' =>
    cases n <;> simp only [Oper.upon] at hh ⊢ <;>
      first
        | exact ⟨hh, _, rfl⟩
        | exact Calls.mono hh (fun e w'' he => by cases e <;> first | exact ⟨he, _, rfl⟩ | exact he)
        | exact Rows.mono hh (fun _ _ he => ⟨he, _, rfl⟩)
        | exact ⟨hh, undef, by cases o.dst <;> rfl⟩
  | halt x w' => cases x <;> simp only [Oper.upon] at hh ⊢ <;> exact hh

end Go.Sx
