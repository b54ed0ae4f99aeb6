/-
  What Write of the program answers, by runs. No condition.
-/
import Derived.Test.YtibfaifjnifgjaaCsrWant
namespace Go.Proofs.Ytibfaifjnifgjaa
open Go.Sx Go.RowKit

theorem runW_a : runW true (fun k => decide (k < 0x3a0)) = true := by kernel_rfl
theorem runW_b : runW true (fun k => decide (0x3bf < k)) = true := by kernel_rfl
theorem runW_c : runW true (fun k => inF k 0x3a0 0x3a2) = true := by kernel_rfl
theorem runW_d : runW true (fun k => inF k 0x3b0 0x3b4) = true := by kernel_rfl
theorem runW_e : runW true (fun k => inF k 0x3b5 0x3b9) = true := by kernel_rfl
theorem runW_f : runW true (fun k => inF k 0x3ba 0x3bf) = true := by kernel_rfl
theorem runW_u : runW false (fun _ => true) = true := by kernel_rfl

theorem runW_m (n : Int) : ∃ S : Int → Bool, (existsF n = true → S n = true) ∧ runW true S = true := by
  by_cases h1 : n < 0x3a0
  · exact ⟨_, fun _ => decide_eq_true h1, runW_a⟩
  · by_cases h2 : 0x3bf < n
    · exact ⟨_, fun _ => decide_eq_true h2, runW_b⟩
    · by_cases h3 : n ≤ 0x3a2
      · exact ⟨_, fun _ => by simp [inF]; omega, runW_c⟩
      · by_cases h4 : 0x3b0 ≤ n
        · by_cases h5 : n ≤ 0x3b4
          · exact ⟨_, fun _ => by simp [inF]; omega, runW_d⟩
          · by_cases h6 : n ≤ 0x3b9
            · exact ⟨_, fun _ => by simp [inF]; omega, runW_e⟩
            · exact ⟨_, fun _ => by simp [inF]; omega, runW_f⟩
        · refine ⟨_, fun h => ?_, runW_a⟩
          have := (exists_iff n).1 h
          simp only [allKeys, List.mem_append, List.mem_cons, List.not_mem_nil, or_false, span_mem] at this
          omega

end Go.Proofs.Ytibfaifjnifgjaa
