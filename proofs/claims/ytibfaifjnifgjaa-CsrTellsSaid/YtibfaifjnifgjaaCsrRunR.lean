/-
  What Read of the program and of the reference answers, by runs. No condition.
-/
import Derived.Test.YtibfaifjnifgjaaCsrWant
namespace Go.Proofs.Ytibfaifjnifgjaa
open Go.Sx Go.RowKit

theorem runR_a : runR true (fun k => decide (k < 0x3c0)) = true := by kernel_rfl
theorem runR_b : runR true (fun k => decide (0x3bf < k)) = true := by kernel_rfl
theorem runR_u : runR false (fun _ => true) = true := by kernel_rfl
theorem runR_m (n : Int) : ∃ S : Int → Bool, S n = true ∧ runR true S = true := by
  by_cases h1 : n < 0x3c0
  · exact ⟨_, decide_eq_true h1, runR_a⟩
  · exact ⟨_, decide_eq_true (show (0x3bf : Int) < n by omega), runR_b⟩
theorem runRR_m_0 : ((allKeys.drop 0).take 32).all (fun k => runRR true k) = true := by kernel_rfl
theorem runRR_m_1 : ((allKeys.drop 32).take 32).all (fun k => runRR true k) = true := by kernel_rfl
theorem runRR_m_2 : ((allKeys.drop 64).take 32).all (fun k => runRR true k) = true := by kernel_rfl
theorem runRR_m_3 : ((allKeys.drop 96).take 31).all (fun k => runRR true k) = true := by kernel_rfl
theorem runRR_m : allKeys.all (fun k => runRR true k) = true := by
  have h4 : (allKeys.drop 127).all (fun k => runRR true k) = true := by rw [show allKeys.drop 127 = [] from rfl]; rfl
  have h3 : (allKeys.drop 96).all (fun k => runRR true k) = true := all_split 31 runRR_m_3 (by rw [List.drop_drop]; exact h4)
  have h2 : (allKeys.drop 64).all (fun k => runRR true k) = true := all_split 32 runRR_m_2 (by rw [List.drop_drop]; exact h3)
  have h1 : (allKeys.drop 32).all (fun k => runRR true k) = true := all_split 32 runRR_m_1 (by rw [List.drop_drop]; exact h2)
  have h0 : (allKeys.drop 0).all (fun k => runRR true k) = true := all_split 32 runRR_m_0 (by rw [List.drop_drop]; exact h1)
  exact h0
theorem runRR_u_0 : ((allKeys.drop 0).take 32).all (fun k => runRR false k) = true := by kernel_rfl
theorem runRR_u_1 : ((allKeys.drop 32).take 32).all (fun k => runRR false k) = true := by kernel_rfl
theorem runRR_u_2 : ((allKeys.drop 64).take 32).all (fun k => runRR false k) = true := by kernel_rfl
theorem runRR_u_3 : ((allKeys.drop 96).take 31).all (fun k => runRR false k) = true := by kernel_rfl
theorem runRR_u : allKeys.all (fun k => runRR false k) = true := by
  have h4 : (allKeys.drop 127).all (fun k => runRR false k) = true := by rw [show allKeys.drop 127 = [] from rfl]; rfl
  have h3 : (allKeys.drop 96).all (fun k => runRR false k) = true := all_split 31 runRR_u_3 (by rw [List.drop_drop]; exact h4)
  have h2 : (allKeys.drop 64).all (fun k => runRR false k) = true := all_split 32 runRR_u_2 (by rw [List.drop_drop]; exact h3)
  have h1 : (allKeys.drop 32).all (fun k => runRR false k) = true := all_split 32 runRR_u_1 (by rw [List.drop_drop]; exact h2)
  have h0 : (allKeys.drop 0).all (fun k => runRR false k) = true := all_split 32 runRR_u_0 (by rw [List.drop_drop]; exact h1)
  exact h0
theorem runRN_m : runRN true = true := by kernel_rfl
theorem runRN_u : runRN false = true := by kernel_rfl

end Go.Proofs.Ytibfaifjnifgjaa
