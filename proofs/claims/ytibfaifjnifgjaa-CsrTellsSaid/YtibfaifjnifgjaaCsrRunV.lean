/-
  What Write of the reference answers, by runs. No condition.
-/
import Derived.Test.YtibfaifjnifgjaaCsrWant
namespace Go.Proofs.Ytibfaifjnifgjaa
open Go.Sx Go.RowKit

theorem runWR_m_0 : ((allKeys.drop 0).take 7).all (fun k => runWR true k) = true := by kernel_rfl
theorem runWR_m_1 : ((allKeys.drop 7).take 2).all (fun k => runWR true k) = true := by kernel_rfl
theorem runWR_m_2 : ((allKeys.drop 9).take 20).all (fun k => runWR true k) = true := by kernel_rfl
theorem runWR_m_3 : ((allKeys.drop 29).take 19).all (fun k => runWR true k) = true := by kernel_rfl
theorem runWR_m_4 : ((allKeys.drop 48).take 4).all (fun k => runWR true k) = true := by kernel_rfl
theorem runWR_m_5 : ((allKeys.drop 52).take 4).all (fun k => runWR true k) = true := by kernel_rfl
theorem runWR_m_6 : ((allKeys.drop 56).take 4).all (fun k => runWR true k) = true := by kernel_rfl
theorem runWR_m_7 : ((allKeys.drop 60).take 4).all (fun k => runWR true k) = true := by kernel_rfl
theorem runWR_m_8 : ((allKeys.drop 64).take 31).all (fun k => runWR true k) = true := by kernel_rfl
theorem runWR_m_9 : ((allKeys.drop 95).take 32).all (fun k => runWR true k) = true := by kernel_rfl
theorem runWR_m : allKeys.all (fun k => runWR true k) = true := by
  have h10 : (allKeys.drop 127).all (fun k => runWR true k) = true := by rw [show allKeys.drop 127 = [] from rfl]; rfl
  have h9 : (allKeys.drop 95).all (fun k => runWR true k) = true := all_split 32 runWR_m_9 (by rw [List.drop_drop]; exact h10)
  have h8 : (allKeys.drop 64).all (fun k => runWR true k) = true := all_split 31 runWR_m_8 (by rw [List.drop_drop]; exact h9)
  have h7 : (allKeys.drop 60).all (fun k => runWR true k) = true := all_split 4 runWR_m_7 (by rw [List.drop_drop]; exact h8)
  have h6 : (allKeys.drop 56).all (fun k => runWR true k) = true := all_split 4 runWR_m_6 (by rw [List.drop_drop]; exact h7)
  have h5 : (allKeys.drop 52).all (fun k => runWR true k) = true := all_split 4 runWR_m_5 (by rw [List.drop_drop]; exact h6)
  have h4 : (allKeys.drop 48).all (fun k => runWR true k) = true := all_split 4 runWR_m_4 (by rw [List.drop_drop]; exact h5)
  have h3 : (allKeys.drop 29).all (fun k => runWR true k) = true := all_split 19 runWR_m_3 (by rw [List.drop_drop]; exact h4)
  have h2 : (allKeys.drop 9).all (fun k => runWR true k) = true := all_split 20 runWR_m_2 (by rw [List.drop_drop]; exact h3)
  have h1 : (allKeys.drop 7).all (fun k => runWR true k) = true := all_split 2 runWR_m_1 (by rw [List.drop_drop]; exact h2)
  have h0 : (allKeys.drop 0).all (fun k => runWR true k) = true := all_split 7 runWR_m_0 (by rw [List.drop_drop]; exact h1)
  exact h0
theorem runWR_u_0 : ((allKeys.drop 0).take 32).all (fun k => runWR false k) = true := by kernel_rfl
theorem runWR_u_1 : ((allKeys.drop 32).take 32).all (fun k => runWR false k) = true := by kernel_rfl
theorem runWR_u_2 : ((allKeys.drop 64).take 32).all (fun k => runWR false k) = true := by kernel_rfl
theorem runWR_u_3 : ((allKeys.drop 96).take 31).all (fun k => runWR false k) = true := by kernel_rfl
theorem runWR_u : allKeys.all (fun k => runWR false k) = true := by
  have h4 : (allKeys.drop 127).all (fun k => runWR false k) = true := by rw [show allKeys.drop 127 = [] from rfl]; rfl
  have h3 : (allKeys.drop 96).all (fun k => runWR false k) = true := all_split 31 runWR_u_3 (by rw [List.drop_drop]; exact h4)
  have h2 : (allKeys.drop 64).all (fun k => runWR false k) = true := all_split 32 runWR_u_2 (by rw [List.drop_drop]; exact h3)
  have h1 : (allKeys.drop 32).all (fun k => runWR false k) = true := all_split 32 runWR_u_1 (by rw [List.drop_drop]; exact h2)
  have h0 : (allKeys.drop 0).all (fun k => runWR false k) = true := all_split 32 runWR_u_0 (by rw [List.drop_drop]; exact h1)
  exact h0
theorem runWN_m : runWN true = true := by kernel_rfl
theorem runWN_u : runWN false = true := by kernel_rfl

end Go.Proofs.Ytibfaifjnifgjaa
