/-
  Writes one behind the other: what is known of a round. No condition.
-/
import Derived.Test.YtibfaifjnifgjaaCsrKeepE
import Derived.Test.YtibfaifjnifgjaaCsrLoop
namespace Go.Proofs.Ytibfaifjnifgjaa
open Go.Sx Go.RowKit

def sh44 (j : Nat) : Nat := if Nat.ble 35 j && Nat.blt j 79 then 100 + j else j
noncomputable def cellsP : List E := opsE nrmG cpuOs ((List.range 82).map fun j => .var (sh44 j))
def modeM : E := .ite (.bin .eql .i64 (.var 33) (.lit 3)) (.lit 3) (.lit 0)
noncomputable def keepM (m n v : E) (cells : List E) : List (E × E) := (List.range 44).map fun i => (kE m n v (takeL (dropL cells 47) 16) (35 + i) (elE cells (35 + i)), elE cells (35 + i))
noncomputable def okS (n : E) : List (E × E) := (.app 204 (lE [modeM, n]), .lit 1) :: (isE2 modeT true ++ liveQ)
noncomputable def noS (n v : E) : List (E × E) := (.app 204 (lE [modeM, n]), .lit 0) :: (keepM modeM n v cellsP ++ liveQ)

theorem modeM_den (env : Env) : modeM.den env = if env.v 33 = 3 then 3 else 0 := by
  unfold modeM
  rw [den_ite]
  have : (E.bin .eql .i64 (.var 33) (.lit 3)).tt env = decide (env.v 33 = 3) := b2i_eq _ _
  rw [this]
  by_cases h : env.v 33 = 3 <;> simp [h, den_lit]

theorem e204m {env : Env} (hF : EnvF Phi env) (n : E) : (E.app 204 (lE [modeM, n])).den env = b2i (writeOk (modeM.den env) (n.den env)) := by
  rw [app_den, f204 hF]; rfl

theorem cellsP_fix {env : Env} (hF : EnvF Phi env) : ProperL (cellsP.map (E.den env)) := by
  unfold cellsP
  rw [opsE_den hF nrmG_den]
  intro i o x ho hx
  have hi : i < 79 := (List.getElem?_eq_some_iff.1 ho).1
  rw [opsS_at cpuOs _ i o (env.v (sh44 i)) ho (by
    rw [List.getElem?_map, List.getElem?_map, List.getElem?_range (by omega)]; rfl)] at hx
  cases hx
  exact sem_twice o _

theorem round_cases {env : Env} (hF : EnvF Phi env) (n v : E) : (∀ p ∈ okS n, p.1.den env = p.2.den env) ∨ (∀ p ∈ noS n v, p.1.den env = p.2.den env) := by
  cases h : writeOk (modeM.den env) (n.den env) with
  | true =>
    left
    have hm : modeM.den env = 3 := by
      unfold writeOk at h
      simp only [Bool.and_eq_true, decide_eq_true_eq] at h
      exact h.1
    have h33 : env.v 33 = 3 := by
      rw [modeM_den] at hm
      by_cases hh : env.v 33 = 3
      · exact hh
      · rw [if_neg hh] at hm; cases hm
    intro p hp
    unfold okS at hp
    rcases List.mem_cons.1 hp with rfl | hp
    · rw [e204m hF, h]; rfl
    rcases List.mem_append.1 hp with hp | hp
    · exact isE2_ok rfl (by
        show decide (b2i (env.v 33 == 3) ≠ 0) = true
        rw [b2i_eq]; exact decide_eq_true h33) p hp
    · exact liveQ_ok hF p hp
  | false =>
    right
    intro p hp
    unfold noS at hp
    rcases List.mem_cons.1 hp with rfl | hp
    · rw [e204m hF, h]; rfl
    rcases List.mem_append.1 hp with hp | hp
    · obtain ⟨i, hi, rfl⟩ := List.mem_map.1 hp
      have hi : i < 44 := by simpa using hi
      show (kE modeM n v _ (35 + i) (elE cellsP (35 + i))).den env = (elE cellsP (35 + i)).den env
      rw [kE_den hF _ _ _ _ _ (by omega)]
      refine wF_not fun hh => ?_
      rw [hh.1, hh.2, num_write hi] at h; cases h
    · exact liveQ_ok hF p hp

end Go.Proofs.Ytibfaifjnifgjaa
