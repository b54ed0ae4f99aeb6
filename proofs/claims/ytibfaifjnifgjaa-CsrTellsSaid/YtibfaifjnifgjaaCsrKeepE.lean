/-
  A CSR that is written, read and written again: the terms of the law's run. No condition.
-/
import Derived.Test.YtibfaifjnifgjaaCsrKeepQ
namespace Go.Proofs.Ytibfaifjnifgjaa
open Go.Sx Go.RowKit

noncomputable def dC : List E := wCells (nrmC []) (properE true) nV (.var 83)
noncomputable def f200K (n : E) (cells : List E) : E := .app 200 (lE (.lit 3 :: n :: .var 84 :: .var 85 :: takeL (dropL cells 35) 44))
noncomputable def keepEqs (v : E) (cells : List E) : List (E × E) := (List.range 44).map fun i => (kE (.lit 3) nV v (takeL (dropL cells 47) 16) (35 + i) (elE cells (35 + i)), elE cells (35 + i))
noncomputable def aliasEq : List (E × E) := [(f200K (.var 86) dC, f200K (.var 86) (properE true))]
def qE (a b : E) (t : Bool) : List (E × E) := isE2 (.bin .eql .i64 a b) t
def mV : E := .var 86
noncomputable def noQ : List (E × E) := (.app 204 (lE [.lit 3, nV]), .lit 0) :: (keepEqs (.var 83) (properE true) ++ liveQ)
noncomputable def okQ (al : Bool) (ts : List (E × E)) : List (E × E) := (.app 204 (lE [.lit 3, nV]), .lit 1) :: (.app 203 (lE [nV]), .lit 1) :: (ts ++ (liveQ ++ (keepEqs (f200K nV dC) dC ++ if al then [] else aliasEq)))
def farQ : List (E × E) := qE mV nV false ++ (qE nV (.lit 3072) false ++ qE nV (.lit 3074) false)

/-- Which numbers are one thing's. -/
def aliasQ : Nat → List (E × E)
  | 0 => qE mV nV true
  | 1 => farQ ++ (qE nV (.lit 2816) true ++ qE mV (.lit 3072) true)
  | 2 => farQ ++ (qE nV (.lit 2816) false ++ (qE nV (.lit 2818) true ++ qE mV (.lit 3074) true))
  | 3 => farQ ++ (qE nV (.lit 2816) true ++ (qE mV (.lit 3072) false ++ qE nV (.lit 2818) false))
  | 4 => farQ ++ (qE nV (.lit 2816) false ++ (qE nV (.lit 2818) true ++ qE mV (.lit 3074) false))
  | _ => farQ ++ (qE nV (.lit 2816) false ++ qE nV (.lit 2818) false)

noncomputable def keepQ (c : Nat) : List (E × E) := okQ (Nat.blt c 3) (aliasQ c)

/-- A Cpu in M: its numbers. -/
def inM (env : Env) : List Int := (properS env).set 33 3

theorem inM_len (env : Env) : (inM env).length = 82 := by unfold inM; rw [List.length_set, properS_len]

theorem inM_den {env : Env} (hF : EnvF Phi env) : (properE true).map (E.den env) = inM env := by
  unfold properE inM
  rw [setL_eq, List.map_set]
  congr 1
  exact ps_den0 hF

theorem inM_33 (env : Env) : cAt (inM env) 33 = 3 := by
  refine cAt_of ?_
  unfold inM
  rw [List.getElem?_set, if_pos rfl, if_pos (by rw [properS_len]; decide)]

theorem inM_fix (env : Env) : ProperL (inM env) := fun i o x ho hx => by
  unfold inM at hx
  rw [List.getElem?_set] at hx
  split at hx
  · rename_i h; subst h
    rw [if_pos (by rw [properS_len]; decide)] at hx
    cases hx
    rw [at33] at ho; cases ho; rfl
  · exact properS_fix env i o x ho hx

theorem dC_den {env : Env} (hF : EnvF Phi env) : dC.map (E.den env) = writeS (inM env) (env.v 82) (env.v 83) := by
  unfold dC
  rw [wCells_den hF (nrmC_den hF (by simp)), inM_den hF]; rfl

theorem f200K_den {env : Env} (hF : EnvF Phi env) (n : E) {cells : List E} {L : List Int} (h : cells.map (E.den env) = L) : (f200K n cells).den env = if existsF (n.den env) then toldF (L.drop 35) (env.v 84) (env.v 85) (n.den env) else 0 := by
  unfold f200K
  rw [app_den, f200 hF]
  show readF 3 (n.den env) (env.v 84) (env.v 85) ((takeL (dropL cells 35) 44).map (E.den env)) = _
  rw [takeL_eq, dropL_eq, List.map_take, List.map_drop, h]
  unfold readF
  rw [readOk_m, toldF_take]

theorem keepEqs_ok {env : Env} (hF : EnvF Phi env) {v : E} {cells : List E} {L : List Int} (h : cells.map (E.den env) = L)
    (hk : ∀ i, i < 44 → env.v 82 = numOf (35 + i) → ∀ c d, newF (35 + i) (cAt L (35 + i)) (v.den env) c d = cAt L (35 + i)) : ∀ p ∈ keepEqs v cells, p.1.den env = p.2.den env := by
  intro p hp
  obtain ⟨i, hi, rfl⟩ := List.mem_map.1 hp
  have hi : i < 44 := by simpa using hi
  show (kE (.lit 3) nV v _ (35 + i) (elE cells (35 + i))).den env = (elE cells (35 + i)).den env
  rw [kE_den hF _ _ _ _ _ (by omega), elE_den, h]
  by_cases hn : env.v 82 = numOf (35 + i)
  · exact (wF_yes (m := 3) (n := env.v 82) ⟨rfl, hn⟩).trans (hk i hi hn _ _)
  · exact wF_not fun hh => hn hh.2

theorem write_all : (List.range 44).all (fun i => writeOk 3 (numOf (35 + i))) = true := by decide +kernel
theorem num_write {i : Nat} (hi : i < 44) : writeOk 3 (numOf (35 + i)) = true := List.all_eq_true.1 write_all i (by simpa using hi)

theorem e204 {env : Env} (hF : EnvF Phi env) : (E.app 204 (lE [.lit 3, nV])).den env = b2i (writeOk 3 (env.v 82)) := by
  rw [app_den, f204 hF]; rfl

theorem noQ_ok {env : Env} (hF : EnvF Phi env) (h : writeOk 3 (env.v 82) = false) : ∀ p ∈ noQ, p.1.den env = p.2.den env := by
  intro p hp
  unfold noQ at hp
  rcases List.mem_cons.1 hp with rfl | hp
  · rw [e204 hF, h]; rfl
  rcases List.mem_append.1 hp with hp | hp
  · refine keepEqs_ok hF (inM_den hF) (fun i hi hn => ?_) p hp
    rw [hn, num_write hi] at h; cases h
  · exact liveQ_ok hF p hp

theorem okQ_ok {env : Env} (hF : EnvF Phi env) (h : writeOk 3 (env.v 82) = true) {al : Bool} {ts : List (E × E)} (hts : ∀ p ∈ ts, p.1.den env = p.2.den env)
    (hal : al = false → env.v 86 ≠ env.v 82 ∧ sameN (env.v 86) ≠ env.v 82) : ∀ p ∈ okQ al ts, p.1.den env = p.2.den env := by
  have hx : existsF (env.v 82) = true := by
    unfold writeOk at h
    simp only [Bool.and_eq_true] at h
    exact h.2.1
  have hlen := inM_len env
  intro p hp
  unfold okQ at hp
  rcases List.mem_cons.1 hp with rfl | hp
  · rw [e204 hF, h]; rfl
  rcases List.mem_cons.1 hp with rfl | hp
  · show env.f 203 [env.v 82] = 1
    rw [f203 hF]
    show b2i (existsF (env.v 82)) = 1
    rw [hx]; rfl
  rcases List.mem_append.1 hp with hp | hp
  · exact hts p hp
  rcases List.mem_append.1 hp with hp | hp
  · exact liveQ_ok hF p hp
  rcases List.mem_append.1 hp with hp | hp
  · refine keepEqs_ok hF (dC_den hF) (fun i hi hn c d => ?_) p hp
    have e : (f200K nV dC).den env = toldF ((writeS (inM env) (env.v 82) (env.v 83)).drop 35) (env.v 84) (env.v 85) (env.v 82) := by
      rw [f200K_den hF nV (dC_den hF)]
      show (if existsF (env.v 82) then _ else _) = _
      rw [hx]; rfl
    rw [e]
    have := again_same (D := writeS (inM env) (env.v 82) (env.v 83)) (fun i o hi ho => writeS_proper hlen _ _ hi ho) (env.v 84) (env.v 85) hi c d
    rw [← hn] at this
    exact this
  · cases al with
    | true => cases hp
    | false =>
      obtain ⟨h1, h2⟩ := hal rfl
      simp only [Bool.false_eq_true, if_false, aliasEq, List.mem_singleton] at hp
      subst hp
      show (f200K (.var 86) dC).den env = (f200K (.var 86) (properE true)).den env
      rw [f200K_den hF _ (dC_den hF), f200K_den hF _ (inM_den hF)]
      have : toldF ((writeS (inM env) (env.v 82) (env.v 83)).drop 35) (env.v 84) (env.v 85) (env.v 86) = toldF ((inM env).drop 35) (env.v 84) (env.v 85) (env.v 86) :=
        told_same (fun i hi hk => writeS_other hlen (inM_fix env) hi hk) h1 h2
      show (if existsF (env.v 86) then _ else _) = (if existsF (env.v 86) then _ else _)
      rw [show (E.var 86).den env = env.v 86 from rfl, this]

theorem qE_ok {env : Env} {a b : E} {t : Bool} (h : decide (a.den env = b.den env) = t) : ∀ p ∈ qE a b t, p.1.den env = p.2.den env :=
  isE2_ok rfl (by
    show decide (b2i (a.den env == b.den env) ≠ 0) = t
    rw [b2i_eq]; exact h)

theorem keep_cases {env : Env} (hF : EnvF Phi env) : (∀ p ∈ noQ, p.1.den env = p.2.den env) ∨ ∃ c, c < 6 ∧ ∀ p ∈ keepQ c, p.1.den env = p.2.den env := by
  cases h : writeOk 3 (env.v 82) with
  | false => exact .inl (noQ_ok hF h)
  | true =>
    right
    have n1 : env.v 82 ≠ 3072 := fun e => by rw [e] at h; revert h; decide +kernel
    have n2 : env.v 82 ≠ 3074 := fun e => by rw [e] at h; revert h; decide +kernel
    have y : ∀ (a b : E), a.den env = b.den env → ∀ p ∈ qE a b true, p.1.den env = p.2.den env := fun a b h => qE_ok (decide_eq_true h)
    have n : ∀ (a b : E), a.den env ≠ b.den env → ∀ p ∈ qE a b false, p.1.den env = p.2.den env := fun a b h => qE_ok (decide_eq_false h)
    by_cases h1 : env.v 86 = env.v 82
    · exact ⟨0, by decide, okQ_ok hF h (y mV nV h1) (fun h => by cases h)⟩
    · have far : ∀ p ∈ farQ, p.1.den env = p.2.den env := isE2_app (n mV nV h1) (isE2_app (n nV (.lit 3072) n1) (n nV (.lit 3074) n2))
      have far2 : ¬ (env.v 82 = 2816 ∧ env.v 86 = 3072) → ¬ (env.v 82 = 2818 ∧ env.v 86 = 3074) → env.v 86 ≠ env.v 82 ∧ sameN (env.v 86) ≠ env.v 82 := fun k1 k2 => by
        refine ⟨h1, fun e => ?_⟩
        unfold sameN at e
        split at e
        · rename_i h; exact k1 ⟨e.symm, h⟩
        · split at e
          · rename_i h; exact k2 ⟨e.symm, h⟩
          · exact h1 e
      by_cases h2 : env.v 82 = 2816
      · by_cases h3 : env.v 86 = 3072
        · exact ⟨1, by decide, okQ_ok hF h (isE2_app far (isE2_app (y nV (.lit 2816) h2) (y mV (.lit 3072) h3))) (fun h => by cases h)⟩
        · exact ⟨3, by decide, okQ_ok hF h (isE2_app far (isE2_app (y nV (.lit 2816) h2) (isE2_app (n mV (.lit 3072) h3) (n nV (.lit 2818) (show env.v 82 ≠ 2818 by omega))))) (fun _ => far2 (fun k => h3 k.2) (fun k => by have := k.1; omega))⟩
      · by_cases h4 : env.v 82 = 2818
        · by_cases h3 : env.v 86 = 3074
          · exact ⟨2, by decide, okQ_ok hF h (isE2_app far (isE2_app (n nV (.lit 2816) h2) (isE2_app (y nV (.lit 2818) h4) (y mV (.lit 3074) h3)))) (fun h => by cases h)⟩
          · exact ⟨4, by decide, okQ_ok hF h (isE2_app far (isE2_app (n nV (.lit 2816) h2) (isE2_app (y nV (.lit 2818) h4) (n mV (.lit 3074) h3)))) (fun _ => far2 (fun k => h2 k.1) (fun k => h3 k.2))⟩
        · exact ⟨5, by decide, okQ_ok hF h (isE2_app far (isE2_app (n nV (.lit 2816) h2) (n nV (.lit 2818) h4))) (fun _ => far2 (fun k => h2 k.1) (fun k => h4 k.1))⟩

end Go.Proofs.Ytibfaifjnifgjaa
