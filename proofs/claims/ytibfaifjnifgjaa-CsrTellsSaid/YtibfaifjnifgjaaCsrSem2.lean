/-
  Read and Write of a CSR on numbers: number by number. No condition.
-/
import Derived.Test.YtibfaifjnifgjaaCsrSem
namespace Go.Proofs.Ytibfaifjnifgjaa
open Go.Sx Go.RowKit

theorem num_at {i : Nat} {n : Int} (h : numL[i]? = some n) : numOf (35 + i) = n := by
  unfold numOf; rw [Nat.add_sub_cancel_left, h]; rfl

/-- A cell behind a write to its number. -/
theorem newE_den {env : Env} (hF : EnvF Phi env) {i : Nat} (hi : i < 44) {o : Fo} (ho : cpuOs[35 + i]? = some o) :
    (newE (35 + i)).den env = o.sem (newF (35 + i) (o.sem (env.v (35 + i))) (env.v 83) (cAt ((properS env).drop 47 |>.take 16) (35 + i - 63)) (cAt ((properS env).drop 47 |>.take 16) (35 + i - 62))) := by
  have hcf : ∀ q, q < 16 → cAt ((properS env).drop 47 |>.take 16) q = byteF (env.v (47 + q)) := fun q hq => by
    refine cAt_of ?_
    rw [List.getElem?_take_of_lt hq, List.getElem?_drop, proper_at env (os_byte (by omega) (by omega))]; rfl
  unfold newE newF
  by_cases h0 : i = 0
  · subst h0
    have ho' : o = .stat := by
      have : cpuOs[35 + 0]? = some .stat := rfl
      rw [this] at ho; cases ho; rfl
    subst ho'
    rw [if_pos (show Nat.beq (35 + 0) 35 = true from rfl), if_pos rfl]
    exact mstE_den hF rfl
  · have e35 : Nat.beq (35 + i) 35 = false := by
      cases hb : Nat.beq (35 + i) 35 with
      | false => rfl
      | true => have := Nat.eq_of_beq_eq_true hb; omega
    rw [e35, if_neg (show ¬ 35 + i = 35 by omega)]
    simp only [Bool.false_eq_true, if_false]
    have blt : ∀ n : Nat, Nat.blt (35 + i) n = decide (35 + i < n) := fun n => by
      rw [Bool.eq_iff_iff, decide_eq_true_eq]
      exact ⟨fun h => Nat.le_of_ble_eq_true h, fun h => Nat.ble_eq_true_of_le h⟩
    rw [blt, blt]
    by_cases h1 : 35 + i < 47
    · rw [if_pos (decide_eq_true h1), if_pos h1, elE_den]
      refine cAt_of ?_
      rw [opsE_den hF nrmG_den, opsS_at cpuOs _ (35 + i) o (env.v 83) ho (by
        rw [List.getElem?_map, List.getElem?_replicate, if_pos (by omega)]; rfl)]
    · rw [if_neg (by simpa using h1), if_neg h1]
      by_cases h2 : 35 + i < 63
      · rw [if_pos (decide_eq_true h2), if_pos h2]
        rw [os_byte (by omega) h2] at ho
        cases ho
        rw [cfgE_den hF, show 47 + (35 + i - 47) = 35 + i by omega]
        rfl
      · rw [if_neg (by simpa using h2), if_neg h2]
        rw [os_adr (by omega) (by omega)] at ho
        cases ho
        have hq : 35 + i - 63 < 16 := by omega
        rw [adrE_den (fun _ => rfl) hq, hcf _ hq, show 63 + (35 + i - 63) = 35 + i by omega]
        have hd : decide (35 + i - 63 < 15) = decide (35 + i < 78) := by
          rw [Bool.eq_iff_iff]; simp only [decide_eq_true_eq]; omega
        rw [hd]
        have tw : ∀ (c : Bool) (x y : Int), binDen .and .u64 (if c then x else y) m54 = binDen .and .u64 (if c then binDen .and .u64 x m54 else y) m54 := fun c x y => by
          cases c
          · rfl
          · exact (sem_twice (.on m54) x).symm
        rw [tw]
        show binDen .and .u64 _ m54 = binDen .and .u64 _ m54
        by_cases h3 : 35 + i < 78
        · rw [hcf (35 + i - 62) (by omega), show 48 + (35 + i - 63) = 47 + (35 + i - 62) by omega]
          rfl
        · simp only [h3, decide_false, Bool.false_and, Bool.or_false]
          rfl

/-- The cells of a run, number by number. -/
theorem zipW_den {env : Env} {m k v : Int} {cf : List Int} : ∀ (os : List Fo) (ns : List Int) (es : List E) (j : Nat), ns.length = os.length →
    (∀ (i : Nat) (o : Fo) (n : Int) (e : E), os[i]? = some o → ns[i]? = some n → es[i]? = some e → (if intBeq k n then newE (j + i) else e).den env = o.sem (wF (j + i) [m, k, e.den env, v, cAt cf (j + i - 63), cAt cf (j + i - 62)])) →
    (zipW k j ns es).map (E.den env) = wGoS m k v cf j os (es.map (E.den env)) := by
  intro os
  induction os with
  | nil =>
    intro ns es j hl _
    have : ns = [] := List.length_eq_zero_iff.1 hl
    subst this; rfl
  | cons o os ih =>
    intro ns es j hl h
    cases ns with
    | nil => simp at hl
    | cons n ns =>
      cases es with
      | nil => rfl
      | cons e es =>
        show (if intBeq k n then newE j else e).den env :: (zipW k (j + 1) ns es).map (E.den env) = o.sem (wF j [m, k, e.den env, v, cAt cf (j - 63), cAt cf (j - 62)]) :: wGoS m k v cf (j + 1) os (es.map (E.den env))
        have h0 := h 0 o n e rfl rfl rfl
        rw [Nat.add_zero] at h0
        rw [h0, ih ns es (j + 1) (by simpa using hl) (fun i o' n' e' h1 h2 h3 => by
          have := h (i + 1) o' n' e' (by simpa using h1) (by simpa using h2) (by simpa using h3)
          rwa [show j + (i + 1) = j + 1 + i by omega] at this)]

theorem num_len : numL.length = 44 := rfl

theorem wF_not {j : Nat} {m n x v c d : Int} (h : ¬ (m = 3 ∧ n = numOf j)) : wF j [m, n, x, v, c, d] = x := by
  show (if m = 3 ∧ n = numOf j then newF j x v c d else x) = x
  rw [if_neg h]
theorem wF_yes {j : Nat} {m n x v c d : Int} (h : m = 3 ∧ n = numOf j) : wF j [m, n, x, v, c, d] = newF j x v c d := by
  show (if m = 3 ∧ n = numOf j then newF j x v c d else x) = _
  rw [if_pos h]

/-- Nothing is written: the same Cpu. -/
theorem wGoS_same {m n v : Int} {cf : List Int} : ∀ (os : List Fo) (xs : List Int) (j : Nat), (∀ i, i < os.length → ¬ (m = 3 ∧ n = numOf (j + i))) → (∀ (i : Nat) (o : Fo) (x : Int), os[i]? = some o → xs[i]? = some x → o.sem x = x) → wGoS m n v cf j os xs = xs := by
  intro os
  induction os with
  | nil => intro xs j _ _; rfl
  | cons o os ih =>
    intro xs j h1 h2
    cases xs with
    | nil => rfl
    | cons x xs =>
      show o.sem (wF j [m, n, x, v, _, _]) :: wGoS m n v cf (j + 1) os xs = _
      rw [wF_not (by simpa using h1 0 (by simp)), h2 0 o x rfl rfl, ih xs (j + 1) (fun i hi => by
        have := h1 (i + 1) (by simpa using hi)
        rwa [show j + (i + 1) = j + 1 + i by omega] at this) (fun i o' x' ho hx => h2 (i + 1) o' x' (by simpa using ho) (by simpa using hx))]

/-- Cells that are such as can be. -/
def ProperL (L : List Int) : Prop := ∀ (i : Nat) (o : Fo) (x : Int), cpuOs[i]? = some o → L[i]? = some x → o.sem x = x

theorem properS_fix (env : Env) : ProperL (properS env) := fun i o x ho hx => by
  rw [proper_at env ho] at hx
  cases hx
  exact sem_twice o _

theorem writeS_same {L : List Int} (hL : ProperL L) {n v : Int} (h : ∀ i, i < 44 → ¬ (cAt L 33 = 3 ∧ n = numOf (35 + i))) : writeS L n v = L := by
  unfold writeS
  rw [wGoS_same _ _ _ (fun i hi => h i (by rw [List.length_drop, cpu_len] at hi; exact hi)) (fun i o x ho hx => hL (35 + i) o x (by rw [List.getElem?_drop] at ho; exact ho) (by rw [List.getElem?_drop] at hx; exact hx))]
  exact List.take_append_drop 35 L

theorem mode_at (env : Env) : cAt (properS env) 33 = modeF (env.v 33) := cAt_of (proper_at env at33)

theorem num_exists : (List.range 44).all (fun i => existsF (numOf (35 + i))) = true := by decide +kernel
theorem num_key {i : Nat} (hi : i < 44) : existsF (numOf (35 + i)) = true := List.all_eq_true.1 num_exists i (by simpa using hi)

theorem cellsW_den {env : Env} (hF : EnvF Phi env) {b : Bool} (hm : modeF (env.v 33) = if b then 3 else 0) (k : Int) : (cellsW b k).map (E.den env) = writeS (properS env) k (env.v 83) := by
  have hp := properE_den hF hm
  cases b with
  | false =>
    show (properE false).map (E.den env) = _
    rw [hp, writeS_same (properS_fix env) (fun i _ h => by rw [mode_at, hm] at h; simp at h)]
  | true =>
    show (takeL (properE true) 35 ++ zipW k 35 numL (dropL (properE true) 35)).map (E.den env) = _
    unfold writeS
    rw [List.map_append, takeL_eq, dropL_eq, List.map_take, hp]
    congr 1
    have hd : (List.drop 35 (properE true)).map (E.den env) = (properS env).drop 35 := by rw [List.map_drop, hp]
    rw [← hd]
    refine zipW_den _ _ _ 35 (by rw [num_len, List.length_drop, cpu_len]) (fun i o n e ho hn he => ?_)
    have hi : i < 44 := by have := (List.getElem?_eq_some_iff.1 hn).1; rwa [num_len] at this
    rw [List.getElem?_drop] at ho he
    have hx : (properS env)[35 + i]? = some (e.den env) := by rw [← hp, List.getElem?_map, he]; rfl
    rw [proper_at env ho] at hx
    have hx : o.sem (env.v (35 + i)) = e.den env := by simpa using hx
    have hm3 : cAt (properS env) 33 = 3 := by rw [mode_at, hm]; rfl
    rw [intBeq_eq]
    by_cases hkn : k = n
    · rw [if_pos (decide_eq_true hkn), wF_yes ⟨hm3, by rw [hkn, num_at hn]⟩, newE_den hF hi ho, hx]
    · rw [if_neg (by simpa using hkn), wF_not (fun h => hkn (by rw [h.2, num_at hn])), ← hx, sem_twice]

/-- A number that there is not. -/
theorem cellsN_den {env : Env} (hF : EnvF Phi env) {b : Bool} (hm : modeF (env.v 33) = if b then 3 else 0) {n : Int} (hn : existsF n = false) : (properE b).map (E.den env) = writeS (properS env) n (env.v 83) := by
  rw [properE_den hF hm, writeS_same (properS_fix env) (fun i hi h => by rw [h.2, num_key hi] at hn; cases hn)]

end Go.Proofs.Ytibfaifjnifgjaa
