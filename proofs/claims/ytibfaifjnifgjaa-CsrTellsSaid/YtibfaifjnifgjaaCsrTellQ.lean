/-
  Every bit that is kept is told: what the two loops come to. No condition.
-/
import Derived.Test.YtibfaifjnifgjaaCsrStayQ
namespace Go.Proofs.Ytibfaifjnifgjaa
open Go.Sx Go.RowKit

def sh44b (j : Nat) : Nat := if Nat.ble 35 j && Nat.blt j 79 then 200 + j else j
noncomputable def cellsD : List E := opsE nrmG cpuOs ((List.range 82).map fun j => .var (sh44b j))
noncomputable def sT (j : Nat) : E := .bin .eql (if Nat.blt j 47 then .u64 else if Nat.blt j 63 then .u8 else .u64) (elE psE j) (elE cellsD j)
noncomputable def orT (o : Nat) : E := .bin .eql .u64 (orL (dropL psE 35) o 8) (orL (dropL cellsD 35) o 8)
def upTo (a : Nat) : Nat → List Nat
  | 0 => []
  | n + 1 => a :: upTo (a + 1) n
noncomputable def andL : List E → E
  | [] => .lit 1
  | t :: l => match l with
    | [] => t
    | _ => .ite t (andL l) (.lit 0)
noncomputable def andTo (e : E) : List E → E
  | [] => e
  | t :: l => .ite t (andTo e l) (.lit 0)
noncomputable def orTo : List E → E → E
  | [], e => e
  | t :: l, e => orTo l (.ite e (.lit 1) (ntE t))

noncomputable def firstL : List E := [sT 35, sT 37, sT 36, sT 38, sT 40, sT 39, sT 41, sT 42, sT 43, sT 44, orT 12, orT 20]
noncomputable def lastL : List E := (upTo 65 14).map sT ++ [sT 45, sT 46, sT 45, sT 46]
noncomputable def t1E : E := orTo lastL (.ite (sT 63) (ntE (sT 64)) (.lit 1))
noncomputable def t2E : E := andTo (.ite (andL ((upTo 47 16).map sT)) (andL ((upTo 63 16).map sT)) (.lit 0)) ((upTo 35 12).map sT)
noncomputable def tellE : E := .ite t1E (ntE t2E) t2E
noncomputable def trueQ : List E → List (E × E)
  | [] => []
  | t :: l => isE2 t true ++ trueQ l
/-- The first i numbers tell the same, the next one does not (12: they all do). -/
noncomputable def tellQ (i : Nat) : List (E × E) :=
  trueQ (firstL.take i) ++ ((match firstL.drop i with
    | [] => [(tellE, .lit 1)]
    | t :: _ => isE2 t false ++ [(ntE t2E, .lit 1)]) ++ liveQ)

theorem andL_tt (env : Env) : ∀ l : List E, (andL l).tt env = l.all (E.tt env) := by
  intro l
  induction l with
  | nil => rfl
  | cons t l ih =>
    cases l with
    | nil => simp [andL]
    | cons t' l =>
      show (E.ite t (andL (t' :: l)) (.lit 0)).tt env = (t.tt env && (t' :: l).all (E.tt env))
      rw [tt_ite, ih]
      generalize (t' :: l).all (E.tt env) = q
      cases t.tt env <;> simp [tt_lit, intBeq_eq]

theorem andTo_tt (env : Env) (e : E) : ∀ l : List E, (andTo e l).tt env = (l.all (E.tt env) && e.tt env) := by
  intro l
  induction l with
  | nil => simp [andTo]
  | cons t l ih =>
    show (E.ite t (andTo e l) (.lit 0)).tt env = _
    rw [tt_ite, ih, List.all_cons]
    cases t.tt env <;> simp [tt_lit, intBeq_eq]

theorem orTo_tt (env : Env) : ∀ (l : List E) (e : E), (orTo l e).tt env = (e.tt env || !l.all (E.tt env)) := by
  intro l
  induction l with
  | nil => intro e; simp [orTo]
  | cons t l ih =>
    intro e
    show (orTo l (.ite e (.lit 1) (ntE t))).tt env = _
    rw [ih, tt_ite, ntE_tt, tt_lit, List.all_cons]
    cases e.tt env <;> cases t.tt env <;> simp [intBeq_eq]

section
variable {env : Env}

theorem sT_tt (j : Nat) : (sT j).tt env = decide (cAt (psE.map (E.den env)) j = cAt (cellsD.map (E.den env)) j) := by
  unfold sT
  rw [← elE_den, ← elE_den]
  exact b2i_eq _ _

theorem orT_tt (o : Nat) : (orT o).tt env = decide (cfgV ((psE.map (E.den env)).drop 35) o 8 = cfgV ((cellsD.map (E.den env)).drop 35) o 8) := by
  unfold orT
  show decide (b2i ((orL (dropL psE 35) o 8).den env == (orL (dropL cellsD 35) o 8).den env) ≠ 0) = _
  rw [orL_den, orL_den, b2i_eq, dropL_eq, dropL_eq, List.map_drop, List.map_drop]

theorem cellsD_byte (hF : EnvF Phi env) {j : Nat} (h1 : 47 ≤ j) (h2 : j < 63) : ∃ b : Nat, cAt (cellsD.map (E.den env)) j = (b : Int) ∧ b < 256 := by
  have : cAt (cellsD.map (E.den env)) j = byteF (env.v (sh44b j)) := by
    refine cAt_of ?_
    unfold cellsD
    rw [opsE_den hF nrmG_den, opsS_at cpuOs _ j .byte (env.v (sh44b j)) (os_byte h1 h2) (by
      rw [List.getElem?_map, List.getElem?_map, List.getElem?_range (by omega)]; rfl)]
    rfl
  obtain ⟨r1, r2⟩ := byteF_range (env.v (sh44b j))
  rw [this]
  exact ⟨(byteF (env.v (sh44b j))).toNat, by omega, by omega⟩

theorem psE_byte (hF : EnvF Phi env) {j : Nat} (h1 : 47 ≤ j) (h2 : j < 63) : ∃ b : Nat, cAt (psE.map (E.den env)) j = (b : Int) ∧ b < 256 := by
  have : cAt (psE.map (E.den env)) j = byteF (env.v j) := by
    rw [ps_den0 hF]
    exact cAt_of (proper_at env (os_byte h1 h2))
  obtain ⟨r1, r2⟩ := byteF_range (env.v j)
  rw [this]
  exact ⟨(byteF (env.v j)).toNat, by omega, by omega⟩

/-- A register tells its eight bytes. -/
theorem reg_iff (hF : EnvF Phi env) {o : Nat} (ho : o = 12 ∨ o = 20) : cfgV ((psE.map (E.den env)).drop 35) o 8 = cfgV ((cellsD.map (E.den env)).drop 35) o 8 ↔ ∀ k, k < 8 → cAt (psE.map (E.den env)) (35 + o + k) = cAt (cellsD.map (E.den env)) (35 + o + k) := by
  have e : ∀ (L : List Int) k, cAt (L.drop 35) (o + k) = cAt L (35 + o + k) := fun L k => by rw [drop_at]; congr 1; omega
  constructor
  · intro h k hk
    have h1 := cfgV_byte (l := (psE.map (E.den env)).drop 35) (o := o) (fun k hk => by rw [e]; exact psE_byte hF (by omega) (by omega)) hk
    have h2 := cfgV_byte (l := (cellsD.map (E.den env)).drop 35) (o := o) (fun k hk => by rw [e]; exact cellsD_byte hF (by omega) (by omega)) hk
    rw [e] at h1 h2
    rw [← h1, ← h2, h]
  · intro h
    refine cfgV_eq 8 (fun i h1 h2 => ?_)
    have := h (i - o) (by omega)
    rw [← e, ← e, show o + (i - o) = i by omega] at this
    exact this

theorem upTo_mem {x : Nat} : ∀ {n a : Nat}, x ∈ upTo a n ↔ a ≤ x ∧ x < a + n := by
  intro n
  induction n with
  | zero => intro a; simp only [upTo, List.not_mem_nil, false_iff]; omega
  | succ n ih => intro a; simp only [upTo, List.mem_cons, ih]; omega

theorem all_up {n a : Nat} {f : Nat → E} : ((upTo a n).map f).all (E.tt env) = true ↔ ∀ j, a ≤ j → j < a + n → (f j).tt env = true := by
  rw [List.all_map, List.all_eq_true]
  constructor
  · intro h j h1 h2; exact h j (upTo_mem.2 ⟨h1, h2⟩)
  · intro h j hj; obtain ⟨h1, h2⟩ := upTo_mem.1 hj; exact h j h1 h2

theorem t2_iff : t2E.tt env = true ↔ ∀ j, 35 ≤ j → j < 79 → cAt (psE.map (E.den env)) j = cAt (cellsD.map (E.den env)) j := by
  unfold t2E
  rw [andTo_tt, Bool.and_eq_true, all_up, tt_ite, andL_tt, andL_tt, tt_lit]
  constructor
  · rintro ⟨h1, h3⟩ j hj hj'
    split at h3
    · rename_i h4
      rw [all_up] at h3 h4
      have : (sT j).tt env = true := by
        by_cases a : j < 47
        · exact h1 j hj (by omega)
        · by_cases b : j < 63
          · exact h4 j (by omega) (by omega)
          · exact h3 j (by omega) (by omega)
      rw [sT_tt] at this
      exact of_decide_eq_true this
    · cases h3
  · intro h
    have hs : ∀ j, 35 ≤ j → j < 79 → (sT j).tt env = true := fun j h1 h2 => by rw [sT_tt]; exact decide_eq_true (h j h1 h2)
    refine ⟨fun j h1 h2 => hs j h1 (by omega), ?_⟩
    rw [if_pos (all_up.2 fun j h1 h2 => hs j (by omega) (by omega))]
    exact all_up.2 fun j h1 h2 => hs j (by omega) (by omega)

theorem first_all (hF : EnvF Phi env) (h : t2E.tt env = true) : ∀ t ∈ firstL, t.tt env = true := by
  have hs := t2_iff.1 h
  intro t ht
  simp only [firstL, List.mem_cons, List.not_mem_nil, or_false] at ht
  have r : ∀ j, 35 ≤ j → j < 79 → (sT j).tt env = true := fun j h1 h2 => by rw [sT_tt]; exact decide_eq_true (hs j h1 h2)
  have q : ∀ o, o = 12 ∨ o = 20 → (orT o).tt env = true := fun o ho => by
    rw [orT_tt]; exact decide_eq_true ((reg_iff hF ho).2 fun k hk => hs _ (by omega) (by omega))
  rcases ht with h | h | h | h | h | h | h | h | h | h | h | h
  · rw [h]; exact r 35 (by decide) (by decide)
  · rw [h]; exact r 37 (by decide) (by decide)
  · rw [h]; exact r 36 (by decide) (by decide)
  · rw [h]; exact r 38 (by decide) (by decide)
  · rw [h]; exact r 40 (by decide) (by decide)
  · rw [h]; exact r 39 (by decide) (by decide)
  · rw [h]; exact r 41 (by decide) (by decide)
  · rw [h]; exact r 42 (by decide) (by decide)
  · rw [h]; exact r 43 (by decide) (by decide)
  · rw [h]; exact r 44 (by decide) (by decide)
  · rw [h]; exact q 12 (.inl rfl)
  · rw [h]; exact q 20 (.inr rfl)

theorem tell_tt (hF : EnvF Phi env) (hall : ∀ t ∈ firstL, t.tt env = true) : tellE.tt env = true := by
  have key : t1E.tt env = !t2E.tt env := by
    have h1 : t1E.tt env = false ↔ ∀ j, 35 ≤ j → j < 79 → cAt (psE.map (E.den env)) j = cAt (cellsD.map (E.den env)) j := by
      have h0 : (E.ite (sT 63) (ntE (sT 64)) (.lit 1)).tt env = !((sT 63).tt env && (sT 64).tt env) := by
        rw [tt_ite, ntE_tt, tt_lit]
        cases (sT 63).tt env <;> cases (sT 64).tt env <;> simp [intBeq_eq]
      unfold t1E
      rw [orTo_tt, h0, Bool.or_eq_false_iff, Bool.not_eq_false', Bool.not_eq_false', Bool.and_eq_true]
      unfold lastL
      rw [List.all_append, Bool.and_eq_true, all_up]
      simp only [List.all_cons, List.all_nil, Bool.and_true, Bool.and_eq_true, sT_tt, decide_eq_true_eq]
      simp only [firstL, List.forall_mem_cons, sT_tt, orT_tt, decide_eq_true_eq, reg_iff hF (.inl rfl), reg_iff hF (.inr rfl)] at hall
      obtain ⟨a35, a37, a36, a38, a40, a39, a41, a42, a43, a44, r0, r2, _⟩ := hall
      constructor
      · rintro ⟨⟨a63, a64⟩, adr, a45, a46, _, _⟩ j hj hj'
        by_cases h65 : 65 ≤ j
        · exact adr j h65 (by omega)
        · by_cases h63 : 63 ≤ j
          · have : j = 63 ∨ j = 64 := by omega
            rcases this with rfl | rfl <;> assumption
          · by_cases h55 : 55 ≤ j
            · have := r2 (j - 55) (by omega)
              rwa [show 35 + 20 + (j - 55) = j by omega] at this
            · by_cases h47 : 47 ≤ j
              · have := r0 (j - 47) (by omega)
                rwa [show 35 + 12 + (j - 47) = j by omega] at this
              · have : j = 35 ∨ j = 36 ∨ j = 37 ∨ j = 38 ∨ j = 39 ∨ j = 40 ∨ j = 41 ∨ j = 42 ∨ j = 43 ∨ j = 44 ∨ j = 45 ∨ j = 46 := by omega
                rcases this with rfl | rfl | rfl | rfl | rfl | rfl | rfl | rfl | rfl | rfl | rfl | rfl <;> assumption
      · intro h
        exact ⟨⟨h 63 (by decide) (by decide), h 64 (by decide) (by decide)⟩, fun j h1 h2 => h j (by omega) (by omega), h 45 (by decide) (by decide), h 46 (by decide) (by decide), h 45 (by decide) (by decide), h 46 (by decide) (by decide)⟩
    have h2 := t2_iff (env := env)
    cases a : t1E.tt env <;> cases b : t2E.tt env
    · have := h2.2 (h1.1 a); rw [b] at this; cases this
    · rfl
    · rfl
    · have := h1.2 (h2.1 b); rw [a] at this; cases this
  unfold tellE
  rw [tt_ite, ntE_tt, key]
  cases t2E.tt env <;> rfl

theorem tell_b : isB tellE = true := by kernel_rfl
theorem first_test : firstL.all isTest = true := by kernel_rfl

theorem trueQ_ok : ∀ {l : List E}, (∀ t ∈ l, isTest t = true ∧ t.tt env = true) → ∀ p ∈ trueQ l, p.1.den env = p.2.den env := by
  intro l
  induction l with
  | nil => intro _ p hp; cases hp
  | cons t l ih =>
    intro h p hp
    rcases List.mem_append.1 hp with hp | hp
    · exact isE2_ok (h t (by simp)).1 (h t (by simp)).2 p hp
    · exact ih (fun t ht => h t (by simp [ht])) p hp

theorem split_first : ∀ (l : List E), (∃ i, i < l.length ∧ (∀ t ∈ l.take i, t.tt env = true) ∧ ∃ t r, l.drop i = t :: r ∧ t.tt env = false) ∨ ∀ t ∈ l, t.tt env = true := by
  intro l
  induction l with
  | nil => exact .inr (by simp)
  | cons t l ih =>
    cases ht : t.tt env with
    | false => exact .inl ⟨0, by simp, by simp, t, l, rfl, ht⟩
    | true =>
      rcases ih with ⟨i, h1, h2, h3⟩ | h
      · refine .inl ⟨i + 1, by simpa using h1, fun x hx => ?_, h3⟩
        rcases List.mem_cons.1 (by simpa using hx) with rfl | hx
        · exact ht
        · exact h2 x hx
      · refine .inr fun x hx => ?_
        rcases List.mem_cons.1 hx with rfl | hx
        · exact ht
        · exact h x hx

theorem tell_cases (hF : EnvF Phi env) : ∃ i, i < 13 ∧ ∀ p ∈ tellQ i, p.1.den env = p.2.den env := by
  have isT : ∀ t ∈ firstL, isTest t = true := fun t ht => List.all_eq_true.1 first_test t ht
  rcases split_first (env := env) firstL with ⟨i, h1, h2, t, r, h3, h4⟩ | h
  · refine ⟨i, Nat.lt_of_lt_of_le h1 (by decide), fun p hp => ?_⟩
    unfold tellQ at hp
    rw [h3] at hp
    have hmem : t ∈ firstL := List.mem_of_mem_drop (i := i) (by rw [h3]; simp)
    rcases List.mem_append.1 hp with hp | hp
    · exact trueQ_ok (fun x hx => ⟨isT x (List.mem_of_mem_take hx), h2 x hx⟩) p hp
    rcases List.mem_append.1 hp with hp | hp
    · rcases List.mem_append.1 hp with hp | hp
      · exact isE2_ok (isT t hmem) h4 p hp
      · simp only [List.mem_singleton] at hp
        subst hp
        have hf : t2E.tt env = false := by
          cases hb : t2E.tt env with
          | false => rfl
          | true => have := first_all hF hb t hmem; rw [h4] at this; cases this
        have h5 : (ntE t2E).tt env = true := by rw [ntE_tt, hf]; rfl
        show (ntE t2E).den env = 1
        rw [isB_den (show isB (ntE t2E) = true from rfl), h5]; rfl
    · exact liveQ_ok hF p hp
  · refine ⟨12, by decide, fun p hp => ?_⟩
    unfold tellQ at hp
    rcases List.mem_append.1 hp with hp | hp
    · exact trueQ_ok (fun x hx => ⟨isT x (List.mem_of_mem_take hx), h x (List.mem_of_mem_take hx)⟩) p hp
    rcases List.mem_append.1 hp with hp | hp
    · have hd : firstL.drop 12 = [] := rfl
      rw [hd] at hp
      simp only [List.mem_singleton] at hp
      subst hp
      show tellE.den env = 1
      rw [isB_den tell_b, tell_tt hF h]; rfl
    · exact liveQ_ok hF p hp

end
end Go.Proofs.Ytibfaifjnifgjaa
