/-
  The lowest entry that holds a byte decides alone: the equations of the runs, and how they go. No condition.
-/
import Derived.Test.YtibfaifjnifgjaaPmpSpec
namespace Go.Proofs.Ytibfaifjnifgjaa
open Go.Sx Go.RowKit
namespace PmpFirstP
abbrev Φ := Phi
def kds : List Kd := List.replicate 16 (Kd.num (some .u8)) ++ List.replicate 16 (Kd.num (some .u64)) ++ [Kd.num (some .i64)] ++ [Kd.num (some .u64)] ++ [Kd.num (some .i64)] ++ [Kd.num (some .u64)] ++ List.replicate 2 (Kd.num (some .i64))
noncomputable def cs : List C := match argsC Try.prog [37] 0 with | some r => r.1 | none => []
noncomputable def c30 : E := .app 30 (argV [.var 35, .var 36])
noncomputable def c31 : E := .app 31 (argV [.var 35, .var 36])
noncomputable def c32 : E := .app 32 (argV [.var 34, .var 35, .var 36, .var 37])
def qc (j i : Nat) : E := if Nat.ble i j then cT i else .lit 0
def qa (j i : Nat) : E := if Nat.ble i j then aT i else a54 (.var 33)
def canonQ (j : Nat) : List E := (List.range 16).map (qc j) ++ (List.range 16).map (qa j)
noncomputable def argQ (j : Nat) (rest : List E) : E := listE (canonQ j ++ rest)
noncomputable def okC : E := .ite c31 c32 (.lit 0)
def byA (b : Nat) : E := .bin .add .u64 (.var 35) (.lit (Int.ofNat b))
def nT (i b : Nat) : E := .bin .eql .i64 (.bin .lss .u64 (tri 24 i) (byA b)) (.lit 0)
def nEq (i b : Nat) : E × E := (nT i b, .ite (ltE (.lit (Int.ofNat b)) (.var 36)) (.ite (tri 25 i) (.ite (.bin .lss .u64 (byA b) (tri 23 i)) (nT i b) (.lit 0)) (nT i b)) (nT i b))
noncomputable def eqsJ (j : Nat) : List (E × E) :=
  (c30, .lit (Int.ofNat j)) :: (.app 30 (argQ j [.var 35, .var 36]), .lit (Int.ofNat j)) :: (.app 31 (argQ j [.var 35, .var 36]), c31) :: (c32, okC) :: (.app 32 (argQ j [.var 34, .var 35, .var 36, .var 37]), okC) ::
    (List.range j).flatMap fun i => (List.range 8).map fun b => nEq i b
noncomputable def eqsN : List (E × E) := [(c30, .lit (-1)), (c31, .lit 0), (c32, .ite (eqE (.var 34) (.lit 3)) c32 (.lit 0))]


noncomputable def lawWL (osz : Nat → Option (List (Option IntKind))) (eqs : List (E × E)) : Ctx :=
  { P := Try.prog, sg := sgQ (nrmW eqs), sp := fun _ => false, osz := osz, nrm := nrmW eqs, nf := fun _ => false, fr := fun _ => true }
set_option maxRecDepth 100000 in
theorem case_lawWL {f : FuncId} {kds : List Kd} {cs : List C} {env : Env} (hF : EnvF Phi env) (n : Nat) (eqs : List (E × E)) (he : ∀ p ∈ eqs, p.1.den env = p.2.den env)
    (h : isTrueK [] (evFn (lawWL (oszOf kds) eqs) n f cs []) = true) : Case Try.prog f kds cs env :=
  ⟨lawWL (oszOf kds) eqs, cs, n, rfl, rfl, nrmW_den hF he, sgQ_ok hF (nrmW_den hF he), fun _ h => h, isTrueK_sat KnownOk.nil h⟩
noncomputable def runQ (eqs : List (E × E)) : Bool := isTrueK [] (evFn (lawWL (oszOf kds) eqs) 1000 27 cs [])

set_option maxRecDepth 100000 in
theorem case_q {env : Env} (hF : EnvF Phi env) {eqs : List (E × E)} (he : ∀ p ∈ eqs, p.1.den env = p.2.den env) (h : runQ eqs = true) : Case Try.prog 27 kds cs env := by
  unfold runQ at h
  exact case_lawWL hF 1000 eqs he h

section
variable {env : Env}

theorem cfgV (env : Env) {i : Nat} (hi : i < 16) : cfgAt (canonV.map (E.den env)) i = (cT i).den env := by
  unfold cfgAt canonV
  rw [List.getElem?_map, List.getElem?_append_left (by simpa using hi), List.getElem?_map, List.getElem?_range hi]; rfl
theorem adrV (env : Env) {i : Nat} (hi : i < 16) : adrAt (canonV.map (E.den env)) i = (aT i).den env := by
  unfold adrAt canonV
  rw [List.getElem?_map, List.getElem?_append_right (by simp), List.getElem?_map, show 16 + i - (List.map cT (List.range 16)).length = i by simp, List.getElem?_range hi]; rfl
theorem cfgQ (env : Env) (j : Nat) (r : List Int) {i : Nat} (hi : i < 16) : cfgAt ((canonQ j).map (E.den env) ++ r) i = (qc j i).den env := by
  unfold cfgAt canonQ
  rw [List.getElem?_append_left (by simp; omega), List.getElem?_map, List.getElem?_append_left (by simpa using hi), List.getElem?_map, List.getElem?_range hi]; rfl
theorem adrQ (env : Env) (j : Nat) (r : List Int) {i : Nat} (hi : i < 16) : adrAt ((canonQ j).map (E.den env) ++ r) i = (qa j i).den env := by
  unfold adrAt canonQ
  rw [List.getElem?_append_left (by simp; omega), List.getElem?_map, List.getElem?_append_right (by simp), List.getElem?_map, show 16 + i - (List.map (qc j) (List.range 16)).length = i by simp, List.getElem?_range hi]; rfl

theorem prevV (env : Env) {i : Nat} (hi : i < 16) : prevAt (canonV.map (E.den env)) i = (pT i).den env := by
  unfold prevAt
  cases i with
  | zero => rfl
  | succ j => simp only [Nat.add_one_ne_zero, if_false, Nat.add_sub_cancel]; rw [adrV env (by omega)]; rfl

/-- The entries up to j are as they were. -/
theorem holdsQ (env : Env) (r : List Int) {i j : Nat} (hj : j < 16) (hi : i ≤ j) (b : Int) : holdsF ((canonQ j).map (E.den env) ++ r) i b = holdsF (canonV.map (E.den env)) i b := by
  have c : ∀ k, k ≤ j → cfgAt ((canonQ j).map (E.den env) ++ r) k = cfgAt (canonV.map (E.den env)) k := fun k hk => by
    rw [cfgQ env j r (by omega), cfgV env (by omega), qc, if_pos (Nat.ble_eq_true_of_le hk)]
  have a : ∀ k, k ≤ j → adrAt ((canonQ j).map (E.den env) ++ r) k = adrAt (canonV.map (E.den env)) k := fun k hk => by
    rw [adrQ env j r (by omega), adrV env (by omega), qa, if_pos (Nat.ble_eq_true_of_le hk)]
  have p : prevAt ((canonQ j).map (E.den env) ++ r) i = prevAt (canonV.map (E.den env)) i := by
    unfold prevAt
    split
    · rfl
    · exact a (i - 1) (by omega)
  unfold holdsF
  rw [c i hi, a i hi, p]

theorem cntQ (env : Env) (r : List Int) {i j : Nat} (hj : j < 16) (hi : i ≤ j) (a : Int) : ∀ n, cntF ((canonQ j).map (E.den env) ++ r) i a n = cntF (canonV.map (E.den env)) i a n := by
  intro n
  induction n with
  | zero => rfl
  | succ n ih => simp only [cntF]; rw [ih, holdsQ env r hj hi]

theorem matchQ (env : Env) (r : List Int) {j : Nat} {a s : Int} (h : matchI (canonV.map (E.den env)) a s = (j : Int)) :
    matchI ((canonQ j).map (E.den env) ++ r) a s = (j : Int) ∧ matchOk ((canonQ j).map (E.den env) ++ r) a s = matchOk (canonV.map (E.den env)) a s := by
  obtain ⟨h1, h8, hj, h3, h4⟩ := match_spec h
  have hq : matchI ((canonQ j).map (E.den env) ++ r) a s = (j : Int) := match_of h1 h8 hj (by rw [cntQ env r hj (Nat.le_refl _)]; exact h3) (fun k hk => by rw [cntQ env r hj (by omega)]; exact h4 k hk)
  refine ⟨hq, ?_⟩
  unfold matchOk
  rw [hq, h, Int.toNat_natCast, cntQ env r hj (Nat.le_refl _)]

theorem checkQ (env : Env) (r : List Int) {j : Nat} {m a s b : Int} (h : matchI (canonV.map (E.den env)) a s = (j : Int)) : checkF ((canonQ j).map (E.den env) ++ r) m a s b = checkF (canonV.map (E.den env)) m a s b := by
  obtain ⟨h1, h2⟩ := matchQ env r h
  have hj := (match_spec h).2.2.1
  have hc : cfgAt ((canonQ j).map (E.den env) ++ r) j = cfgAt (canonV.map (E.den env)) j := by
    rw [cfgQ env j r hj, cfgV env hj, qc, if_pos (Nat.ble_eq_true_of_le (Nat.le_refl _))]
  unfold checkF
  rw [h1, h2, h, Int.toNat_natCast, hc]

theorem q_den (env : Env) (g j : Nat) (rest : List E) : (E.app g (argQ j rest)).den env = env.f g ((canonQ j).map (E.den env) ++ rest.map (E.den env)) := by
  unfold argQ; rw [appL_den, List.map_append]

theorem restQ (env : Env) (j : Nat) (r : List Int) (i : Nat) : cAt ((canonQ j).map (E.den env) ++ r) (32 + i) = cAt r i := rest_app (by simp [canonQ]) r i

theorem check_ok {l : List Int} {m a s b : Int} {j : Nat} (hm : matchI l a s = (j : Int)) (h : matchOk l a s = 0) : checkF l m a s b = 0 := by
  unfold checkF
  split
  · have hj : ¬ ((j : Int) < 0) := by omega
    simp only [hm, hj, h, if_true, if_false]
  · rfl

theorem okC_den (hF : EnvF Φ env) {j : Nat} (hm : matchI (canonV.map (E.den env)) (env.v 35) (env.v 36) = (j : Int)) : okC.den env = c32.den env := by
  unfold okC
  rw [den_ite]
  cases ht : c31.tt env with
  | true => rfl
  | false =>
    have h0 : c31.den env = 0 := tt_false.1 ht
    have e31 : c31.den env = matchOk (canonV.map (E.den env)) (env.v 35) (env.v 36) := c31_den hF _ _
    have e32 : c32.den env = checkF (canonV.map (E.den env)) (env.v 34) (env.v 35) (env.v 36) (env.v 37) := c32_den hF _ _ _ _
    rw [e32, check_ok hm (by rw [← e31]; exact h0)]; rfl

theorem nEq_ok (hF : EnvF Φ env) {i b j : Nat} (hij : i < j) (hm : matchI (canonV.map (E.den env)) (env.v 35) (env.v 36) = (j : Int)) : (nEq i b).1.den env = (nEq i b).2.den env := by
  obtain ⟨_, _, hj, _, h4⟩ := match_spec hm
  show (nT i b).den env = (E.ite _ _ _).den env
  rw [den_ite, den_ite, den_ite, ltE_tt]
  have hb36 : (E.var 36).den env = env.v 36 := rfl
  rw [hb36, den_lit]
  by_cases hb : (Int.ofNat b) < env.v 36
  · rw [decide_eq_true hb, if_pos rfl]
    have hb' : ((b : Nat) : Int) < env.v 36 := hb
    have hh := cnt_zero (h4 i hij) b (by omega)
    have t : ∀ g, (tri g i).den env = env.f g [cfgAt (canonV.map (E.den env)) i, prevAt (canonV.map (E.den env)) i, adrAt (canonV.map (E.den env)) i] := fun g => by
      rw [cfgV env (by omega), adrV env (by omega), prevV env (by omega)]; rfl
    have by0 : (byA b).den env = IntKind.u64.wrap (env.v 35 + (b : Int)) := rfl
    unfold holdsF at hh
    cases ho : (tri 25 i).tt env with
    | false => rfl
    | true =>
      rw [if_pos rfl]
      have ho' : okF (cfgAt (canonV.map (E.den env)) i) (prevAt (canonV.map (E.den env)) i) (adrAt (canonV.map (E.den env)) i) ≠ 0 := by
        have := tt_true.1 ho
        rw [t, f25 hF] at this; exact this
      rw [decide_eq_true ho', Bool.true_and] at hh
      have lo : (E.bin .lss .u64 (byA b) (tri 23 i)).tt env = decide (IntKind.u64.wrap (env.v 35 + (b : Int)) < fromF (cfgAt (canonV.map (E.den env)) i) (prevAt (canonV.map (E.den env)) i) (adrAt (canonV.map (E.den env)) i)) := by
        rw [lt_tt, by0, t, f23 hF]; rfl
      rw [lo]
      by_cases hlo : IntKind.u64.wrap (env.v 35 + (b : Int)) < fromF (cfgAt (canonV.map (E.den env)) i) (prevAt (canonV.map (E.den env)) i) (adrAt (canonV.map (E.den env)) i)
      · rw [decide_eq_true hlo, if_pos rfl]
      · rw [decide_eq_false hlo, if_neg (by simp)]
        rw [decide_eq_true (show fromF _ _ _ ≤ _ by omega), Bool.true_and] at hh
        have hhi := of_decide_eq_false hh
        show b2i (b2i (decide ((tri 24 i).den env < (byA b).den env)) == 0) = 0
        rw [by0, t, f24 hF, decide_eq_true (show toF _ _ _ < _ by
          show toF (cfgAt (canonV.map (E.den env)) i) (prevAt (canonV.map (E.den env)) i) (adrAt (canonV.map (E.den env)) i) < _
          omega)]
        rfl
  · rw [decide_eq_false hb, if_neg (by simp)]

theorem eqsJ_ok (hF : EnvF Φ env) {j : Nat} (hm : matchI (canonV.map (E.den env)) (env.v 35) (env.v 36) = (j : Int)) : ∀ p ∈ eqsJ j, p.1.den env = p.2.den env := by
  have e30 : c30.den env = matchI (canonV.map (E.den env)) (env.v 35) (env.v 36) := c30_den hF _ _
  have e31 : c31.den env = matchOk (canonV.map (E.den env)) (env.v 35) (env.v 36) := c31_den hF _ _
  have e32 : c32.den env = checkF (canonV.map (E.den env)) (env.v 34) (env.v 35) (env.v 36) (env.v 37) := c32_den hF _ _ _ _
  intro p hp
  simp only [eqsJ, List.mem_cons] at hp
  rcases hp with rfl | rfl | rfl | rfl | rfl | hp
  · show c30.den env = _
    rw [e30, hm]; rfl
  · show (E.app 30 (argQ j [.var 35, .var 36])).den env = _
    rw [q_den, f30 hF, restQ env j _ 0, restQ env j _ 1]
    exact (matchQ env _ hm).1
  · show (E.app 31 (argQ j [.var 35, .var 36])).den env = c31.den env
    rw [q_den, f31 hF, restQ env j _ 0, restQ env j _ 1, e31]
    exact (matchQ env _ hm).2
  · exact (okC_den hF hm).symm
  · show (E.app 32 (argQ j [.var 34, .var 35, .var 36, .var 37])).den env = okC.den env
    rw [okC_den hF hm, q_den, f32 hF, restQ env j _ 0, restQ env j _ 1, restQ env j _ 2, restQ env j _ 3, e32]
    exact checkQ env _ hm
  · simp only [List.mem_flatMap, List.mem_map, List.mem_range] at hp
    obtain ⟨i, hi, b, _, rfl⟩ := hp
    exact nEq_ok hF hi hm

theorem eqsN_ok (hF : EnvF Φ env) (hm : matchI (canonV.map (E.den env)) (env.v 35) (env.v 36) = -1) : ∀ p ∈ eqsN, p.1.den env = p.2.den env := by
  have e30 : c30.den env = matchI (canonV.map (E.den env)) (env.v 35) (env.v 36) := c30_den hF _ _
  have e31 : c31.den env = matchOk (canonV.map (E.den env)) (env.v 35) (env.v 36) := c31_den hF _ _
  have e32 : c32.den env = checkF (canonV.map (E.den env)) (env.v 34) (env.v 35) (env.v 36) (env.v 37) := c32_den hF _ _ _ _
  intro p hp
  simp only [eqsN, List.mem_cons, List.not_mem_nil, or_false] at hp
  rcases hp with rfl | rfl | rfl
  · show c30.den env = _
    rw [e30, hm]; rfl
  · show c31.den env = _
    rw [e31]; unfold matchOk; rw [hm]; rfl
  · show c32.den env = (E.ite (eqE (.var 34) (.lit 3)) c32 (.lit 0)).den env
    rw [den_ite, eqE_tt, beq_dec]
    have d34 : (E.var 34).den env = env.v 34 := rfl
    rw [d34, den_lit]
    by_cases h3 : env.v 34 = 3
    · rw [decide_eq_true h3]; rfl
    · rw [decide_eq_false h3, if_neg (by simp), e32, den_lit]
      unfold checkF
      split
      · rw [hm, if_pos (by decide), decide_eq_false h3]; rfl
      · rfl

end


end PmpFirstP
end Go.Proofs.Ytibfaifjnifgjaa
