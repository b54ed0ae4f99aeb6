/-
  TopTimer's loop: what holds from round to round. No condition.
-/
import Derived.Test.YtnlgfccjohhcmaaGreatDoorTopSum
namespace Go.Top
open Go.Sx Go.RowKit Go.Proofs

def Inv (i m : Nat) (env : Env) : Prop :=
  i < 6 ∧ 1 ≤ env.v 4 ∧ env.v 4 ≤ 20 ∧ 0 ≤ env.v 5 ∧ env.v 5 ≤ env.v 6 ∧ env.v 6 ≤ 60 ∧ env.v 6 ≤ ((env.sl 3).2.1 : Int) ∧ env.v 7 = 100 + env.v 5 ∧ env.v 8 = 100 + env.v 4 ∧
    (i < 4 → env.v 5 < env.v 4) ∧ (4 ≤ i → env.v 4 ≤ env.v 5) ∧ (m : Int) = 60 - env.v 6

theorem upd_of {env : Env} {σ : List (Nat × E)} {j : Nat} {e : E} (h : lookV j σ = some e) : (updV env σ).v j = e.den env := by
  show (match lookV j σ with | some e => e.den env | none => env.v j) = _
  rw [h]

theorem look (i c : Nat) (hi : i < 6) (hc : c < 3) : lookV 4 (sgR i c) = some (.var 4) ∧ lookV 5 (sgR i c) = some (up .i64 5 (tk i c)).2 ∧ lookV 6 (sgR i c) = some (.bin .add .i64 (.var 6) (.lit 1)) ∧ lookV 7 (sgR i c) = some (up .u64 7 (tk i c)).2 ∧ lookV 8 (sgR i c) = some (.var 8) := by
  have h1 : i = 0 ∨ i = 1 ∨ i = 2 ∨ i = 3 ∨ i = 4 ∨ i = 5 := by omega
  have h2 : c = 0 ∨ c = 1 ∨ c = 2 := by omega
  rcases h1 with rfl | rfl | rfl | rfl | rfl | rfl <;> rcases h2 with rfl | rfl | rfl <;> exact ⟨rfl, rfl, rfl, rfl, rfl⟩

theorem den_bin (env : Env) (o : BinOp) (k : IntKind) (a b : E) : (E.bin o k a b).den env = binDen o k (a.den env) (b.den env) := rfl
theorem den_var (env : Env) (j : Nat) : (E.var j).den env = env.v j := rfl

theorem wrap_i64 {x : Int} (h0 : -9223372036854775808 ≤ x) (h1 : x ≤ 9223372036854775807) : IntKind.i64.wrap x = x := by
  simp only [IntKind.wrap, IntKind.signed, IntKind.bits]
  simp
  omega
theorem wrap_u64 {x : Int} (h0 : 0 ≤ x) (h1 : x ≤ 18446744073709551615) : IntKind.u64.wrap x = x := by
  simp only [IntKind.wrap, IntKind.signed, IntKind.bits]
  simp
  omega

theorem add_i64 {env : Env} {j : Nat} (h0 : 0 ≤ env.v j) (h1 : env.v j ≤ 100000) : (E.bin .add .i64 (.var j) (.lit 1)).den env = env.v j + 1 := by
  rw [den_bin, den_var, den_lit]; exact wrap_i64 (by omega) (by omega)
theorem add_u64 {env : Env} {j : Nat} (h0 : 0 ≤ env.v j) (h1 : env.v j ≤ 100000) : (E.bin .add .u64 (.var j) (.lit 1)).den env = env.v j + 1 := by
  rw [den_bin, den_var, den_lit]; exact wrap_u64 (by omega) (by omega)

theorem up_i64 {env : Env} {j : Nat} (h0 : 0 ≤ env.v j) (h1 : env.v j ≤ 100000) (b : Bool) : (up .i64 j b).2.den env = env.v j + (if b then 1 else 0) := by
  cases b
  · simp [up, den_var]
  · simp only [up, if_true]; exact add_i64 h0 h1
theorem up_u64 {env : Env} {j : Nat} (h0 : 0 ≤ env.v j) (h1 : env.v j ≤ 100000) (b : Bool) : (up .u64 j b).2.den env = env.v j + (if b then 1 else 0) := by
  cases b
  · simp [up, den_var]
  · simp only [up, if_true]; exact add_u64 h0 h1

/-- The case of a round: the equations hold, and what is known behind it. -/
theorem pick {i m : Nat} {env : Env} (hI : Inv i m env) (hlen : env.v 6 < ((env.sl 3).2.1 : Int)) (h60 : env.v 6 < 60) (ht : env.f 1300 [env.v 6] = 0 ∨ env.f 1300 [env.v 6] = 1) :
    ∃ c, c < 3 ∧ Eqs env (eqsR i c) ∧ Inv (nx i c) (m - 1) (updV env (sgR i c)) ∧ m - 1 < m := by
  obtain ⟨h0, h1, h2, h3, h4, h5, h6, h7, h8, h9, h10, h11⟩ := hI
  have hF : (fE 0).den env = env.f 1300 [env.v 6] := rfl
  have l1 : (E.bin .lss .i64 (.var 6) (.slen 3)).den env = 1 := by
    show b2i (decide (env.v 6 < ((env.sl 3).2.1 : Int))) = 1
    rw [decide_eq_true hlen]; rfl
  have l2 : (E.bin .lss .i64 (.var 6) (.lit 60)).den env = 1 := by
    show b2i (decide (env.v 6 < 60)) = 1
    rw [decide_eq_true h60]; rfl
  have t1 : t1E.den env = env.v 5 + 1 := add_i64 h3 (by omega)
  have m1 : m1E.den env = env.v 7 + 1 := add_u64 (by omega) (by omega)
  have eqd : ∀ (a b : E) (k : IntKind), (E.bin .eql k a b).den env = b2i (a.den env == b.den env) := fun _ _ _ => rfl
  have ltd : ∀ (a b : E) (k : IntKind), (E.bin .lss k a b).den env = b2i (decide (a.den env < b.den env)) := fun _ _ _ => rfl
  have gqd : ∀ (a b : E), (gqE a b).den env = b2i (decide (b.den env ≤ a.den env)) := fun a b => by
    show b2i (b2i (decide (a.den env < b.den env)) == 0) = _
    by_cases h : a.den env < b.den env
    · rw [decide_eq_true h, decide_eq_false (by omega)]; rfl
    · rw [decide_eq_false h, decide_eq_true (by omega)]; rfl
  have inv : ∀ c, c < 3 → nx i c < 6 → (nx i c < 4 → env.v 5 + (if tk i c then 1 else 0) < env.v 4) → (4 ≤ nx i c → env.v 4 ≤ env.v 5 + (if tk i c then 1 else 0)) → Inv (nx i c) (m - 1) (updV env (sgR i c)) := by
    intro c hc hn hA hB
    obtain ⟨k4, k5, k6, k7, k8⟩ := look i c h0 hc
    have e4 := upd_of (env := env) k4
    have e5 := upd_of (env := env) k5
    have e6 := upd_of (env := env) k6
    have e7 := upd_of (env := env) k7
    have e8 := upd_of (env := env) k8
    rw [den_var] at e4 e8
    rw [up_i64 h3 (by omega)] at e5
    rw [add_i64 (by omega) (by omega)] at e6
    rw [up_u64 (by omega) (by omega)] at e7
    have hb : (if tk i c = true then (1 : Int) else 0) = 0 ∨ (if tk i c = true then (1 : Int) else 0) = 1 := by
      split
      · exact .inr rfl
      · exact .inl rfl
    refine ⟨hn, ?_, ?_, ?_, ?_, ?_, ?_, ?_, ?_, ?_, ?_, ?_⟩
    · rw [e4]; exact h1
    · rw [e4]; exact h2
    · rw [e5]; omega
    · rw [e5, e6]; omega
    · rw [e6]; omega
    · rw [e6, updV_sl]; omega
    · rw [e7, e5]; omega
    · rw [e8, e4]; exact h8
    · intro hh; rw [e5, e4]; exact hA hh
    · intro hh; rw [e5, e4]; exact hB hh
    · rw [e6]; omega
  -- the equations, as four facts
  have mk0 : ∀ (eq lt upn : Int), env.f 1300 [env.v 6] = 0 → b2i (env.v 5 == env.v 4) = eq → b2i (decide (env.v 5 < env.v 4)) = lt → b2i (decide (env.v 8 ≤ env.v 7)) = upn → Eqs env (eqsT 0 eq lt upn) := by
    intro eq lt upn a1 a2 a3 a4 p hp
    have hp : p ∈ loopE ++ [(fE 0, E.lit 0), (.bin .eql .i64 (.var 5) (.var 4), .lit eq), (.bin .lss .i64 (.var 5) (.var 4), .lit lt), (gqE (.var 7) (.var 8), .lit upn)] := hp
    simp only [loopE, List.cons_append, List.nil_append, List.mem_cons, List.not_mem_nil, or_false] at hp
    rcases hp with rfl | rfl | rfl | rfl | rfl | rfl
    · exact l1
    · exact l2
    · exact a1
    · show (E.bin .eql .i64 (.var 5) (.var 4)).den env = eq; rw [eqd]; exact a2
    · show (E.bin .lss .i64 (.var 5) (.var 4)).den env = lt; rw [ltd]; exact a3
    · show (gqE (.var 7) (.var 8)).den env = upn; rw [gqd]; exact a4
  have mk1 : ∀ (eq lt upn : Int), env.f 1300 [env.v 6] = 1 → b2i (env.v 5 + 1 == env.v 4) = eq → b2i (decide (env.v 5 + 1 < env.v 4)) = lt → b2i (decide (env.v 8 ≤ env.v 7 + 1)) = upn → Eqs env (eqsT 1 eq lt upn) := by
    intro eq lt upn a1 a2 a3 a4 p hp
    have hp : p ∈ loopE ++ [(fE 0, E.lit 1), (.bin .eql .i64 t1E (.var 4), .lit eq), (.bin .lss .i64 t1E (.var 4), .lit lt), (gqE m1E (.var 8), .lit upn)] := hp
    simp only [loopE, List.cons_append, List.nil_append, List.mem_cons, List.not_mem_nil, or_false] at hp
    rcases hp with rfl | rfl | rfl | rfl | rfl | rfl
    · exact l1
    · exact l2
    · exact a1
    · show (E.bin .eql .i64 t1E (.var 4)).den env = eq; rw [eqd, t1]; exact a2
    · show (E.bin .lss .i64 t1E (.var 4)).den env = lt; rw [ltd, t1]; exact a3
    · show (gqE m1E (.var 8)).den env = upn; rw [gqd, m1]; exact a4
  have hm : m - 1 < m := by omega
  have bT : ∀ {p : Prop} [Decidable p], p → b2i (decide p) = 1 := fun h => by rw [decide_eq_true h]; rfl
  have bF : ∀ {p : Prop} [Decidable p], ¬ p → b2i (decide p) = 0 := fun h => by rw [decide_eq_false h]; rfl
  have qT : ∀ {x y : Int}, x = y → b2i (x == y) = 1 := fun h => by subst h; simp [b2i]
  have qF : ∀ {x y : Int}, x ≠ y → b2i (x == y) = 0 := fun h => by simp [b2i, h]
  by_cases hi : i < 4
  · have hb : Nat.blt i 4 = true := by simpa [Nat.blt_eq] using hi
    have h9 := h9 hi
    rcases ht with ht | ht
    · refine ⟨0, by omega, ?_, ?_, hm⟩
      · have : eqsR i 0 = eqsT 0 0 1 0 := by unfold eqsR; exact if_pos hb
        rw [this]
        exact mk0 0 1 0 ht (qF (by omega)) (bT h9) (bF (by omega))
      · have e1 : nx i 0 = i := by unfold nx; exact if_pos hb
        have e2 : tk i 0 = false := by unfold tk; exact if_pos hb
        exact inv 0 (by omega) (by rw [e1]; exact h0) (fun _ => by rw [e2]; simp; omega) (fun h => by rw [e1] at h; omega)
    · by_cases hq : env.v 5 + 1 = env.v 4
      · refine ⟨2, by omega, ?_, ?_, hm⟩
        · have : eqsR i 2 = eqsT 1 1 0 1 := by unfold eqsR; exact if_pos hb
          rw [this]
          exact mk1 1 0 1 ht (qT hq) (bF (by omega)) (bT (by omega))
        · have e1 : nx i 2 = 4 ∨ nx i 2 = 5 := by
            have h22 : nx i 2 = if Nat.blt i 2 then 4 else 5 := by unfold nx; exact if_pos hb
            rw [h22]
            split
            · exact .inl rfl
            · exact .inr rfl
          have e2 : tk i 2 = true := by unfold tk; exact if_pos hb
          refine inv 2 (by omega) ?_ ?_ ?_
          · omega
          · intro; omega
          · intro; rw [e2]; simp; omega
      · refine ⟨1, by omega, ?_, ?_, hm⟩
        · have : eqsR i 1 = eqsT 1 0 1 0 := by unfold eqsR; exact if_pos hb
          rw [this]
          exact mk1 0 1 0 ht (qF hq) (bT (by omega)) (bF (by omega))
        · have e1 : nx i 1 = i := by unfold nx; exact if_pos hb
          have e2 : tk i 1 = true := by unfold tk; exact if_pos hb
          exact inv 1 (by omega) (by rw [e1]; exact h0) (fun _ => by rw [e2]; simp; omega) (fun h => by rw [e1] at h; omega)
  · have hb : ¬ Nat.blt i 4 = true := by simpa [Nat.blt_eq] using hi
    have h10 := h10 (by omega)
    have e1 : ∀ c, nx i c = i := fun c => by unfold nx; exact if_neg hb
    rcases ht with ht | ht
    · by_cases hq : env.v 5 = env.v 4
      · refine ⟨1, by omega, ?_, ?_, hm⟩
        · have : eqsR i 1 = eqsT 0 1 0 1 := by unfold eqsR; exact if_neg hb
          rw [this]
          exact mk0 1 0 1 ht (qT hq) (bF (by omega)) (bT (by omega))
        · have e2 : tk i 1 = false := by unfold tk; exact if_neg hb
          exact inv 1 (by omega) (by rw [e1]; exact h0) (fun h => by rw [e1] at h; omega) (fun _ => by rw [e2]; simp; omega)
      · refine ⟨0, by omega, ?_, ?_, hm⟩
        · have : eqsR i 0 = eqsT 0 0 0 1 := by unfold eqsR; exact if_neg hb
          rw [this]
          exact mk0 0 0 1 ht (qF hq) (bF (by omega)) (bT (by omega))
        · have e2 : tk i 0 = false := by unfold tk; exact if_neg hb
          exact inv 0 (by omega) (by rw [e1]; exact h0) (fun h => by rw [e1] at h; omega) (fun _ => by rw [e2]; simp; omega)
    · refine ⟨2, by omega, ?_, ?_, hm⟩
      · have : eqsR i 2 = eqsT 1 0 0 1 := by unfold eqsR; exact if_neg hb
        rw [this]
        exact mk1 0 0 1 ht (qF (by omega)) (bF (by omega)) (bT (by omega))
      · have e2 : tk i 2 = true := by unfold tk; exact if_neg hb
        exact inv 2 (by omega) (by rw [e1]; exact h0) (fun h => by rw [e1] at h; omega) (fun _ => by rw [e2]; simp; omega)

end Go.Top
