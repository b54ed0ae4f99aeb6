/-
  Rounds of a loop, where some tests are known; an invariant of the loop's variables. No condition but those in the statements.
-/
import Derived.Test.YtibfaifjnifgjaaPmpSpec
namespace Go.Proofs.Ytibfaifjnifgjaa
open Go.Sx Go.RowKit

/-- The run ends in 'true', where some tests are known. -/
noncomputable def endK (P : Program) (fn : Func) (kn : List (E × Bool)) : T (X × St) → Bool
  | .leaf r => (match r.1 with | .exit _ => false | _ => true) && (match evResults P fn.results.toList r.2 with
    | some (.bool e) => (match under kn e with
      | .lit n => !intBeq n 0
      | _ => false)
    | _ => false)
  | .br c a b => match under kn c with
    | .lit n => if intBeq n 0 then endK P fn kn b else endK P fn kn a
    | c' => endK P fn (learn c' true kn) a && endK P fn (learn c' false kn) b
  | .both a b => endK P fn kn a && endK P fn kn b
  | .need d t => (match under kn d with
    | .lit n => !intBeq n 0
    | _ => false) && endK P fn kn t
  | .fail _ => false

/-- Every way of a round: the counter goes up by one, under the guard, and the variables' terms are good; or the run ends in 'true'. -/
noncomputable def roundK (P : Program) (K : Ctx) (n : Nat) (f : FuncId) (fn : Func) (frs : List Fr) (base : Nat) (pat : St) (ci sl : Nat) (good : List (Nat × E) → Bool) : List (E × Bool) → Bool → T (X × St) → Bool
  | kn, g, .leaf r => match r.1 with
    | .normal => g && (match matchSt base pat r.2 with
      | some σ => (match lookV ci σ with
        | some e => e.beq (.bin .add .i64 (.var ci) (.lit 1))
        | none => false) && good σ
      | none => false)
    | x => endK P fn kn (evFrs K n f frs (x, r.2))
  | kn, g, .br c a b => match under kn c with
    | .lit z => if intBeq z 0 then roundK P K n f fn frs base pat ci sl good kn g b else roundK P K n f fn frs base pat ci sl good kn g a
    | c' => roundK P K n f fn frs base pat ci sl good (learn c' true kn) (g || c.beq (.bin .lss .i64 (.var ci) (.slen sl))) a && roundK P K n f fn frs base pat ci sl good (learn c' false kn) g b
  | kn, g, .both a b => roundK P K n f fn frs base pat ci sl good kn g a && roundK P K n f fn frs base pat ci sl good kn g b
  | kn, g, .need d t => ((g && d.beq (inBounds ci sl)) || (match under kn d with
    | .lit z => !intBeq z 0
    | _ => false)) && roundK P K n f fn frs base pat ci sl good kn g t
  | _, _, .fail _ => false

noncomputable def toK (base : Nat) (pat : St) (ci : Nat) (good : List (Nat × E) → Bool) : T (Bool × X × St) → Bool
  | .leaf r => if r.1 then (match matchSt base pat r.2.2 with
      | some σ => (match lookV ci σ with
        | some e => e.beq (.lit 0)
        | none => false) && good σ
      | none => false) else false
  | .br _ a b => toK base pat ci good a && toK base pat ci good b
  | .both a b => toK base pat ci good a && toK base pat ci good b
  | .need _ _ => false
  | .fail _ => false

theorem under_yes {env : Env} {kn : List (E × Bool)} (hk : KnownOk env kn) {e : E} (h : (match under kn e with | .lit n => !intBeq n 0 | _ => false) = true) : e.tt env = true := by
  split at h
  · rename_i n hn
    rw [← under_tt e hk, hn, tt_lit]; exact h
  · cases h

theorem endK_sat {P : Program} {fn : Func} {env : Env} : ∀ {t : T (X × St)} {kn : List (E × Bool)}, KnownOk env kn → endK P fn kn t = true → t.sat env (EndOk P fn env) := by
  intro t
  induction t with
  | leaf r =>
    intro kn hk h
    simp only [endK, Bool.and_eq_true] at h
    obtain ⟨h1, h2⟩ := h
    refine ⟨fun id hid => by rw [hid] at h1; simp at h1, ?_⟩
    split at h2
    · rename_i e he
      exact ⟨_, he, under_yes hk h2⟩
    · cases h2
  | br c a b iha ihb =>
    intro kn hk h
    have hu := under_tt c hk
    simp only [endK] at h
    split at h
    · rename_i n hn
      rw [hn, tt_lit] at hu
      split at h
      · rename_i hz
        rw [hz] at hu
        exact ⟨fun hc => by rw [hc] at hu; simp at hu, fun _ => ihb hk h⟩
      · rename_i hz
        have hz : intBeq n 0 = false := by simpa using hz
        rw [hz] at hu
        exact ⟨fun _ => iha hk h, fun hc => by rw [hc] at hu; simp at hu⟩
    · simp only [Bool.and_eq_true] at h
      exact ⟨fun hc => iha (learn_ok hk (by rw [hu, hc])) h.1, fun hc => ihb (learn_ok hk (by rw [hu, hc])) h.2⟩
  | both a b iha ihb => intro kn hk h; simp only [endK, Bool.and_eq_true] at h; exact ⟨iha hk h.1, ihb hk h.2⟩
  | need d t ih =>
    intro kn hk h
    simp only [endK, Bool.and_eq_true] at h
    exact ⟨under_yes hk h.1, ih hk h.2⟩
  | fail n => intro kn _ h; cases h

theorem roundK_sat {P : Program} {K : Ctx} {n : Nat} {f : FuncId} {fn : Func} {frs : List Fr} {base : Nat} {pat : St} {ci sl : Nat} {good : List (Nat × E) → Bool} {J : Env → Prop} {env : Env} {m : Nat} (hC : Counts ci sl m env) (hlen : (env.sl sl).2.1 ≤ 9223372036854775807)
    (hJ : ∀ σ, good σ = true → J (updV env σ)) :
    ∀ {t : T (X × St)} {kn : List (E × Bool)} {g : Bool}, KnownOk env kn → (g = true → env.v ci < ((env.sl sl).2.1 : Int)) → roundK P K n f fn frs base pat ci sl good kn g t = true →
      t.sat env (RoundEnd P K n f fn frs env (fun s => ∃ σ m', m' < m ∧ matchSt base pat s = some σ ∧ Counts ci sl m' (updV env σ) ∧ J (updV env σ))) := by
  intro t
  induction t with
  | leaf r =>
    intro kn g hk hg h
    obtain ⟨x, s⟩ := r
    cases x with
    | normal =>
      simp only [roundK, Bool.and_eq_true] at h
      obtain ⟨h1, h2⟩ := h
      have hlt := hg h1
      split at h2
      · rename_i σ hσ
        simp only [Bool.and_eq_true] at h2
        obtain ⟨h2, h3⟩ := h2
        split at h2
        · rename_i e he
          have hb := E.beq_eq h2
          subst hb
          obtain ⟨c0, c1, c2⟩ := hC
          have hv : (updV env σ).v ci = env.v ci + 1 := by
            show (match lookV ci σ with | some e => e.den env | none => env.v ci) = _
            rw [he]
            show IntKind.i64.wrap (env.v ci + 1) = _
            simp only [IntKind.wrap, IntKind.signed, IntKind.bits]
            simp
            omega
          refine ⟨σ, m - 1, by omega, hσ, ⟨?_, ?_, ?_⟩, hJ σ h3⟩
          · rw [hv]; omega
          · rw [hv, updV_sl]; omega
          · rw [hv, updV_sl]; omega
        · cases h2
      · cases h2
    | exit id => exact endK_sat hk h
    | ret => exact endK_sat hk h
  | br c a b iha ihb =>
    intro kn g hk hg h
    have hu := under_tt c hk
    simp only [roundK] at h
    split at h
    · rename_i z hz
      rw [hz, tt_lit] at hu
      split at h
      · rename_i hzz
        rw [hzz] at hu
        exact ⟨fun hc => by rw [hc] at hu; simp at hu, fun _ => ihb hk hg h⟩
      · rename_i hzz
        have hzz : intBeq z 0 = false := by simpa using hzz
        rw [hzz] at hu
        exact ⟨fun _ => iha hk hg h, fun hc => by rw [hc] at hu; simp at hu⟩
    · simp only [Bool.and_eq_true] at h
      refine ⟨fun hc => iha (learn_ok hk (by rw [hu, hc])) (fun hgg => ?_) h.1, fun hc => ihb (learn_ok hk (by rw [hu, hc])) hg h.2⟩
      rcases Bool.or_eq_true _ _ ▸ hgg with h' | h'
      · exact hg h'
      · have := E.beq_eq h'
        subst this
        have : (E.bin .lss .i64 (.var ci) (.slen sl)).tt env = decide (env.v ci < ((env.sl sl).2.1 : Int)) := b2i_dec _
        rw [this] at hc
        exact of_decide_eq_true hc
  | both a b iha ihb => intro kn g hk hg h; simp only [roundK, Bool.and_eq_true] at h; exact ⟨iha hk hg h.1, ihb hk hg h.2⟩
  | need d t ih =>
    intro kn g hk hg h
    simp only [roundK, Bool.and_eq_true, Bool.or_eq_true] at h
    obtain ⟨h1, h3⟩ := h
    refine ⟨?_, ih hk hg h3⟩
    rcases h1 with ⟨h1, h2⟩ | h1
    · have h2 := E.beq_eq h2
      subst h2
      exact inBounds_tt hC.1 (hg h1)
    · exact under_yes hk h1
  | fail n => intro kn g _ hg h; simp [roundK] at h

theorem toK_sat {P : Program} {fn : Func} {base : Nat} {pat : St} {ci sl : Nat} {good : List (Nat × E) → Bool} {J : Env → Prop} {env : Env} (hJ : ∀ σ, good σ = true → J (updV env σ)) : ∀ {t : T (Bool × X × St)}, toK base pat ci good t = true →
    t.sat env (ToEnd P fn env (fun s => ∃ σ m, matchSt base pat s = some σ ∧ Counts ci sl m (updV env σ) ∧ J (updV env σ))) := by
  intro t
  induction t with
  | leaf r =>
    intro h
    simp only [toK] at h
    split at h
    · rename_i hr
      split at h
      · rename_i σ hσ
        simp only [Bool.and_eq_true] at h
        obtain ⟨h, h3⟩ := h
        split at h
        · rename_i e he
          have hb := E.beq_eq h
          subst hb
          have hv : (updV env σ).v ci = 0 := by
            show (match lookV ci σ with | some e => e.den env | none => env.v ci) = _
            rw [he]; rfl
          show (if r.1 then _ else _)
          rw [if_pos hr]
          refine ⟨σ, (env.sl sl).2.1, hσ, ⟨?_, ?_, ?_⟩, hJ σ h3⟩
          · rw [hv]; exact Int.le_refl _
          · rw [hv, updV_sl]; omega
          · rw [hv, updV_sl]; omega
        · cases h
      · cases h
    · cases h
  | br c a b iha ihb => intro h; simp only [toK, Bool.and_eq_true] at h; exact ⟨fun _ => iha h.1, fun _ => ihb h.2⟩
  | both a b iha ihb => intro h; simp only [toK, Bool.and_eq_true] at h; exact ⟨iha h.1, ihb h.2⟩
  | need c t ih => intro h; simp [toK] at h
  | fail n => intro h; simp [toK] at h

/-- Is a variable's term this one? -/
noncomputable def isTerm (σ : List (Nat × E)) (j : Nat) (e : E) : Bool :=
  match lookV j σ with
  | some e' => e'.beq e
  | none => false

theorem isTerm_v {env : Env} {σ : List (Nat × E)} {j : Nat} {e : E} (h : isTerm σ j e = true) : (updV env σ).v j = e.den env := by
  unfold isTerm at h
  split at h
  · rename_i e' he
    show (match lookV j σ with | some e => e.den env | none => env.v j) = _
    rw [he]
    show e'.den env = _
    rw [E.beq_eq h]
  · cases h

end Go.Proofs.Ytibfaifjnifgjaa
