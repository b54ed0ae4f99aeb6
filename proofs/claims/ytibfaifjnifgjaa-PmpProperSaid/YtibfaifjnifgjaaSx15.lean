/-
  The symbolic executor: a law whose run comes to 'true'. No condition but those in the statements.
-/
import Derived.Test.YtibfaifjnifgjaaSx14
namespace Go.Sx
open Go.RowKit

/-- Every way of the run comes to the constant true. -/
def isTrue : T (C × List Blk) → Bool
  | .leaf r => match r.1 with
    | .bool (.lit n) => !intBeq n 0
    | _ => false
  | .br _ a b => isTrue a && isTrue b
  | .both a b => isTrue a && isTrue b
  | .need _ _ => false
  | .fail _ => false

def Says (env : Env) (r : C × List Blk) : Prop := ∃ e, r.1 = .bool e ∧ e.tt env = true

theorem isTrue_sat (env : Env) : ∀ {t : T (C × List Blk)}, isTrue t = true → t.sat env (Says env) := by
  intro t
  induction t with
  | leaf r =>
    intro h
    obtain ⟨v, H⟩ := r
    cases v <;> simp only [isTrue, Bool.false_eq_true] at h
    rename_i e
    cases e <;> simp only [Bool.false_eq_true] at h
    exact ⟨_, rfl, by rw [tt_lit]; exact h⟩
  | br c a b iha ihb => intro h; simp only [isTrue, Bool.and_eq_true] at h; exact ⟨fun _ => iha h.1, fun _ => ihb h.2⟩
  | both a b iha ihb => intro h; simp only [isTrue, Bool.and_eq_true] at h; exact ⟨iha h.1, ihb h.2⟩
  | need c t ih => intro h; simp [isTrue] at h
  | fail n => intro h; simp [isTrue] at h

theorem sg_none (env : Env) {K : Ctx} (h : ∀ f vs, K.sg f vs = none) : SgOk env K := fun f vs v hv => by rw [h] at hv; cases hv

/-- **A law's call returns true and leaves what was there**, if its run says so. -/
theorem law_calls {H : Type} {enc : TypeId × Value → H} {K : Ctx} {W : World} {ts : List TypeId} {args : Array Value} {ds : List (DataW H)} {ps : List MemPlace} {b0 : Nat} {f n : Nat} {cs : List C} {kds : List Kd} {Φ : Nat → List Int → Int}
    (hT : DataW.TrodAll enc K.P W 0 (fun _ => true) true ts args.toList ds ps) (hok : ∀ (j : Nat) t v, ts[j]? = some t → args[j]? = some v → Value.okWide K.P W .any b0 t v)
    (hargs : argsC K.P ts 0 = some (cs, kds)) (hfit : slFit kds = true) (hosz : K.osz = oszOf kds) (hsg : ∀ env, EnvF Φ env → SgOk env K)
    (hrun : ∀ env, EnvF Φ env → WfEnv env kds → (evFn K n f cs []).sat env (Says env)) :
    Calls K.P f args W fun e w' => e = .returned (.bool true) ∧ Below W.heap.size W w' := by
  obtain ⟨env, h1, h2, h3, h4⟩ := come_in (Φ := Φ) (K := K) hargs hfit hosz hT (fun j t v ht hv => hok j t v ht (by simpa using hv))
  obtain ⟨_, hc⟩ := evFn_calls h2 (hsg env h1) h4 (hrun env h1 h3)
  rw [Array.toArray_toList] at hc
  refine hc.mono ?_
  rintro e w' ⟨r, z, ρ', ⟨e', hr, ht⟩, rfl, hz, hb⟩
  rw [hr] at hz
  have := bool_r hz
  rw [this, ht]
  exact ⟨rfl, hb⟩

end Go.Sx
