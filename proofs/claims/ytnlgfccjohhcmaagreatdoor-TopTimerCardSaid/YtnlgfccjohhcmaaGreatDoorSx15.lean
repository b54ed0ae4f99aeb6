/-
  The symbolic executor: a law whose run comes to 'true'. No condition but those in the statements.
-/
import Derived.Test.YtnlgfccjohhcmaaGreatDoorSx14
namespace Go.Sx
open Go.RowKit

/-- Every way of the run comes to the constant true. -/
def isTrue : T (C × List Blk) → Bool
  | .leaf r => match r.1 with
    | .bool (.lit n) => !intBeq n 0
    | _ => false
  | .br _ a b => isTrue a && isTrue b
  | .both a b => isTrue a && isTrue b
  | .need _ _ => false
  | .fail _ => false

def Says (env : Env) (r : C × List Blk) : Prop := ∃ e, r.1 = .bool e ∧ e.tt env = true

theorem isTrue_sat (env : Env) : ∀ {t : T (C × List Blk)}, isTrue t = true → t.sat env (Says env) := by
  intro t
  induction t with
  | leaf r =>
    intro h
    obtain ⟨v, H⟩ := r
    cases v <;> simp only [isTrue, Bool.false_eq_true] at h
    rename_i e
    cases e <;> simp only [Bool.false_eq_true] at h
    exact ⟨_, rfl, by rw [tt_lit]; exact h⟩
  | br c a b iha ihb => intro h; simp only [isTrue, Bool.and_eq_true] at h; exact ⟨fun _ => iha h.1, fun _ => ihb h.2⟩
  | both a b iha ihb => intro h; simp only [isTrue, Bool.and_eq_true] at h; exact ⟨iha h.1, ihb h.2⟩
  | need c t ih => intro h; simp [isTrue] at h
  | fail n => intro h; simp [isTrue] at h

theorem sg_none (env : Env) {K : Ctx} (h : ∀ f vs, K.sg f vs = none) (hm : ∀ f vs H, K.sm f vs H = none := by intros; rfl) (hd : ∀ f vs H, K.dg f vs H = none := by intros; rfl) : SgOk env K :=
  ⟨fun f vs v hv => (by rw [h] at hv; cases hv), fun _ _ _ _ f vs H t ht => (by rw [hm] at ht; cases ht), fun _ _ _ _ f vs H H' ht => (by rw [hd] at ht; cases ht)⟩

/-- A plain executor: no summary, no rewriting. -/
def plainK (P : Program) (osz : Nat → Option (List CK)) : Ctx :=
  { P := P, sg := fun _ _ => none, sp := fun _ => false, osz := osz, nrm := fun e => e, nf := fun _ => false, fr := fun _ => true }

/-- What is asked of a case of a law: under 'env' the run says so. -/
def Case (P : Program) (f : FuncId) (kds : List Kd) (cs : List C) (env : Env) : Prop :=
  ∃ (K : Ctx) (cs' : List C) (n : Nat), K.P = P ∧ K.osz = oszOf kds ∧ (∀ e, (K.nrm e).den env = e.den env) ∧ SgOk env K ∧
    (∀ xs, Rels env [] cs xs → Rels env [] cs' xs) ∧ (evFn K n f cs' []).sat env (Says env)

/-- **A law's call returns true and leaves what was there**, if its run says so. -/
theorem law_calls {H : Type} {enc : TypeId × Value → H} {P : Program} {W : World} {ts : List TypeId} {args : Array Value} {ds : List (DataW H)} {ps : List MemPlace} {b0 : Nat} {f : Nat} {cs : List C} {kds : List Kd} (Φ : Nat → List Int → Int)
    (hT : DataW.TrodAll enc P W 0 (fun _ => true) true ts args.toList ds ps) (hok : ∀ (j : Nat) t v, ts[j]? = some t → args[j]? = some v → Value.okWide P W .any b0 t v)
    (hargs : argsC P ts 0 = some (cs, kds)) (hfit : slFit kds = true)
    (hrun : ∀ env, EnvF Φ env → WfEnv env kds → Case P f kds cs env) :
    Calls P f args W fun e w' => e = .returned (.bool true) ∧ Below W.heap.size W w' := by
  obtain ⟨env, h1, h2, h3, h4⟩ := come_in (Φ := Φ) (K := plainK P (oszOf kds)) hargs hfit rfl (fun _ => rfl) hT (fun j t v ht hv => hok j t v ht (by simpa using hv))
  obtain ⟨K, cs', n, rfl, hosz, hn, hsg, hcs, hsat⟩ := hrun env h1 h3
  have hE : EnvOk env K W W.heap.size := ⟨h2.sl, h2.len, by rw [hosz]; exact h2.cell, h2.inp, hn⟩
  obtain ⟨_, hc⟩ := evFn_calls hE hsg (hcs _ h4) hsat
  rw [Array.toArray_toList] at hc
  refine hc.mono ?_
  rintro e w' ⟨r, z, ρ', ⟨e', hr, ht⟩, rfl, hz, hb⟩
  rw [hr] at hz
  have := bool_r hz
  rw [this, ht]
  exact ⟨rfl, hb⟩

/-- A case whose run, without anything known, comes to true. -/
theorem Case.plain {P : Program} {f : FuncId} {kds : List Kd} {cs : List C} {env : Env} (n : Nat) (h : isTrue (evFn (plainK P (oszOf kds)) n f cs []) = true) : Case P f kds cs env :=
  ⟨_, cs, n, rfl, rfl, fun _ => rfl, sg_none env (fun _ _ => rfl), fun _ h => h, isTrue_sat env h⟩

/-! ### Terms known to be equal -/

/-- The first equation that fits. -/
noncomputable def rw1 : List (E × E) → E → E
  | [], e => e
  | (a, b) :: l, e => if e.beq a then b else rw1 l e

theorem rw1_den {env : Env} : ∀ {l : List (E × E)}, (∀ p ∈ l, p.1.den env = p.2.den env) → ∀ e, (rw1 l e).den env = e.den env := by
  intro l
  induction l with
  | nil => intro _ e; rfl
  | cons p l ih =>
    intro h e
    obtain ⟨a, b⟩ := p
    simp only [rw1]
    split
    · rename_i hb; rw [E.beq_eq hb]; exact (h (a, b) (by simp)).symm
    · exact ih (fun p hp => h p (by simp [hp])) e

/-- The same with equations. -/
noncomputable def eqK (P : Program) (osz : Nat → Option (List CK)) (eqs : List (E × E)) (nf : FuncId → Bool) : Ctx :=
  { P := P, sg := fun _ _ => none, sp := fun _ => false, osz := osz, nrm := rw1 eqs, nf := nf, fr := fun _ => true }

theorem Case.eqs {P : Program} {f : FuncId} {kds : List Kd} {cs : List C} {env : Env} (n : Nat) (eqs : List (E × E)) (nf : FuncId → Bool) (h : isTrue (evFn (eqK P (oszOf kds) eqs nf) n f cs []) = true)
    (he : ∀ p ∈ eqs, p.1.den env = p.2.den env) : Case P f kds cs env :=
  ⟨_, cs, n, rfl, rfl, rw1_den he, sg_none env (fun _ _ => rfl), fun _ h => h, isTrue_sat env h⟩

/-- Arguments in which a number is put in. -/
theorem fix_rels {env : Env} {p : E} {j : Int} (h : p.den env = j) {cs : List C} {xs : List Value} (hr : Rels env [] cs xs) : Rels env [] (cs.map (C.fix p j)) xs := by
  refine ⟨by simp [hr.1], fun i c x hc hx => ?_⟩
  rw [List.getElem?_map] at hc
  cases hi : cs[i]? with
  | none => simp [hi] at hc
  | some c' => simp only [hi, Option.map_some, Option.some.injEq] at hc; subst hc; exact fix_r h (hr.2 i c' x hi hx)

/-- A case in which an argument's number is known. -/
theorem Case.fixed {P : Program} {f : FuncId} {kds : List Kd} {cs : List C} {env : Env} (p : E) (j : Int) (hp : p.den env = j) (h : Case P f kds (cs.map (C.fix p j)) env) : Case P f kds cs env := by
  obtain ⟨K, cs', n, h1, h2, h3, h4, h5, h6⟩ := h
  exact ⟨K, cs', n, h1, h2, h3, h4, fun xs hx => h5 xs (fix_rels hp hx), h6⟩

end Go.Sx
