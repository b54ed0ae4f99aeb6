/-
  Summaries by substitution: what a run over variables came to, with the arguments' terms put in. No condition.
-/
import Derived.Test.YtibfaifjnifgjaaTab
namespace Go.Proofs.Ytibfaifjnifgjaa
open Go.Sx Go.RowKit

/-! ### Terms put in for variables -/

/-- As a number, as a list. -/
noncomputable def subP (nrm : E → E) (es : List E) (e : E) : E × E :=
  @E.rec (fun _ => E × E) (fun n => (.lit n, .nil)) (fun i => ((getL es i).getD (.lit 0), .nil)) (fun i => (.slen i, .nil))
    (fun o k _ _ iha ihb => (nrm (mkBin o k iha.1 ihb.1), .nil))
    (fun k _ ih => (nrm (mkConv k ih.1), .nil))
    (fun _ _ _ ihc iha ihb => (mkIte ihc.1 iha.1 ihb.1, .nil))
    (fun f _ ih => (.app f ih.2, .nil))
    (fun _ _ iha ihb => (.lit 0, .cons iha.1 ihb.2)) (.lit 0, .nil) e

noncomputable def subE (nrm : E → E) (es : List E) (e : E) : E := (subP nrm es e).1

theorem subP_den {env : Env} {nrm : E → E} (hn : ∀ e, (nrm e).den env = e.den env) (es : List E) : ∀ e : E, (subP nrm es e).1.den env = (e.d (withV env (es.map (E.den env)))).1 ∧ ((subP nrm es e).2.d env).2 = (e.d (withV env (es.map (E.den env)))).2 := by
  intro e
  induction e with
  | lit n => exact ⟨rfl, rfl⟩
  | var i =>
    refine ⟨?_, rfl⟩
    show ((getL es i).getD (.lit 0)).den env = ((es.map (E.den env))[i]?).getD 0
    rw [getL_eq, List.getElem?_map]
    cases es[i]? <;> rfl
  | slen i => exact ⟨rfl, rfl⟩
  | bin o k a b iha ihb =>
    refine ⟨?_, rfl⟩
    show (nrm (mkBin o k (subP nrm es a).1 (subP nrm es b).1)).den env = binDen o k _ _
    rw [hn, mkBin_den, iha.1, ihb.1]
  | conv k a ih =>
    refine ⟨?_, rfl⟩
    show (nrm (mkConv k (subP nrm es a).1)).den env = k.wrap _
    rw [hn, mkConv_den, ih.1]
  | ite c a b ihc iha ihb =>
    refine ⟨?_, rfl⟩
    show (mkIte (subP nrm es c).1 (subP nrm es a).1 (subP nrm es b).1).den env = if (c.d (withV env (es.map (E.den env)))).1 ≠ 0 then _ else _
    rw [mkIte_den, iha.1, ihb.1]
    unfold E.tt
    rw [ihc.1]
    simp
  | app f l ih =>
    refine ⟨?_, rfl⟩
    show env.f f ((subP nrm es l).2.d env).2 = env.f f _
    rw [ih.2]
  | cons a b iha ihb =>
    refine ⟨rfl, ?_⟩
    show (subP nrm es a).1.den env :: ((subP nrm es b).2.d env).2 = _ :: _
    rw [iha.1, ihb.2]
  | nil => exact ⟨rfl, rfl⟩

theorem subE_den {env : Env} {nrm : E → E} (hn : ∀ e, (nrm e).den env = e.den env) (es : List E) (e : E) : (subE nrm es e).den env = e.den (withV env (es.map (E.den env))) := (subP_den hn es e).1

/-! ### And in values -/

noncomputable def plainC (c : C) : Bool :=
  match c with
  | .int _ _ => true
  | .bool _ => true
  | .agg l => plainC l
  | .tup l => plainC l
  | .cons a b => plainC a && plainC b
  | .nil => true
  | _ => false

noncomputable def subC (nrm : E → E) (es : List E) (c : C) : C :=
  match c with
  | .int k e => .int k (subE nrm es e)
  | .bool e => .bool (subE nrm es e)
  | .agg l => .agg (subC nrm es l)
  | .tup l => .tup (subC nrm es l)
  | .cons a b => .cons (subC nrm es a) (subC nrm es b)
  | .nil => .nil
  | c => c

theorem subC_same {env : Env} {nrm : E → E} (hn : ∀ e, (nrm e).den env = e.den env) (es : List E) : ∀ {c : C}, plainC c = true → c.same (withV env (es.map (E.den env))) env (subC nrm es c) := by
  intro c
  induction c with
  | int k e => intro _; exact ⟨rfl, (subE_den hn es e).symm⟩
  | bool e => intro _; show _ = _; unfold E.tt; rw [subE_den hn]
  | agg l ih => intro h; exact ih h
  | tup l ih => intro h; exact ih h
  | cons a b iha ihb =>
    intro h
    simp only [plainC, Bool.and_eq_true] at h
    exact ⟨iha h.1, ihb h.2⟩
  | nil => intro _; exact trivial
  | _ => intro h; cases h

/-! ### What came out, by cases -/

inductive Sm where
  | one (R : C)
  | two (t : E) (a b : Sm)

noncomputable def Sm.ans (nrm : E → E) (es : List E) : Sm → C
  | .one R => subC nrm es R
  | .two t a b => (a.ans nrm es).mg (subE nrm es t) false (b.ans nrm es)

def Sm.pick (env : Env) : Sm → C
  | .one R => R
  | .two t a b => if t.tt env then a.pick env else b.pick env

noncomputable def Sm.plain : Sm → Bool
  | .one R => plainC R
  | .two _ a b => a.plain && b.plain

theorem Sm.pick_ok {env : Env} {nrm : E → E} (hn : ∀ e, (nrm e).den env = e.den env) (es : List E) {ρ ρ' : List Nat} {z : Value} : ∀ {s : Sm}, s.plain = true → (s.pick (withV env (es.map (E.den env)))).r (withV env (es.map (E.den env))) ρ' [z] → (s.ans nrm es).r env ρ [z] := by
  intro s
  induction s with
  | one R => intro h hr; exact same_r (subC_same hn es h) hr
  | two t a b iha ihb =>
    intro h hr
    simp only [Sm.plain, Bool.and_eq_true] at h
    have ht : (subE nrm es t).tt env = t.tt (withV env (es.map (E.den env))) := by unfold E.tt; rw [subE_den hn]
    unfold Sm.pick at hr
    split at hr
    · rename_i hc
      exact mg_left (ht.trans hc) (iha h.1 hr) ⟨z, rfl⟩
    · rename_i hc
      exact mg_right (ht.trans (by simpa using hc)) (ihb h.2 hr) ⟨z, rfl⟩

/-! ### The summary -/

/-- How the runs go. -/
noncomputable def subK (eqs : List (E × E)) (sp nf : FuncId → Bool) : Ctx :=
  { P := Try.prog, sg := sgAll (fun e => rw1 eqs (nrmTabR (nrmG e))), sp := sp, osz := fun _ => none, nrm := fun e => rw1 eqs (nrmTabR (nrmG e)), nf := nf, fr := fun _ => true }

theorem subN_den {env : Env} (hF : EnvF Phi env) {eqs : List (E × E)} (h : ∀ p ∈ eqs, p.1.den env = p.2.den env) (e : E) : (rw1 eqs (nrmTabR (nrmG e))).den env = e.den env := by
  rw [rw1_den h, nrmTabR_den hF, nrmG_den]

/-- That f's run, over the variables, comes to R under the equations. -/
noncomputable def subRun (sh : List Sh) (sp : FuncId → Bool) (f : FuncId) (eqs : List (E × E)) (R : C) : Bool := leafIs R (evFn (subK eqs sp (fun x => Nat.beq x f)) 1000 f (varsA sh 0) [])

noncomputable def sgSub (sh : List Sh) (f g : FuncId) (s : Sm) (nrm : E → E) (n : FuncId) (vs : List C) : Option C :=
  if Nat.beq n f || Nat.beq n g then match parseA sh vs with
    | some es => some (s.ans nrm es)
    | none => none
  else none

set_option maxRecDepth 100000 in
theorem sgSub_ok {env : Env} (hF : EnvF Phi env) {nrm : E → E} (hn : ∀ e, (nrm e).den env = e.den env) {sh : List Sh} {f g : FuncId} {s : Sm} (hp : s.plain = true)
    (h : ∀ env, EnvF Phi env → VarsIn (shKs sh) 0 env → ∃ eqs sp, (∀ p ∈ eqs, p.1.den env = p.2.den env) ∧ subRun sh sp f eqs (s.pick env) = true ∧ subRun sh sp g eqs (s.pick env) = true) : SgF env Try.prog (sgSub sh f g s nrm) := by
  intro n vs v hv ρ xs w hr
  unfold sgSub at hv
  split at hv
  · rename_i hf
    simp only [Bool.or_eq_true] at hf
    split at hv
    · rename_i es hes
      simp only [Option.some.injEq] at hv; subst hv
      have hF' := hF.withV (es.map (E.den env))
      have hr' := parseA_r (all := es.map (E.den env)) sh vs es xs 0 hes hr (fun i e hi => by simp [hi])
      obtain ⟨eqs, sp, he, h1, h2⟩ := h _ hF' (varsA_in sh 0 xs hr')
      have hrun : subRun sh sp n eqs (s.pick (withV env (es.map (E.den env)))) = true := by
        rcases hf with hf | hf
        · rw [Nat.eq_of_beq_eq_true hf]; exact h1
        · rw [Nat.eq_of_beq_eq_true hf]; exact h2
      have hn' := subN_den hF' he
      have hE : EnvOk (withV env (es.map (E.den env))) (subK eqs sp (fun x => Nat.beq x n)) w w.heap.size := ⟨hF'.2.1, hF'.2.2, (by intro j kinds a i n k h; cases h), hn'⟩
      obtain ⟨c1, c2⟩ := evFn_calls hE (sgAll_ok hF' hn') hr' (leafIs_sat hrun)
      refine ⟨c1, c2.mono ?_⟩
      rintro e w' ⟨r, z, ρ', hR, rfl, hz, hb⟩
      exact ⟨z, rfl, Sm.pick_ok hn es hp (hR ▸ hz), hb⟩
    · cases hv
  · cases hv

end Go.Proofs.Ytibfaifjnifgjaa
