/-
  The symbolic executor: what a function answers, out of a run over variables. No condition but those in the statements.
-/
import Derived.Test.YtnlgfccjohhcmaaGreatDoorSx16
namespace Go.Sx
open Go.RowKit

/-- The same, with other numbers for the variables. -/
def withV (env : Env) (l : List Int) : Env := { env with v := fun i => (l[i]?).getD 0, such := fun _ _ => False }

/-! ### Rows of numbers as cells -/

noncomputable def flatE (ks : List (Option IntKind)) : List E → List C :=
  @List.rec (Option IntKind) (fun _ => List E → List C) (fun _ => [])
    (fun k _ ih es => match es with
      | [] => []
      | e :: es => (match k with
        | some k => C.int k e
        | none => .bool e) :: ih es) ks

noncomputable def unflat (ks : List (Option IntKind)) : List C → Option (List E) :=
  @List.rec (Option IntKind) (fun _ => List C → Option (List E))
    (fun cs => match cs with
      | [] => some []
      | _ => none)
    (fun k _ ih cs => match cs with
      | [] => none
      | c :: cs => match ih cs with
        | some es => match k with
          | some k => match c with
            | .int k' e => if sameKind k k' then some (e :: es) else none
            | _ => none
          | none => match c with
            | .bool e => some (e :: es)
            | _ => none
        | none => none) ks

theorem unflat_cons (k : Option IntKind) (ks : List (Option IntKind)) (c : C) (cs : List C) : unflat (k :: ks) (c :: cs) = match unflat ks cs with
    | some es => match k with
      | some k => match c with
        | .int k' e => if sameKind k k' then some (e :: es) else none
        | _ => none
      | none => match c with
        | .bool e => some (e :: es)
        | _ => none
    | none => none := rfl

theorem flatE_some (k : IntKind) (ks : List (Option IntKind)) (e : E) (es : List E) : flatE (some k :: ks) (e :: es) = .int k e :: flatE ks es := rfl
theorem flatE_none (ks : List (Option IntKind)) (e : E) (es : List E) : flatE (none :: ks) (e :: es) = .bool e :: flatE ks es := rfl

/-- The same shape, the same numbers. -/
def C.same (env env' : Env) : C → C → Prop
  | .int k e, c => match c with | .int k' e' => k = k' ∧ e.den env = e'.den env' | _ => False
  | .bool e, c => match c with | .bool e' => e.tt env = e'.tt env' | _ => False
  | .agg l, c => match c with | .agg l' => l.same env env' l' | _ => False
  | .tup l, c => match c with | .tup l' => l.same env env' l' | _ => False
  | .cons a b, c => match c with | .cons a' b' => a.same env env' a' ∧ b.same env env' b' | _ => False
  | .nil, c => match c with | .nil => True | _ => False
  | _, _ => False

theorem same_r {env env' : Env} {ρ ρ' : List Nat} : ∀ {c c' : C} {xs : List Value}, c.same env env' c' → c.r env ρ xs → c'.r env' ρ' xs := by
  intro c
  induction c with
  | int k e => intro c' xs h hr; cases c' <;> simp only [C.same] at h; obtain ⟨rfl, h⟩ := h; simp only [C.r] at hr ⊢; rw [← h]; exact hr
  | bool e => intro c' xs h hr; cases c' <;> simp only [C.same] at h; simp only [C.r] at hr ⊢; rw [← h]; exact hr
  | agg l ih => intro c' xs h hr; cases c' <;> simp only [C.same] at h; obtain ⟨ys, h1, h2⟩ := hr; exact ⟨ys, ih h h1, h2⟩
  | tup l ih => intro c' xs h hr; cases c' <;> simp only [C.same] at h; obtain ⟨ys, h1, h2⟩ := hr; exact ⟨ys, ih h h1, h2⟩
  | cons a b iha ihb => intro c' xs h hr; cases c' <;> simp only [C.same] at h; obtain ⟨y, ys, h1, h2, h3⟩ := hr; exact ⟨y, ys, iha h.1 h1, ihb h.2 h2, h3⟩
  | nil => intro c' xs h hr; cases c' <;> simp only [C.same] at h; exact hr
  | _ => intro c' xs h; cases h

theorem same_flat {env env' : Env} : ∀ (ks : List (Option IntKind)) (es es' : List E), es.length = es'.length → (∀ (i : Nat) (e e' : E), es[i]? = some e → es'[i]? = some e' → e.den env = e'.den env') → (C.toC (flatE ks es)).same env env' (C.toC (flatE ks es')) := by
  intro ks
  induction ks with
  | nil => intro es es' _ _; exact trivial
  | cons k ks ih =>
    intro es es' hl h
    cases es with
    | nil => cases es' with
      | nil => exact trivial
      | cons => simp at hl
    | cons e es => cases es' with
      | nil => simp at hl
      | cons e' es' =>
        have h0 := h 0 e e' rfl rfl
        have hs := ih es es' (by simpa using hl) (fun i a b ha hb => h (i + 1) a b (by simpa using ha) (by simpa using hb))
        cases k with
        | none => exact ⟨by simp only [C.same, E.tt, h0], hs⟩
        | some k => exact ⟨⟨rfl, h0⟩, hs⟩

/-! ### Arguments -/

/-- What an argument is: a struct or array of cells, or one cell. -/
inductive Sh where
  | agg (ks : List (Option IntKind))
  | one (k : Option IntKind)

/-- The numbers that arguments are made of. -/
noncomputable def parseA : List Sh → List C → Option (List E)
  | [], [] => some []
  | .agg ks :: sh, c :: cs => match c with
    | .agg l => match l.ofC with
      | some ds => match unflat ks ds with
        | some es => match parseA sh cs with
          | some r => some (es ++ r)
          | none => none
        | none => none
      | none => none
    | _ => none
  | .one k :: sh, c :: cs => match unflat [k] [c] with
    | some es => match parseA sh cs with
      | some r => some (es ++ r)
      | none => none
    | none => none
  | _, _ => none

def vars : Nat → Nat → List E
  | 0, _ => []
  | n + 1, o => .var o :: vars n (o + 1)

def var1 (k : Option IntKind) (o : Nat) : C :=
  match k with
  | some k => .int k (.var o)
  | none => .bool (.var o)

/-- Arguments of that shape, over the variables from 'o' on. -/
noncomputable def varsA : List Sh → Nat → List C
  | [], _ => []
  | .agg ks :: sh, o => .agg (.toC (flatE ks (vars ks.length o))) :: varsA sh (o + ks.length)
  | .one k :: sh, o => (flatE [k] [.var o]) ++ varsA sh (o + 1)

theorem unflat_len : ∀ (ks : List (Option IntKind)) (cs : List C) (es : List E), unflat ks cs = some es → es.length = ks.length := by
  intro ks
  induction ks with
  | nil => intro cs es h; cases cs with
    | nil => have h : some [] = some es := h; simp at h; subst h; rfl
    | cons => have h : none = some es := h; cases h
  | cons k ks ih =>
    intro cs es h
    cases cs with
    | nil => have h : none = some es := h; cases h
    | cons c cs =>
      rw [unflat_cons] at h
      split at h
      · rename_i es' he
        have := ih cs es' he
        split at h
        · split at h
          · split at h
            · simp only [Option.some.injEq] at h; subst h; simp [this]
            · cases h
          · cases h
        · split at h
          · simp only [Option.some.injEq] at h; subst h; simp [this]
          · cases h
      · cases h

/-- The cells stand for the same values as variables that have their numbers. -/
theorem unflat_r {env : Env} {ρ : List Nat} {all : List Int} : ∀ (ks : List (Option IntKind)) (cs : List C) (es : List E) (xs : List Value) (o : Nat), unflat ks cs = some es → Rels env ρ cs xs →
    (∀ (i : Nat) (e : E), es[i]? = some e → all[o + i]? = some (e.den env)) → Rels (withV env all) [] (flatE ks (vars ks.length o)) xs := by
  intro ks
  induction ks with
  | nil => intro cs es xs o h hr _; cases cs with
    | nil => have := hr.1; simp at this; rw [List.length_eq_zero_iff.1 this.symm]; exact .nil
    | cons => have h : none = some es := h; cases h
  | cons k ks ih =>
    intro cs es xs o h hr hall
    cases cs with
    | nil => have h : none = some es := h; cases h
    | cons c cs =>
      obtain ⟨y, ys, rfl, h1, h2⟩ := hr.uncons
      rw [unflat_cons] at h
      have hv : ∀ (e : E) (es' : List E), es = e :: es' → (E.var o).den (withV env all) = e.den env := fun e es' he => by
        have := hall 0 e (by rw [he]; rfl)
        show (all[o]?).getD 0 = _
        rw [Nat.add_zero] at this; rw [this]; rfl
      split at h
      · rename_i es' he
        have hs : ∀ e, es = e :: es' → Rels (withV env all) [] (flatE ks (vars ks.length (o + 1))) ys := fun e hes => ih cs es' ys (o + 1) he h2 (fun i e' hi => by
          have := hall (i + 1) e' (by rw [hes]; simpa using hi)
          rw [← this]; congr 1; omega)
        split at h
        · split at h
          · split at h
            · rename_i hk
              simp only [Option.some.injEq] at h
              rw [← sameKind_iff.1 hk] at h1
              refine Rels.cons ?_ (hs _ h.symm)
              simp only [C.r, hv _ _ h.symm] at h1 ⊢; exact h1
            · cases h
          · cases h
        · split at h
          · simp only [Option.some.injEq] at h
            refine Rels.cons ?_ (hs _ h.symm)
            simp only [C.r, E.tt, hv _ _ h.symm] at h1 ⊢; exact h1
          · cases h
      · cases h

theorem parseA_r {env : Env} {ρ : List Nat} {all : List Int} : ∀ (sh : List Sh) (cs : List C) (es : List E) (xs : List Value) (o : Nat), parseA sh cs = some es → Rels env ρ cs xs →
    (∀ (i : Nat) (e : E), es[i]? = some e → all[o + i]? = some (e.den env)) → Rels (withV env all) [] (varsA sh o) xs := by
  intro sh
  induction sh with
  | nil => intro cs es xs o h hr _; cases cs with
    | nil => have := hr.1; simp at this; rw [List.length_eq_zero_iff.1 this.symm]; exact .nil
    | cons => simp [parseA] at h
  | cons s sh ih =>
    intro cs es xs o h hr hall
    cases cs with
    | nil => cases s <;> simp [parseA] at h
    | cons c cs =>
      obtain ⟨y, ys, rfl, h1, h2⟩ := hr.uncons
      cases s with
      | agg ks =>
        simp only [parseA] at h
        split at h
        · rename_i l
          split at h
          · rename_i ds hds
            split at h
            · rename_i es1 he1
              split at h
              · rename_i r hr'
                simp only [Option.some.injEq] at h; subst h
                have hlen := unflat_len _ _ _ he1
                obtain ⟨zs, hz, hy⟩ := h1
                simp only [List.cons.injEq, and_true] at hy; subst hy
                refine Rels.cons ⟨zs, toC_r.2 (unflat_r ks ds es1 zs o he1 (ofC_r hds hz) (fun i e hi => hall i e (by
                  rw [List.getElem?_append_left (List.getElem?_eq_some_iff.1 hi).1]; exact hi))), rfl⟩ (ih cs r ys (o + ks.length) hr' h2 (fun i e hi => ?_))
                have := hall (ks.length + i) e (by rw [List.getElem?_append_right (by omega), hlen]; simpa using hi)
                rw [← this]; congr 1; omega
              · cases h
            · cases h
          · cases h
        · cases h
      | one k =>
        simp only [parseA] at h
        split at h
        · rename_i es1 he1
          split at h
          · rename_i r hr'
            simp only [Option.some.injEq] at h; subst h
            have hlen := unflat_len _ _ _ he1
            have h1' := unflat_r [k] [c] es1 [y] o he1 (.cons h1 .nil) (fun i e hi => hall i e (by
              rw [List.getElem?_append_left (List.getElem?_eq_some_iff.1 hi).1]; exact hi))
            have hs := ih cs r ys (o + 1) hr' h2 (fun i e hi => by
              have := hall (1 + i) e (by rw [List.getElem?_append_right (by rw [hlen]; simp), hlen]; simpa using hi)
              rw [← this]; congr 1; omega)
            obtain ⟨y', ys', hy, hy1, hy2⟩ := Rels.uncons (c := var1 k o) (cs := []) (xs := [y]) (by cases k <;> exact h1')
            simp only [List.cons.injEq] at hy
            obtain ⟨rfl, rfl⟩ := hy
            have : varsA (.one k :: sh) o = var1 k o :: varsA sh (o + 1) := by cases k <;> rfl
            rw [this]
            exact .cons hy1 hs
          · cases h
        · cases h

/-- Does the run come to one value? -/
noncomputable def leafIs (R : C) (t : T (C × List Blk)) : Bool :=
  match t with
  | .leaf r => r.1.beq R
  | _ => false

theorem leafIs_sat {env : Env} {R : C} {t : T (C × List Blk)} (h : leafIs R t = true) : t.sat env fun r => r.1 = R := by
  cases t <;> simp only [leafIs, Bool.false_eq_true] at h
  exact C.beq_eq h

/-- The named functions and the slices are as they should be, whatever the variables are. -/
theorem EnvF.withV {Φ : Nat → List Int → Int} {env : Env} (h : EnvF Φ env) (l : List Int) : EnvF Φ (Go.Sx.withV env l) := h

/-- The kinds of the numbers. -/
def shKs : List Sh → List (Option IntKind)
  | [] => []
  | .agg ks :: sh => ks ++ shKs sh
  | .one k :: sh => k :: shKs sh

/-- The variables from 'o' on are numbers of their kinds. -/
def VarsIn (ks : List (Option IntKind)) (o : Nat) (env : Env) : Prop := ∀ (i : Nat) (k : IntKind), ks[i]? = some (some k) → InK k (env.v (o + i))

theorem VarsIn.append {ks ls : List (Option IntKind)} {o : Nat} {env : Env} (h : VarsIn ks o env) (k : VarsIn ls (o + ks.length) env) : VarsIn (ks ++ ls) o env := by
  intro i q hq
  rw [List.getElem?_append] at hq
  split at hq
  · exact h i q hq
  · rename_i hi
    have := k _ q hq
    rwa [show o + ks.length + (i - ks.length) = o + i by omega] at this

theorem flatE_in {env : Env} {ρ : List Nat} : ∀ (ks : List (Option IntKind)) (o : Nat) (xs : List Value), Rels env ρ (flatE ks (vars ks.length o)) xs → VarsIn ks o env := by
  intro ks
  induction ks with
  | nil => intro o xs _ i k h; simp at h
  | cons k ks ih =>
    intro o xs h i q hq
    have e : flatE (k :: ks) (vars (k :: ks).length o) = var1 k o :: flatE ks (vars ks.length (o + 1)) := by cases k <;> rfl
    rw [e] at h
    obtain ⟨y, ys, rfl, h1, h2⟩ := h.uncons
    cases i with
    | zero => simp at hq; subst hq; exact h1.2
    | succ i => have := ih (o + 1) ys h2 i q (by simpa using hq); rwa [show o + 1 + i = o + (i + 1) by omega] at this

theorem varsA_in {env : Env} {ρ : List Nat} : ∀ (sh : List Sh) (o : Nat) (xs : List Value), Rels env ρ (varsA sh o) xs → VarsIn (shKs sh) o env := by
  intro sh
  induction sh with
  | nil => intro o xs _ i k h; simp [shKs] at h
  | cons s sh ih =>
    intro o xs h
    cases s with
    | agg ks =>
      obtain ⟨y, ys, rfl, h1, h2⟩ := h.uncons
      obtain ⟨zs, hz, _⟩ := h1
      exact (flatE_in ks o zs (toC_r.1 hz)).append (ih _ ys h2)
    | one k =>
      have e : varsA (.one k :: sh) o = var1 k o :: varsA sh (o + 1) := by cases k <;> rfl
      rw [e] at h
      obtain ⟨y, ys, rfl, h1, h2⟩ := h.uncons
      refine VarsIn.append (ks := [k]) ?_ (ih _ ys h2)
      intro i q hq
      cases i with
      | zero => simp at hq; subst hq; exact h1.2
      | succ i => simp at hq

/-- **What a function answers**, out of its run over variables. 'K': how that run went. -/
-- NOT HERE
theorem sum_calls {Φ : Nat → List Int → Int} {K : Ctx} {sh : List Sh} {n : Nat} {f : FuncId} {R : C} (hosz : K.osz = fun _ => none) (hrun : leafIs R (evFn K n f (varsA sh 0) []) = true)
    {env : Env} (hF : EnvF Φ env) (hn : ∀ env, EnvF Φ env → VarsIn (shKs sh) 0 env → ∀ e, (K.nrm e).den env = e.den env) (hsg : ∀ env, EnvF Φ env → (∀ e, (K.nrm e).den env = e.den env) → SgOk env K)
    {vs : List C} {es : List E} (hp : parseA sh vs = some es) {ρ : List Nat} {xs : List Value} (hr : Rels env ρ vs xs) (w : World) :
    (∀ w, (callFunc f xs.toArray).run K.P w = .ok (.enter f xs.toArray) w) ∧
    Calls K.P f xs.toArray w fun e w' => ∃ z ρ', e = .returned z ∧ R.r (withV env (es.map (E.den env))) ρ' [z] ∧ Below w.heap.size w w' := by
  have hF' := hF.withV (es.map (E.den env))
  have hr' := parseA_r (all := es.map (E.den env)) sh vs es xs 0 hp hr (fun i e hi => by simp [hi])
  have hn' := hn _ hF' (varsA_in sh 0 xs hr')
  have hE : EnvOk (withV env (es.map (E.den env))) K w w.heap.size := ⟨hF'.2.1, hF'.2.2, (by rw [hosz]; intro j kinds a i n k h; cases h), fun v hv => hv.elim, hn'⟩
  obtain ⟨h1, h2⟩ := evFn_calls hE (hsg _ hF' hn') hr' (leafIs_sat hrun)
  refine ⟨h1, h2.mono ?_⟩
  rintro e w' ⟨r, z, ρ', hR, rfl, hz, hb⟩
  exact ⟨z, ρ', rfl, hR ▸ hz, hb⟩

end Go.Sx
