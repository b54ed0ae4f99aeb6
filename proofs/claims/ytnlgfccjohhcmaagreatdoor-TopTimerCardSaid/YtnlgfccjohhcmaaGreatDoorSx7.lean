/-
  The symbolic executor: all operations that write no memory do what it says. No condition.
-/
import Derived.Test.YtnlgfccjohhcmaaGreatDoorSx6
namespace Go.Sx
open Go.RowKit

/-- A cell of a kind: a whole number, or (none) a bool. -/
def kval (k : Option IntKind) (x : Int) : Value :=
  match k with
  | some k => .int k x
  | none => .bool ((E.lit x).tt ⟨fun _ => 0, fun _ _ => 0, fun _ => (none, 0, 0), fun _ => none, fun _ _ => True⟩)

def kin (k : Option IntKind) (x : Int) : Prop :=
  match k with
  | some k => InK k x
  | none => True

/-- A slice of bytes that came in. -/
def InpOk (w : World) (B : Nat) (v : Value) : Prop :=
  ∃ (a : Option Addr) (len cap : Nat), v = .slice a len cap ∧ len ≤ cap ∧ len ≤ 9223372036854775807 ∧ (a = none → len = 0 ∧ cap = 0) ∧
    ∀ ad, a = some ad → ∀ i : Nat, i < len → ad.spot = none ∧ ad.block < B ∧ ∃ m, w.cell? ⟨ad.block, ad.off + i, none⟩ = some (.int .u8 m)

/-- What a cell of an element holds. -/
def CkOk (env : Env) (k : CK) (f : Nat) (i : Int) (v : Value) : Prop :=
  match k with
  | .num k => v = kval k (env.f f [i]) ∧ kin k (env.f f [i])
  | .inp => (∃ a n c, v = .slice a n c) ∧ env.such 1 v

/-- What is asked of what came in: the slices, whose cells are as 'env' says. -/
structure EnvOk (env : Env) (K : Ctx) (w0 : World) (B : Nat) : Prop where
  sl : (∀ j, (env.sl j).1 = none → (env.sl j).2.1 = 0) ∧ ∀ j a, (env.sl j).1 = some a → 0 < (env.sl j).2.1 → a.spot = none
  len : ∀ j, (env.sl j).2.1 ≤ 9223372036854775807
  cell : ∀ (j : Nat) (kinds : List CK) (a : Addr) (i : Int) (n : Nat) (k : CK), K.osz j = some kinds → (env.sl j).1 = some a → 0 ≤ i → i < (env.sl j).2.1 →
    kinds[n]? = some k → a.block < B ∧ ∃ v, w0.cell? ⟨a.block, a.off + i.toNat * kinds.length + n, none⟩ = some v ∧ CkOk env k (1000 + 100 * j + n) i v
  inp : ∀ v, env.such 1 v → InpOk w0 B v
  nrm : ∀ e, (K.nrm e).den env = e.den env

section
variable {env : Env} {ρ : List Nat} {P : Program}

theorem fieldPlaces_ok (w : World) : ∀ (fs : List Field) (pl : List (Nat × Nat)), fieldPlaces P fs = some pl →
    (fs.mapM (fun f => (do pure (f.offset, ← sizeOf f.type) : Sem (Nat × Nat)))).run P w = .ok pl w := by
  intro fs
  induction fs with
  | nil => intro pl h; simp only [fieldPlaces, Option.some.injEq] at h; subst h; rfl
  | cons f fs ih =>
    intro pl h
    simp only [fieldPlaces] at h
    split at h
    · rename_i i r hi hr
      simp only [Option.some.injEq] at h; subst h
      have := ih r hr
      simp only [List.mapM_cons, Sem.run_bind, run_size hi, Result.andThen_ok, Sem.run_pure, this]
    · cases h

theorem evBuild_ok {t : TypeId} {parts : List (Nat × C)} {vals : List (Nat × Value)} {v : C} (h : evBuild P t parts = some v) (hl : parts.length = vals.length)
    (hp : ∀ (i : Nat) (p : Nat × C) (q : Nat × Value), parts[i]? = some p → vals[i]? = some q → p.1 = q.1 ∧ p.2.r env ρ [q.2]) :
    ∃ z, v.r env ρ [z] ∧ ∀ w, (Instr.build t vals.toArray).run P w = .ok z w := by
  unfold evBuild at h
  split at h
  · cases h
  rename_i inf hi
  split at h
  · cases h
  rename_i zr hz
  have hzv : ∀ w, (zeroValue t).run P w = .ok zr w := fun w => by simp [zeroValue, run_info hi, hz]
  have hzr : Rels env ρ (zr.cells.toList.map C.ofV0) zr.cells.toList := ofV0s_r ..
  split at h
  · rename_i fs hu
    split at h
    · rename_i places hpl
      cases hf : fillC (getL places) (zr.cells.toList.map C.ofV0) parts with
      | none => simp [hf] at h
      | some cs =>
        simp only [hf, Option.map_some, Option.some.injEq] at h; subst h
        obtain ⟨xs', hx, hr⟩ := fillC_ok (env := env) (ρ := ρ) (getL places) parts vals _ cs zr.cells.toList hf hl hp hzr
        refine ⟨.agg xs'.toArray, ⟨_, toC_r.2 hr, rfl⟩, fun w => ?_⟩
        have hm : (fs.mapM (fun f => (do pure (f.offset, ← sizeOf f.type) : Sem (Nat × Nat)))).run P w = .ok places.toArray w := by
          have := fieldPlaces_ok (P := P) w fs.toList places hpl
          rw [Array.mapM_eq_mapM_toList, Sem.run_map, this]
          simp
        have hfun : (fun i => places.toArray[i]?) = getL places := by funext i; rw [getL_eq]; simp
        simp only [Instr.build, Sem.run_bind, hzv, Result.andThen_ok, run_underlying hu, hm, hfun]
        rw [show zr.cells = zr.cells.toList.toArray by simp, hx]
        rfl
    · cases h
  · rename_i n e hu
    split at h
    · rename_i ie hie
      cases hf : fillC (fun j => some (j * ie.size, ie.size)) (zr.cells.toList.map C.ofV0) parts with
      | none => simp [hf] at h
      | some cs =>
        simp only [hf, Option.map_some, Option.some.injEq] at h; subst h
        obtain ⟨xs', hx, hr⟩ := fillC_ok (env := env) (ρ := ρ) _ parts vals _ cs zr.cells.toList hf hl hp hzr
        refine ⟨.agg xs'.toArray, ⟨_, toC_r.2 hr, rfl⟩, fun w => ?_⟩
        simp only [Instr.build, Sem.run_bind, hzv, Result.andThen_ok, run_underlying hu, run_size hie]
        rw [show zr.cells = zr.cells.toList.toArray by simp, hx]
        rfl
    · cases h
  · cases h

theorem pick_ok {e : E} {ca cb : C} {x y : Value} (hx : ca.r env ρ [x]) (hy : cb.r env ρ [y]) :
    C.r env ρ (match e with | .lit n => if intBeq n 0 then cb else ca | e => ca.mg e false cb) [if e.tt env then x else y] := by
  split
  · rename_i n
    rw [tt_lit]
    cases intBeq n 0 <;> simp [hx, hy]
  · cases h : e.tt env
    · simpa using mg_right h hy (by simp)
    · simpa using mg_left h hx (by simp)

theorem map_rels {s : St} {a : Act} (h : TsOk env ρ s.ts a.tmps) (l : List Operand) : Rels env ρ (l.map (evO s.ts)) (l.map a.eval) := by
  refine ⟨by simp, fun i c x hc hx => ?_⟩
  rw [List.getElem?_map] at hc hx
  cases hl : l[i]? with
  | none => simp [hl] at hc
  | some o => simp [hl] at hc hx; subst hc hx; exact evO_r h o

/-- The operations that read no memory: what they yield hangs on the temporaries alone. -/
theorem evOpR0_pure {K : Ctx} {w0 : World} {B : Nat} (hE : EnvOk env K w0 B) {s : St} {a : Act} {o : Oper} {v : C} {n : E} (ht : TsOk env ρ s.ts a.tmps) (hl : isLd o.op = false)
    (h : evOpR0 K s o.op = some (v, n)) (hn : n.tt env = true) :
    ∃ x, v.r env ρ [x] ∧ ∀ w, (execOp a.eval o).run K.P w = .ok (.value x) w := by
  have hO := fun x => evO_r ht x
  have key : ∀ (sv : Sem Value) (z : Value), (∀ w, sv.run K.P w = .ok z w) → ∀ w, ((do pure (Next.value (← sv)) : Sem Next)).run K.P w = .ok (.value z) w := fun sv z hz w => by simp [hz w]
  have mp : ∀ {f : Option C}, (f.map fun v => (v, E.lit 1)) = some (v, n) → f = some v := fun {f} hf => by
    cases f with
    | none => simp at hf
    | some u => simp at hf; rw [hf.1]
  unfold evOpR0 at h
  split at h
  · rename_i x ho
    simp only [Option.some.injEq, Prod.mk.injEq] at h; obtain ⟨rfl, rfl⟩ := h
    exact ⟨_, hO x, fun w => by simp [execOp, ho]⟩
  · rename_i x ho
    simp only [Option.some.injEq, Prod.mk.injEq] at h; obtain ⟨rfl, rfl⟩ := h
    exact ⟨_, hO x, fun w => by simp [execOp, ho]⟩
  · rename_i c x y ho
    split at h
    · rename_i e he
      simp only [Option.some.injEq, Prod.mk.injEq] at h; obtain ⟨rfl, rfl⟩ := h
      have hc := hO c; rw [he] at hc
      have hc := bool_r hc
      refine ⟨_, pick_ok (e := e) (hO x) (hO y), fun w => ?_⟩
      simp [execOp, ho, hc, asBool]
    · cases h
  · rename_i t p ho; simp [isLd, ho] at hl
  · rename_i bo t x y yt ho
    obtain ⟨z, hz, hr⟩ := evBinT_ok (P := K.P) h hn (hO x) (hO y) x y
    exact ⟨z, hz, fun w => by simp only [execOp, ho]; exact key _ z hr w⟩
  · rename_i uo t x ho
    obtain ⟨z, hz, hr⟩ := evUn_ok (P := K.P) (mp h) (hO x)
    exact ⟨z, hz, fun w => by simp only [execOp, ho]; exact key _ z hr w⟩
  · rename_i src dst x ho
    obtain ⟨z, hz, hr⟩ := evConv_ok (P := K.P) (mp h) (hO x)
    exact ⟨z, hz, fun w => by simp only [execOp, ho]; exact key _ z hr w⟩
  · rename_i t x f ho
    obtain ⟨z, hz, hr⟩ := evFieldAddr_ok (P := K.P) (mp h) (hO x)
    exact ⟨z, hz, fun w => by simp only [execOp, ho]; exact key _ z hr w⟩
  · rename_i t x ix ho
    obtain ⟨z, hz, hr⟩ := evIndexAddr_ok (P := K.P) h hn (hO x) (hO ix) hE.sl
    exact ⟨z, hz, fun w => by simp only [execOp, ho]; exact key _ z hr w⟩
  · rename_i t x ix ho
    obtain ⟨z, hz, hr⟩ := evIndex_ok (P := K.P) (mp h) (hO x) (hO ix)
    exact ⟨z, hz, fun w => by simp only [execOp, ho]; exact key _ z hr w⟩
  · rename_i t x f ho
    obtain ⟨z, hz, hr⟩ := evField_ok (P := K.P) (mp h) (hO x)
    exact ⟨z, hz, fun w => by simp only [execOp, ho]; exact key _ z hr w⟩
  · rename_i t parts ho
    obtain ⟨z, hz, hr⟩ := evBuild_ok (P := K.P) (vals := (parts.toList.map fun p => (p.1, a.eval p.2))) (mp h) (by simp) (by
      intro i p q hp hq
      rw [List.getElem?_map] at hp hq
      cases hl : parts.toList[i]? with
      | none => simp [hl] at hp
      | some r => simp only [hl, Option.map_some, Option.some.injEq] at hp hq; subst hp hq; exact ⟨rfl, hO _⟩)
    refine ⟨z, hz, fun w => ?_⟩
    simp only [execOp, ho]
    have he : (parts.map fun (i, x) => (i, a.eval x)) = (parts.toList.map fun p => (p.1, a.eval p.2)).toArray := by
      rw [← List.map_toArray, Array.toArray_toList]
    rw [he]
    exact key _ z hr w
  · rename_i x ho
    have hv := mp h
    obtain ⟨hz, hr⟩ := evNilCheck_ok (P := K.P) ho hv (hO x)
    exact ⟨_, hz, hr⟩
  · rename_i f x y ho
    simp only [Option.some.injEq, Prod.mk.injEq] at h; obtain ⟨rfl, rfl⟩ := h
    refine ⟨_, ⟨_, _, toC_r.2 (map_rels ht x.toList), toC_r.2 (map_rels ht y.toList), rfl⟩, fun w => ?_⟩
    simp only [execOp, ho, Instr.makeFunc, Sem.run_bind, Sem.run_pure, Result.andThen_ok]
    rw [← Array.toList_map, ← Array.toList_map, Array.toArray_toList, Array.toArray_toList]
  · rename_i t x ho
    obtain ⟨z, hz, hr⟩ := evMkIface_ok (P := K.P) (mp h) (hO x)
    exact ⟨z, hz, fun w => by simp only [execOp, ho]; exact key _ z hr w⟩
  · rename_i x xt t ok ho
    obtain ⟨z, hz, hr⟩ := evAssert_ok (P := K.P) (xt := xt) (mp h) (hO x)
    exact ⟨z, hz, fun w => by simp only [execOp, ho]; exact key _ z hr w⟩
  · rename_i t m ix ok ho; simp [isLd, ho] at hl
  · rename_i t i ho
    split at h
    · rename_i l hl'
      split at h
      · rename_i cs hcs
        have hg := mp h
        have hx := hO t; rw [hl'] at hx
        obtain ⟨xs, hxe, hxs⟩ := tup_r hx
        obtain ⟨z, hz, hr⟩ := (ofC_r hcs hxs).getL hg
        exact ⟨z, hr, fun w => by simp [execOp, ho, hxe, Instr.extract, hz]⟩
      · cases h
    · cases h
  · rename_i c ho
    split at h
    · rename_i hcal
      split at h
      · rename_i x t hargs htys
        obtain ⟨z, hz, hr⟩ := evLen_ok (P := K.P) (mp h) (hO x) hE.len o.type
        refine ⟨z, hz, fun w => ?_⟩
        have h1 : c.args = #[x] := by apply Array.ext'; exact hargs
        have h2 : c.argTypes = #[t] := by apply Array.ext'; exact htys
        simp [execOp, ho, resolve, hcal, invoke, builtin, h1, h2, hr]
      · cases h
    · cases h
  · cases h

theorem top_r {f : E → E} (hf : ∀ e, (f e).den env = e.den env) {v : C} {xs : List Value} (h : v.r env ρ xs) : (v.top f).r env ρ xs := by
  cases v <;> try exact h
  · rename_i k e; simp only [C.top, C.r, hf] at h ⊢; exact h
  · rename_i e; simp only [C.top, C.r, E.tt, hf] at h ⊢; exact h

theorem deep_r {f : E → E} (hf : ∀ e, (f e).den env = e.den env) : ∀ {v : C} {xs : List Value}, v.r env ρ xs → (v.deep f).r env ρ xs := by
  intro v
  induction v with
  | int k e => intro xs h; simp only [C.deep, C.r, hf] at h ⊢; exact h
  | bool e => intro xs h; simp only [C.deep, C.r, E.tt, hf] at h ⊢; exact h
  | agg l ih => intro xs h; obtain ⟨ys, h1, h2⟩ := h; exact ⟨ys, ih h1, h2⟩
  | tup l ih => intro xs h; obtain ⟨ys, h1, h2⟩ := h; exact ⟨ys, ih h1, h2⟩
  | cons a b iha ihb => intro xs h; obtain ⟨y, ys, h1, h2, h3⟩ := h; exact ⟨y, ys, iha h1, ihb h2, h3⟩
  | _ => intro xs h; exact h

/-- The same, rewritten. -/
theorem evOpR_pure {K : Ctx} {w0 : World} {B : Nat} (hE : EnvOk env K w0 B) {s : St} {a : Act} {o : Oper} {v : C} {n : E} (ht : TsOk env ρ s.ts a.tmps) (hl : isLd o.op = false)
    (h : evOpR K s o.op = some (v, n)) (hn : n.tt env = true) :
    ∃ x, v.r env ρ [x] ∧ ∀ w, (execOp a.eval o).run K.P w = .ok (.value x) w := by
  unfold evOpR at h
  split at h
  · rename_i r hr
    split at h
    · simp only [Option.some.injEq, Prod.mk.injEq] at h
      obtain ⟨rfl, rfl⟩ := h
      obtain ⟨x, hx, hw⟩ := evOpR0_pure (v := r.1) (n := r.2) hE ht hl hr (by rw [← hn]; simp only [E.tt, hE.nrm])
      exact ⟨x, top_r hE.nrm hx, hw⟩
    · simp only [Option.some.injEq] at h; subst h
      exact evOpR0_pure hE ht hl hr hn
  · cases h

end
end Go.Sx
