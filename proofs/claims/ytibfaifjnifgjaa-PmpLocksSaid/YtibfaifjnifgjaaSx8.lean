/-
  The symbolic executor: loads, look-ups, and the operations that make or write memory. No condition.
-/
import Derived.Test.YtibfaifjnifgjaaSx7
namespace Go.Sx
open Go.RowKit

section
variable {env : Env} {w0 : World} {B : Nat} {ρ : List Nat} {s : St} {a : Act} {w : World}

theorem optrCells_r {i : Nat} {e : E} : ∀ (kinds : List (Option IntKind)) (j : Nat), (∀ (n : Nat) (k : Option IntKind), kinds[n]? = some k → kin k (env.f (1000 + 100 * i + (j + n)) [e.den env])) →
    Rels env ρ (optrCells i e kinds j) ((List.range kinds.length).map fun n =>
      kval ((kinds[n]?).getD none) (env.f (1000 + 100 * i + (j + n)) [e.den env])) := by
  intro kinds
  induction kinds with
  | nil => intro j _; exact .nil
  | cons k ks ih =>
    intro j hin
    rw [List.length_cons, List.range_succ_eq_map, List.map_cons, List.map_map]
    have ht : ∀ n, j + 1 + n = j + (n + 1) := fun n => by omega
    have := ih (j + 1) (fun n k hk => by have := hin (n + 1) k (by simpa using hk); rwa [← ht n] at this)
    cases k with
    | none =>
      refine .cons rfl ?_
      simpa [Function.comp_def, ht] using this
    | some k =>
      refine .cons ⟨rfl, hin 0 _ rfl⟩ ?_
      simpa [Function.comp_def, ht] using this

theorem evLoad_ok {K : Ctx} (hE : EnvOk env K w0 B) (h : Sim env w0 B ρ s a w) {t : TypeId} {p v : C} {x : Value} (hv : evLoad K s.H t p = some v) (hx : p.r env ρ [x]) :
    ∃ z, v.r env ρ [z] ∧ (Instr.loadAt t x).run K.P w = .ok z w := by
  unfold evLoad at hv
  split at hv
  · rename_i b o
    obtain ⟨g, hg, rfl⟩ := ptr_r hx
    split at hv
    · rename_i cs ty hb
      rw [getL_eq] at hb
      obtain ⟨xs, hxs, hr⟩ := h.heap.blk b g _ hg hb
      obtain ⟨z, hz, hl⟩ := loadVar_part (P := K.P) hv hr
      exact ⟨z, hz, by simp [Instr.loadAt, Instr.sureAddr, hl w g ty _ hxs]⟩
    · cases hv
  · rename_i i e size off
    split at hv
    · rename_i kinds hk
      split at hv
      · rename_i hs
        have hs' : kinds.length = size := Nat.eq_of_beq_eq_true hs
        obtain ⟨ad, ha, h1, h2, rfl⟩ := optr_r hx
        obtain ⟨z, hz, hl⟩ := loadVar_cells (P := K.P) hv (optrCells_r kinds 0 (fun n k hk' => by rw [Nat.zero_add]; exact (hE.cell i kinds ad (e.den env) n k hk ha h1 h2 hk').2.2))
        refine ⟨z, hz, ?_⟩
        have := hl w ad.block (ad.off + (e.den env).toNat * size) (fun j u hu => by
          rw [List.getElem?_map] at hu
          by_cases hj : j < kinds.length
          · rw [List.getElem?_range hj] at hu
            simp only [Option.map_some, Option.some.injEq] at hu
            obtain ⟨hB, hc, _⟩ := hE.cell i kinds ad (e.den env) j kinds[j] hk ha h1 h2 (List.getElem?_eq_getElem hj)
            rw [h.below.cell (p := ⟨ad.block, _, none⟩) hB, ← hs', hc, ← hu]
            rw [List.getElem?_eq_getElem hj, Option.getD_some, Nat.zero_add]
          · rw [List.getElem?_eq_none (by simpa using hj)] at hu; simp at hu)
        simp only [Instr.loadAt, Instr.sureAddr, Sem.run_bind, Sem.run_pure, Result.andThen_ok]
        exact this
      · cases hv
    · cases hv
  · cases hv

/-! ### Maps -/

/-- What the executor knows of a map's entries. -/
def EsOk (env : Env) (ρ : List Nat) (es : List (C × C × Nat)) (ms : List MapEntry) : Prop :=
  es.length = ms.length ∧ ∀ (i : Nat) (e : C × C × Nat) (m : MapEntry), es[i]? = some e → ms[i]? = some m → e.1.r env ρ [m.key] ∧ e.2.1.r env ρ [m.val] ∧ e.2.2 = m.born

theorem EsOk.uncons {e : C × C × Nat} {es : List (C × C × Nat)} {ms : List MapEntry} (h : EsOk env ρ (e :: es) ms) :
    ∃ m ms', ms = m :: ms' ∧ (e.1.r env ρ [m.key] ∧ e.2.1.r env ρ [m.val] ∧ e.2.2 = m.born) ∧ EsOk env ρ es ms' := by
  obtain ⟨hl, hr⟩ := h
  cases ms with
  | nil => simp at hl
  | cons m ms => exact ⟨m, ms, rfl, hr 0 e m rfl rfl, by simpa using hl, fun i e m he hm => hr (i + 1) e m (by simpa using he) (by simpa using hm)⟩

theorem EsOk.cons {e : C × C × Nat} {m : MapEntry} {es : List (C × C × Nat)} {ms : List MapEntry} (h : e.1.r env ρ [m.key] ∧ e.2.1.r env ρ [m.val] ∧ e.2.2 = m.born) (hs : EsOk env ρ es ms) : EsOk env ρ (e :: es) (m :: ms) := by
  refine ⟨by simp [hs.1], fun i e' m' he hm => ?_⟩
  cases i with
  | zero => simp at he hm; subst he hm; exact h
  | succ i => exact hs.2 i e' m' (by simpa using he) (by simpa using hm)

theorem EsOk.nil : EsOk env ρ [] [] := ⟨rfl, by simp⟩

theorem findC_ok (k : IntKind) (e : E) (kk : IntKind) : ∀ (es : List (C × C × Nat)) (ms : List MapEntry) (r : Option C) (n : E) (i : Nat), findC k e es = some (r, n) → n.tt env = true → EsOk env ρ es ms →
    ∃ q : Option (Nat × Value), Instr.findNow (.int kk) (.int k (e.den env)) ms i = some q ∧ (match r with | some v => ∃ j z, q = some (j, z) ∧ v.r env ρ [z] | none => q = none) := by
  intro es
  induction es with
  | nil =>
    intro ms r n i h hn hm
    have := hm.1
    cases ms with
    | nil => simp only [findC, Option.some.injEq, Prod.mk.injEq] at h; obtain ⟨rfl, rfl⟩ := h; exact ⟨none, rfl, rfl⟩
    | cons => simp at this
  | cons e0 es ih =>
    intro ms r n i h hn hm
    obtain ⟨key, v0, born⟩ := e0
    obtain ⟨m, ms', rfl, ⟨hk, hv, hbn⟩, hms⟩ := hm.uncons
    simp only [findC] at h
    split at h
    · rename_i k' n'
      split at h
      · rename_i hkk
        have hkk := sameKind_iff.1 hkk; subst hkk
        have hkey : m.key = .int k n' := int_r hk
        split at h
        · rename_i m'
          split at h
          · rename_i heq
            have heq := intBeq_iff.1 heq; subst heq
            simp only [Option.some.injEq, Prod.mk.injEq] at h; obtain ⟨rfl, rfl⟩ := h
            refine ⟨some (i, m.val), ?_, ⟨i, m.val, rfl, hv⟩⟩
            simp [Instr.findNow, Instr.sameNow, hkey, den_lit]
          · rename_i heq
            have hne : m' ≠ n' := fun hh => heq (intBeq_iff.2 hh)
            obtain ⟨q, hq, hr⟩ := ih ms' r n (i + 1) h hn hms
            refine ⟨q, ?_, hr⟩
            simp only [Instr.findNow, Instr.sameNow, hkey, den_lit] at hq ⊢
            have : (m' == n') = false := by simpa using hne
            simp [this, hq]
        · split at h
          · rename_i nd hnd
            simp only [Option.some.injEq, Prod.mk.injEq] at h; obtain ⟨rfl, rfl⟩ := h
            rw [andE_tt, Bool.and_eq_true, tt_neq] at hn
            obtain ⟨q, hq, hr⟩ := ih ms' none nd (i + 1) hnd hn.2 hms
            refine ⟨q, ?_, hr⟩
            have : (e.den env == n') = false := by simpa [den_lit] using hn.1
            simp [Instr.findNow, Instr.sameNow, hkey, this, hq]
          · cases h
      · cases h
    · cases h

theorem checkKey_int {P : Program} {kt : TypeId} {kk k : IntKind} (hk : P.underlying kt = some (.int kk)) (b : Bool) (n : Nat) (x : Int) (w : World) : (Instr.checkKey b (n + 1) kt (.int k x)).run P w = .ok () w := by
  simp [Instr.checkKey, run_underlying hk]

theorem evLookup_ok {K : Ctx} (h : Sim env w0 B ρ s a w) {t : TypeId} {m ix v : C} {ok : Bool} {n : E} {x y : Value} (hv : evLookup K.P s.H t m ix ok = some (v, n)) (hn : n.tt env = true)
    (hx : m.r env ρ [x]) (hy : ix.r env ρ [y]) : ∃ z, v.r env ρ [z] ∧ (Instr.lookup t x y ok).run K.P w = .ok z w := by
  have ht : C.r env ρ (.bool (.lit 1)) [.bool true] := by simp [C.r, tt_lit, intBeq_eq]
  have hf : C.r env ρ (.bool (.lit 0)) [.bool false] := by simp [C.r, tt_lit, intBeq_eq]
  unfold evLookup at hv
  split at hv
  · rename_i kt et b k e hu
    split at hv
    · rename_i kk es clock hk hb
      rw [getL_eq] at hb
      obtain ⟨g, hg, rfl⟩ := map_r hx
      have := int_r hy; subst y
      obtain ⟨ms, hms, hlen, hes⟩ := h.heap.blk b g _ hg hb
      have hck : ∀ b, (Instr.checkKey b 10000 kt (.int k (e.den env))).run K.P w = .ok () w := fun b => checkKey_int hk b 9999 _ w
      split at hv
      · rename_i v' nd hfc
        simp only [Option.some.injEq, Prod.mk.injEq] at hv; obtain ⟨rfl, rfl⟩ := hv
        obtain ⟨q, hq, j, z, rfl, hz⟩ := findC_ok k e kk es ms (some v') nd 0 hfc hn ⟨hlen, hes⟩
        have hfk : (Instr.findKey kt (.int k (e.den env)) ms).run K.P w = .ok (some (j, z)) w := by
          simp [Instr.findKey, run_underlying hk, hq]
        cases ok
        · refine ⟨z, hz, ?_⟩
          simp [Instr.lookup, run_underlying hu, getObj, Sem.run, hms, hck, hfk]
        · refine ⟨.tuple #[z, .bool true], ⟨[z, .bool true], toC_r.2 (.cons hz (.cons ht .nil)), rfl⟩, ?_⟩
          simp [Instr.lookup, run_underlying hu, getObj, Sem.run, hms, hck, hfk]
      · rename_i nd hfc
        split at hv
        · rename_i inf hi
          split at hv
          · rename_i zr hzr
            simp only [Option.some.injEq, Prod.mk.injEq] at hv; obtain ⟨rfl, rfl⟩ := hv
            obtain ⟨q, hq, rfl⟩ := findC_ok k e kk es ms none nd 0 hfc hn ⟨hlen, hes⟩
            have hzv : (zeroValue et).run K.P w = .ok zr w := by simp [zeroValue, run_info hi, hzr]
            have hfk : (Instr.findKey kt (.int k (e.den env)) ms).run K.P w = .ok none w := by
              simp [Instr.findKey, run_underlying hk, hq]
            cases ok
            · refine ⟨zr, ofV_r .., ?_⟩
              simp [Instr.lookup, run_underlying hu, getObj, Sem.run, hms, hck, hfk, hzv]
            · refine ⟨.tuple #[zr, .bool false], ⟨[zr, .bool false], toC_r.2 (.cons (ofV_r ..) (.cons hf .nil)), rfl⟩, ?_⟩
              simp [Instr.lookup, run_underlying hu, getObj, Sem.run, hms, hck, hfk, hzv]
          · cases hv
        · cases hv
      · cases hv
    · cases hv
  · cases hv

theorem evOpR_ld {K : Ctx} {s : St} {op : Op} (h : isLd op = true) : evOpR K s op = evOpR0 K s op := by
  unfold evOpR
  have hn : nrmOp op = false := by cases op <;> first | rfl | simp [isLd] at h
  cases evOpR0 K s op with
  | none => rfl
  | some r => simp [hn]

/-- All operations that write no memory. -/
theorem evOpR_ok {K : Ctx} (hE : EnvOk env K w0 B) (h : Sim env w0 B ρ s a w) {o : Oper} {v : C} {n : E} (hv : evOpR K s o.op = some (v, n)) (hn : n.tt env = true) :
    ∃ x, v.r env ρ [x] ∧ (execOp a.eval o).run K.P w = .ok (.value x) w := by
  by_cases hl : isLd o.op = true
  · cases ho : o.op <;> simp [isLd, ho] at hl
    · rename_i t p
      rw [ho] at hv
      simp only [evOpR_ld (op := .load t p) rfl, evOpR0] at hv
      cases hld : evLoad K s.H t (evO s.ts p) with
      | none => simp [hld] at hv
      | some u =>
        simp only [hld, Option.map_some, Option.some.injEq, Prod.mk.injEq] at hv; obtain ⟨rfl, rfl⟩ := hv
        obtain ⟨z, hz, hr⟩ := evLoad_ok hE h hld (evO_r h.ts p)
        exact ⟨z, hz, by simp [execOp, ho, hr]⟩
    · rename_i t m ix ok
      rw [ho] at hv
      simp only [evOpR_ld (op := .lookup t m ix ok) rfl, evOpR0] at hv
      obtain ⟨z, hz, hr⟩ := evLookup_ok h hv hn (evO_r h.ts m) (evO_r h.ts ix)
      exact ⟨z, hz, by simp [execOp, ho, hr]⟩
  · obtain ⟨x, hx, hr⟩ := evOpR_pure hE h.ts (by simpa using hl) hv hn
    exact ⟨x, hx, hr w⟩

end
end Go.Sx
