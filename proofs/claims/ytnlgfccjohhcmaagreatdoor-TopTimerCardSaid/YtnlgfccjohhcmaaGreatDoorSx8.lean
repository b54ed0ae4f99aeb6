/-
  The symbolic executor: loads, look-ups, and the operations that make or write memory. No condition.
-/
import Derived.Test.YtnlgfccjohhcmaaGreatDoorSx7
namespace Go.Sx
open Go.RowKit

section
variable {env : Env} {w0 : World} {B : Nat} {ρ : List Nat} {s : St} {a : Act} {w : World}

theorem optrCells_r {i : Nat} {e : E} : ∀ (kinds : List CK) (j : Nat) (xs : List Value), xs.length = kinds.length → (∀ (n : Nat) (k : CK) (v : Value), kinds[n]? = some k → xs[n]? = some v → CkOk env k (1000 + 100 * i + (j + n)) (e.den env) v) →
    Rels env ρ (optrCells i e kinds j) xs := by
  intro kinds
  induction kinds with
  | nil => intro j xs hl _; cases xs with
    | nil => exact .nil
    | cons => simp at hl
  | cons k ks ih =>
    intro j xs hl hin
    cases xs with
    | nil => simp at hl
    | cons x xs =>
      have ht : ∀ n, j + 1 + n = j + (n + 1) := fun n => by omega
      have hrest := ih (j + 1) xs (by simpa using hl) (fun n k v hk hv => by have := hin (n + 1) k v (by simpa using hk) (by simpa using hv); rwa [← ht n] at this)
      have h0 := hin 0 k x rfl rfl
      simp only [optrCells]
      refine .cons ?_ hrest
      rcases k with _ | k
      · rename_i k
        cases k with
        | none => obtain ⟨rfl, _⟩ := h0; rfl
        | some k => obtain ⟨rfl, hk⟩ := h0; exact ⟨rfl, hk⟩
      · obtain ⟨⟨a, n, c, rfl⟩, h⟩ := h0; exact ⟨a, n, c, rfl, fun _ => h⟩

theorem top_rels {f : E → E} (hf : ∀ e, (f e).den env = e.den env) {cs : List C} {xs : List Value} (h : Rels env ρ cs xs) : Rels env ρ (cs.map (C.top f)) xs := by
  refine ⟨by simp [h.1], fun i c x hc hx => ?_⟩
  rw [List.getElem?_map] at hc
  cases hi : cs[i]? with
  | none => simp [hi] at hc
  | some c' => simp only [hi, Option.map_some, Option.some.injEq] at hc; subst hc; exact top_r hf (h.2 i c' x hi hx)

theorem evLoad_ok {K : Ctx} (hE : EnvOk env K w0 B) (h : Sim env w0 B ρ s a w) {t : TypeId} {p v : C} {x : Value} (hv : evLoad K s.H t p = some v) (hx : p.r env ρ [x]) :
    ∃ z, v.r env ρ [z] ∧ (Instr.loadAt t x).run K.P w = .ok z w := by
  unfold evLoad at hv
  split at hv
  · rename_i b o
    obtain ⟨g, hg, rfl⟩ := ptr_r hx
    split at hv
    · rename_i cs ty hb
      rw [getL_eq] at hb
      obtain ⟨xs, tl, hxs, hr, _⟩ := h.heap.blk b g _ hg hb
      obtain ⟨z, hz, hl⟩ := loadVar_part (P := K.P) hv hr
      exact ⟨z, hz, by simp only [Instr.loadAt, Instr.sureAddr, Sem.run_bind, Sem.run_pure, Result.andThen_ok, hl w g tl ty _ hxs]⟩
    · cases hv
  · rename_i i e size off
    split at hv
    · rename_i kinds hk
      split at hv
      · rename_i hs
        have hs' : kinds.length = size := Nat.eq_of_beq_eq_true hs
        obtain ⟨ad, ha, h1, h2, rfl⟩ := optr_r hx
        let f : Nat → Value := fun n => (w0.cell? ⟨ad.block, ad.off + (e.den env).toNat * kinds.length + n, none⟩).getD undef
        have hcell : ∀ (n : Nat) (hn : n < kinds.length), ad.block < B ∧ w0.cell? ⟨ad.block, ad.off + (e.den env).toNat * kinds.length + n, none⟩ = some (f n) ∧ CkOk env kinds[n] (1000 + 100 * i + n) (e.den env) (f n) := fun n hn => by
          obtain ⟨hB, v, hc, hk'⟩ := hE.cell i kinds ad (e.den env) n kinds[n] hk ha h1 h2 (List.getElem?_eq_getElem hn)
          have : f n = v := by show (w0.cell? _).getD undef = v; rw [hc]; rfl
          exact ⟨hB, by rw [this]; exact hc, by rw [this]; exact hk'⟩
        obtain ⟨z, hz, hl⟩ := loadVar_cells (P := K.P) hv (top_rels hE.nrm (optrCells_r (ρ := ρ) kinds 0 ((List.range kinds.length).map f) (by simp) (fun n k v hn hv => by
          have hlt := (List.getElem?_eq_some_iff.1 hn).1
          rw [List.getElem?_map, List.getElem?_range hlt] at hv
          simp only [Option.map_some, Option.some.injEq] at hv; subst hv
          have hk' : kinds[n] = k := by rw [List.getElem?_eq_getElem hlt] at hn; simpa using hn
          rw [Nat.zero_add, ← hk']; exact (hcell n hlt).2.2)))
        refine ⟨z, hz, ?_⟩
        have := hl w ad.block (ad.off + (e.den env).toNat * size) (fun j u hu => by
          rw [List.getElem?_map] at hu
          by_cases hj : j < kinds.length
          · rw [List.getElem?_range hj] at hu
            simp only [Option.map_some, Option.some.injEq] at hu
            obtain ⟨hB, hc, _⟩ := hcell j hj
            rw [h.below.cell (p := ⟨ad.block, _, none⟩) hB, ← hs', hc, hu]
          · rw [List.getElem?_eq_none (by simpa using hj)] at hu; simp at hu)
        simp only [Instr.loadAt, Instr.sureAddr, Sem.run_bind, Sem.run_pure, Result.andThen_ok]
        exact this
      · cases hv
    · cases hv
  · cases hv

/-! ### Maps -/

end

section
variable {env : Env} {ρ : List Nat}

theorem assocM_key {k : IntKind} {n : Int} {x : Value} : ∀ {ms : List MapEntry}, assocM k n ms = some x → ∃ m ∈ ms, m.key = .int k n := by
  intro ms
  induction ms with
  | nil => intro h; cases h
  | cons m ms ih =>
    intro h
    simp only [assocM] at h
    split at h
    · rename_i k' n' hk
      split at h
      · rename_i hc; obtain ⟨rfl, rfl⟩ := hc; exact ⟨m, by simp, hk⟩
      · obtain ⟨m', h1, h2⟩ := ih h; exact ⟨m', by simp [h1], h2⟩
    · obtain ⟨m', h1, h2⟩ := ih h; exact ⟨m', by simp [h1], h2⟩

/-- Where the model finds a key, and what the map is once it holds another value there. -/
theorem find_spec (kk k : IntKind) (n : Int) : ∀ (ms : List MapEntry), (∀ m ∈ ms, ∃ n, m.key = .int k n) →
    (assocM k n ms = none ∧ ∀ i, Instr.findNow (.int kk) (.int k n) ms i = some none) ∨
    (∃ j m', (∀ i, Instr.findNow (.int kk) (.int k n) ms i = some (some (i + j, m'.val))) ∧ ms[j]? = some m' ∧ m'.key = .int k n ∧ assocM k n ms = some m'.val ∧
      ∀ z k2 n2, assocM k2 n2 (ms.set j { m' with key := .int k n, val := z }) = if k = k2 ∧ n = n2 then some z else assocM k2 n2 ms) := by
  intro ms
  induction ms with
  | nil => intro _; exact .inl ⟨rfl, fun _ => rfl⟩
  | cons m ms ih =>
    intro hk
    obtain ⟨n', hm⟩ := hk m (by simp)
    by_cases hn : n' = n
    · subst hn
      refine .inr ⟨0, m, fun i => by simp [Instr.findNow, Instr.sameNow, hm], rfl, hm, by simp [assocM, hm], fun z k2 n2 => ?_⟩
      simp only [List.set_cons_zero, assocM, hm]
      split
      · rfl
      · rfl
    · have hne : (n == n') = false := by simpa using fun h => hn h.symm
      have hf : ∀ i, Instr.findNow (.int kk) (.int k n) (m :: ms) i = Instr.findNow (.int kk) (.int k n) ms (i + 1) := fun i => by simp [Instr.findNow, Instr.sameNow, hm, hne]
      have ha : assocM k n (m :: ms) = assocM k n ms := by simp [assocM, hm, hn]
      rcases ih (fun m hm => hk m (by simp [hm])) with ⟨h1, h2⟩ | ⟨j, m', h1, h2, h3, h4, h5⟩
      · exact .inl ⟨by rw [ha, h1], fun i => by rw [hf, h2]⟩
      · refine .inr ⟨j + 1, m', fun i => by rw [hf, h1]; congr 3; omega, by simpa using h2, h3, by rw [ha, h4], fun z k2 n2 => ?_⟩
        simp only [List.set_cons_succ, assocM, hm]
        rw [h5]
        split
        · rename_i hc
          obtain ⟨rfl, rfl⟩ := hc
          rw [if_neg (by rintro ⟨_, h⟩; exact hn h.symm)]
        · rfl

theorem assocM_append (k : IntKind) (n : Int) (m : MapEntry) : ∀ (ms : List MapEntry), assocM k n (ms ++ [m]) = match assocM k n ms with
    | some x => some x
    | none => assocM k n [m] := by
  intro ms
  induction ms with
  | nil => rfl
  | cons m0 ms ih =>
    simp only [List.cons_append, assocM] at ih ⊢
    split
    · split
      · rfl
      · exact ih
    · exact ih

theorem assocC_append (k : IntKind) (n : Int) (e : C × C × Nat) : ∀ (es : List (C × C × Nat)), assocC k n (es ++ [e]) = match assocC k n es with
    | some x => some x
    | none => assocC k n [e] := by
  intro es
  induction es with
  | nil => rfl
  | cons e0 es ih =>
    simp only [List.cons_append, assocC] at ih ⊢
    split
    · split
      · rfl
      · exact ih
    · exact ih

/-- Keys that are literals of one kind. -/
def LitKeys (k : IntKind) (es : List (C × C × Nat)) : Prop := ∀ e ∈ es, ∃ n, e.1 = .int k (.lit n)

theorem MpOk.lits {es : List (C × C × Nat)} {ms : List MapEntry} (h : MpOk env ρ es ms) {k : IntKind} (hk : LitKeys k es) : ∀ m ∈ ms, ∃ n, m.key = .int k n := by
  intro m hm
  obtain ⟨e, he, hr⟩ := h.keys m hm
  obtain ⟨n, hn⟩ := hk e he
  rw [hn] at hr
  exact ⟨n, int_r hr⟩

theorem MpOk.of_key {es : List (C × C × Nat)} {ms : List MapEntry} (h : MpOk env ρ es ms) {k : IntKind} {n : Int} {x : Value} (hx : assocM k n ms = some x) : ∀ m ∈ ms, ∃ n, m.key = .int k n := by
  obtain ⟨k0, hk⟩ := h.kind
  obtain ⟨m, hm, hkey⟩ := assocM_key hx
  obtain ⟨n', hn'⟩ := hk m hm
  rw [hkey] at hn'
  simp only [Value.int.injEq] at hn'
  obtain ⟨rfl, rfl⟩ := hn'
  exact hk

theorem findC_assoc {k : IntKind} {e : E} : ∀ {es : List (C × C × Nat)} {r : Option C} {nd : E}, findC k e es = some (r, nd) → nd.tt env = true →
    (∃ v, r = some v ∧ assocC k (e.den env) es = some v) ∨ (r = none ∧ assocC k (e.den env) es = none ∧ LitKeys k es) := by
  intro es
  induction es with
  | nil => intro r nd h _; simp only [findC, Option.some.injEq, Prod.mk.injEq] at h; exact .inr ⟨h.1.symm, rfl, by simp [LitKeys]⟩
  | cons e0 es ih =>
    intro r nd h hn
    obtain ⟨key, v0, born⟩ := e0
    simp only [findC] at h
    split at h
    · rename_i k' n'
      split at h
      · rename_i hkk
        have hkk := sameKind_iff.1 hkk; subst hkk
        have hlit : LitKeys k es → LitKeys k ((C.int k (.lit n'), v0, born) :: es) := fun hl e he => by
          rcases List.mem_cons.1 he with rfl | he
          · exact ⟨n', rfl⟩
          · exact hl e he
        split at h
        · rename_i m'
          split at h
          · rename_i heq
            have heq := intBeq_iff.1 heq; subst heq
            simp only [Option.some.injEq, Prod.mk.injEq] at h
            exact .inl ⟨v0, h.1.symm, by simp [assocC, den_lit]⟩
          · rename_i heq
            have hne : m' ≠ n' := fun hh => heq (intBeq_iff.2 hh)
            have ha : assocC k ((E.lit m').den env) ((C.int k (.lit n'), v0, born) :: es) = assocC k ((E.lit m').den env) es := by
              simp only [assocC, den_lit]; rw [if_neg (by rintro ⟨_, rfl⟩; exact hne rfl)]
            rw [ha]
            rcases ih h hn with h1 | ⟨h1, h2, h3⟩
            · exact .inl h1
            · exact .inr ⟨h1, h2, hlit h3⟩
        · split at h
          · rename_i nd' hnd
            simp only [Option.some.injEq, Prod.mk.injEq] at h; obtain ⟨rfl, rfl⟩ := h
            rw [andE_tt, Bool.and_eq_true, tt_neq] at hn
            have hne : e.den env ≠ n' := by simpa [den_lit] using hn.1
            have ha : assocC k (e.den env) ((C.int k (.lit n'), v0, born) :: es) = assocC k (e.den env) es := by
              simp only [assocC]; rw [if_neg (by rintro ⟨_, h⟩; exact hne h.symm)]
            rw [ha]
            rcases ih hnd hn.2 with ⟨v, hv, _⟩ | ⟨h1, h2, h3⟩
            · cases hv
            · exact .inr ⟨rfl, h2, hlit h3⟩
          · cases h
      · cases h
    · cases h

theorem findC_ok' (k : IntKind) (e : E) (kk : IntKind) {es : List (C × C × Nat)} {ms : List MapEntry} {r : Option C} {n : E} (i : Nat) (h : findC k e es = some (r, n)) (hn : n.tt env = true) (hm : MpOk env ρ es ms) :
    ∃ q : Option (Nat × Value), Instr.findNow (.int kk) (.int k (e.den env)) ms i = some q ∧ (match r with | some v => ∃ j z, q = some (j, z) ∧ v.r env ρ [z] | none => q = none) := by
  have he := hm.ent k (e.den env)
  rcases findC_assoc h hn with ⟨v, rfl, ha⟩ | ⟨rfl, ha, hl⟩
  · rw [ha] at he
    cases hx : assocM k (e.den env) ms with
    | none => rw [hx] at he; exact he.elim
    | some x =>
      rw [hx] at he
      rcases find_spec kk k (e.den env) ms (hm.of_key hx) with ⟨h1, _⟩ | ⟨j, m', h1, _, _, h4, _⟩
      · rw [h1] at hx; cases hx
      · rw [h4] at hx; simp only [Option.some.injEq] at hx
        exact ⟨_, h1 i, _, _, rfl, by rw [hx]; exact he⟩
  · rw [ha] at he
    cases hx : assocM k (e.den env) ms with
    | some x => rw [hx] at he; exact he.elim
    | none =>
      rcases find_spec kk k (e.den env) ms (hm.lits hl) with ⟨_, h1⟩ | ⟨j, m', _, _, _, h4, _⟩
      · exact ⟨none, h1 i, rfl⟩
      · rw [h4] at hx; cases hx

theorem putM_assoc {k : IntKind} {n : Int} {v : C} : ∀ {es : List (C × C × Nat)} {r : Option (List (C × C × Nat))}, putM k n v es = some r →
    (∃ es', r = some es' ∧ (∃ v0, assocC k n es = some v0) ∧ (∀ k2 n2, assocC k2 n2 es' = if k = k2 ∧ n = n2 then some v else assocC k2 n2 es) ∧ es'.map (·.1) = es.map (·.1)) ∨
    (r = none ∧ assocC k n es = none ∧ LitKeys k es) := by
  intro es
  induction es with
  | nil => intro r h; simp only [putM, Option.some.injEq] at h; exact .inr ⟨h.symm, rfl, by simp [LitKeys]⟩
  | cons e0 es ih =>
    intro r h
    obtain ⟨key, v0, born⟩ := e0
    simp only [putM] at h
    split at h
    · rename_i k' n'
      split at h
      · rename_i hkk
        have hkk := sameKind_iff.1 hkk; subst hkk
        split at h
        · rename_i heq
          have heq := intBeq_iff.1 heq; subst heq
          simp only [Option.some.injEq] at h; subst h
          refine .inl ⟨_, rfl, ⟨v0, by simp [assocC]⟩, fun k2 n2 => ?_, rfl⟩
          simp only [assocC]
          split <;> rfl
        · rename_i heq
          have hne : n ≠ n' := fun hh => heq (intBeq_iff.2 hh)
          have ha : assocC k n ((C.int k (.lit n'), v0, born) :: es) = assocC k n es := by
            simp only [assocC]; rw [if_neg (by rintro ⟨_, h⟩; exact hne h.symm)]
          split at h
          · rename_i es' hes
            simp only [Option.some.injEq] at h; subst h
            rcases ih hes with ⟨es2, h1, h2, h3, h4⟩ | ⟨h1, _⟩
            · simp only [Option.some.injEq] at h1; subst h1
              refine .inl ⟨_, rfl, by rw [ha]; exact h2, fun k2 n2 => ?_, by simp [h4]⟩
              simp only [assocC]
              rw [h3]
              split
              · rename_i hc; obtain ⟨rfl, rfl⟩ := hc
                rw [if_neg (by rintro ⟨_, h⟩; exact hne h)]
              · rfl
            · cases h1
          · rename_i hes
            simp only [Option.some.injEq] at h; subst h
            rcases ih hes with ⟨es2, h1, _⟩ | ⟨_, h2, h3⟩
            · cases h1
            · refine .inr ⟨rfl, by rw [ha]; exact h2, fun e he => ?_⟩
              rcases List.mem_cons.1 he with rfl | he
              · exact ⟨n', rfl⟩
              · exact h3 e he
          · cases h
      · cases h
    · cases h

theorem entOk_if {k k2 : IntKind} {n n2 : Int} {v : C} {z : Value} {es : List (C × C × Nat)} {ms : List MapEntry} (hz : v.r env ρ [z]) (h : EntOk env ρ (assocC k2 n2 es) (assocM k2 n2 ms)) :
    EntOk env ρ (if k = k2 ∧ n = n2 then some v else assocC k2 n2 es) (if k = k2 ∧ n = n2 then some z else assocM k2 n2 ms) := by
  split
  · exact hz
  · exact h

/-- A key put in. -/
theorem MpOk.put {es : List (C × C × Nat)} {ms : List MapEntry} (h : MpOk env ρ es ms) {k : IntKind} (kk : IntKind) {n : Int} (hkn : InK k n) {v : C} {z : Value} (hz : v.r env ρ [z]) {r : Option (List (C × C × Nat))} (hp : putM k n v es = some r) (b clock : Nat) :
    match r with
    | some es' => ∃ j m', Instr.findNow (.int kk) (.int k n) ms 0 = some (some (j, m'.val)) ∧ ms[j]? = some m' ∧ m'.key = .int k n ∧ MpOk env ρ es' (ms.set j { m' with key := .int k n, val := z })
    | none => Instr.findNow (.int kk) (.int k n) ms 0 = some none ∧ MpOk env ρ (es ++ [(.int k (.lit n), v, b)]) (ms ++ [({ key := .int k n, val := z, born := clock } : MapEntry)]) := by
  have he := h.ent k n
  rcases putM_assoc hp with ⟨es', rfl, ⟨v0, hv0⟩, h3, h4⟩ | ⟨rfl, ha, hl⟩
  · rw [hv0] at he
    cases hx : assocM k n ms with
    | none => rw [hx] at he; exact he.elim
    | some x =>
      have hkeys := h.of_key hx
      rcases find_spec kk k n ms hkeys with ⟨h1, _⟩ | ⟨j, m', f1, f2, f3, _, f5⟩
      · rw [h1] at hx; cases hx
      · refine ⟨j, m', by simpa using f1 0, f2, f3, fun e he => ?_, ?_, ?_, fun k2 n2 => ?_⟩
        · have : e.1 ∈ es.map (·.1) := by rw [← h4]; exact List.mem_map.2 ⟨e, he, rfl⟩
          obtain ⟨e0, h0, heq⟩ := List.mem_map.1 this
          obtain ⟨k1, n1, hk1⟩ := h.lit e0 h0
          exact ⟨k1, n1, by rw [← heq]; exact hk1⟩
        · intro m hm
          have hm' : ∃ m0 ∈ ms, m0.key = m.key := by
            rcases List.mem_or_eq_of_mem_set hm with hm | rfl
            · exact ⟨m, hm, rfl⟩
            · exact ⟨m', List.mem_of_getElem? f2, f3⟩
          obtain ⟨m0, hm0, hk0⟩ := hm'
          obtain ⟨e, he1, he2⟩ := h.keys m0 hm0
          have : e.1 ∈ es'.map (·.1) := by rw [h4]; exact List.mem_map.2 ⟨e, he1, rfl⟩
          obtain ⟨e', he', heq⟩ := List.mem_map.1 this
          exact ⟨e', he', by rw [heq, ← hk0]; exact he2⟩
        · refine ⟨k, fun m hm => ?_⟩
          rcases List.mem_or_eq_of_mem_set hm with hm | rfl
          · exact hkeys m hm
          · exact ⟨n, rfl⟩
        · rw [h3, f5]; exact entOk_if hz (h.ent k2 n2)
  · rw [ha] at he
    cases hx : assocM k n ms with
    | some x => rw [hx] at he; exact he.elim
    | none =>
      have hkeys := h.lits hl
      rcases find_spec kk k n ms hkeys with ⟨_, h1⟩ | ⟨j, m', _, _, _, h4, _⟩
      · refine ⟨h1 0, fun e he => ?_, ?_, ⟨k, fun m hm => ?_⟩, fun k2 n2 => ?_⟩
        · rcases List.mem_append.1 he with he | he
          · exact h.lit e he
          · simp only [List.mem_singleton] at he; subst he; exact ⟨k, n, rfl⟩
        · intro m hm
          rcases List.mem_append.1 hm with hm | hm
          · obtain ⟨e, he1, he2⟩ := h.keys m hm; exact ⟨e, by simp [he1], he2⟩
          · simp only [List.mem_singleton] at hm; subst hm
            exact ⟨(.int k (.lit n), v, b), by simp, ⟨rfl, hkn⟩⟩
        · rcases List.mem_append.1 hm with hm | hm
          · exact hkeys m hm
          · simp only [List.mem_singleton] at hm; subst hm; exact ⟨n, rfl⟩
        · rw [assocC_append, assocM_append]
          have h2 := h.ent k2 n2
          cases hc : assocC k2 n2 es with
          | some c =>
            rw [hc] at h2
            cases hm : assocM k2 n2 ms with
            | some x => rw [hm] at h2; exact h2
            | none => rw [hm] at h2; exact h2.elim
          | none =>
            rw [hc] at h2
            cases hm : assocM k2 n2 ms with
            | some x => rw [hm] at h2; exact h2.elim
            | none =>
              simp only [assocC, assocM]
              split
              · exact hz
              · trivial
      · rw [h4] at hx; cases hx

theorem MpOk.nil : MpOk env ρ [] [] := ⟨by simp, by simp, ⟨.u8, by simp⟩, fun _ _ => trivial⟩

theorem assocC_mem {k : IntKind} {n : Int} {v : C} : ∀ {es : List (C × C × Nat)}, assocC k n es = some v → ∃ e ∈ es, e.2.1 = v := by
  intro es
  induction es with
  | nil => intro h; cases h
  | cons e es ih =>
    intro h
    simp only [assocC] at h
    split at h
    · split at h
      · simp only [Option.some.injEq] at h; exact ⟨e, by simp, h⟩
      · obtain ⟨e', h1, h2⟩ := ih h; exact ⟨e', by simp [h1], h2⟩
    · obtain ⟨e', h1, h2⟩ := ih h; exact ⟨e', by simp [h1], h2⟩

theorem assocC_map {f : C → C} (hl : ∀ k n, f (.int k (.lit n)) = .int k (.lit n)) {k : IntKind} {n : Int} : ∀ {es : List (C × C × Nat)}, (∀ e ∈ es, ∃ k n, e.1 = C.int k (.lit n)) →
    assocC k n (es.map fun e => (f e.1, f e.2.1, e.2.2)) = (assocC k n es).map f := by
  intro es
  induction es with
  | nil => intro _; rfl
  | cons e es ih =>
    intro h
    obtain ⟨k', n', he⟩ := h e (by simp)
    simp only [List.map_cons, assocC, he, hl]
    split
    · rfl
    · exact ih (fun e he => h e (by simp [he]))

/-- The same under other names, entry by entry. -/
theorem MpOk.map {es : List (C × C × Nat)} {ms : List MapEntry} (h : MpOk env ρ es ms) {env' : Env} {ρ' : List Nat} {f : C → C} (hl : ∀ k n, f (.int k (.lit n)) = .int k (.lit n))
    (hk : ∀ e ∈ es, ∀ x, e.1.r env ρ [x] → (f e.1).r env' ρ' [x]) (hv : ∀ e ∈ es, ∀ x, e.2.1.r env ρ [x] → (f e.2.1).r env' ρ' [x]) : MpOk env' ρ' (es.map fun e => (f e.1, f e.2.1, e.2.2)) ms := by
  refine ⟨fun e he => ?_, fun m hm => ?_, h.kind, fun k n => ?_⟩
  · obtain ⟨e0, h0, rfl⟩ := List.mem_map.1 he
    obtain ⟨k, n, hkn⟩ := h.lit e0 h0
    exact ⟨k, n, by show f e0.1 = _; rw [hkn, hl]⟩
  · obtain ⟨e, he, hr⟩ := h.keys m hm
    exact ⟨_, List.mem_map.2 ⟨e, he, rfl⟩, hk e he _ hr⟩
  · rw [assocC_map hl h.lit]
    have := h.ent k n
    cases hc : assocC k n es with
    | none =>
      rw [hc] at this
      cases hm : assocM k n ms with
      | none => trivial
      | some x => rw [hm] at this; exact this.elim
    | some c =>
      rw [hc] at this
      obtain ⟨e, he, rfl⟩ := assocC_mem hc
      cases hm : assocM k n ms with
      | none => rw [hm] at this; exact this.elim
      | some x => rw [hm] at this; exact hv e he _ this

theorem MpOk.mono' {es : List (C × C × Nat)} {ms : List MapEntry} (h : MpOk env ρ es ms) {ρ' : List Nat} (hp : ∀ c x, C.r env ρ c [x] → C.r env ρ' c [x]) : MpOk env ρ' es ms := by
  have := h.map (env' := env) (ρ' := ρ') (f := fun c => c) (fun _ _ => rfl) (fun e _ x => hp e.1 x) (fun e _ x => hp e.2.1 x)
  simpa using this

end

section
variable {env : Env} {w0 : World} {B : Nat} {ρ : List Nat} {s : St} {a : Act} {w : World}
theorem checkKey_int {P : Program} {kt : TypeId} {kk k : IntKind} (hk : P.underlying kt = some (.int kk)) (b : Bool) (n : Nat) (x : Int) (w : World) : (Instr.checkKey b (n + 1) kt (.int k x)).run P w = .ok () w := by
  simp [Instr.checkKey, run_underlying hk]

theorem evLookup_ok {K : Ctx} (h : Sim env w0 B ρ s a w) {t : TypeId} {m ix v : C} {ok : Bool} {n : E} {x y : Value} (hv : evLookup K.P s.H t m ix ok = some (v, n)) (hn : n.tt env = true)
    (hx : m.r env ρ [x]) (hy : ix.r env ρ [y]) : ∃ z, v.r env ρ [z] ∧ (Instr.lookup t x y ok).run K.P w = .ok z w := by
  have ht : C.r env ρ (.bool (.lit 1)) [.bool true] := by simp [C.r, tt_lit, intBeq_eq]
  have hf : C.r env ρ (.bool (.lit 0)) [.bool false] := by simp [C.r, tt_lit, intBeq_eq]
  unfold evLookup at hv
  split at hv
  · rename_i kt et b k e hu
    split at hv
    · rename_i kk es clock hk hb
      rw [getL_eq] at hb
      obtain ⟨g, hg, rfl⟩ := map_r hx
      have := int_r hy; subst y
      obtain ⟨ms, clk, hms, hmp⟩ := h.heap.blk b g _ hg hb
      have hck : ∀ b, (Instr.checkKey b 10000 kt (.int k (e.den env))).run K.P w = .ok () w := fun b => checkKey_int hk b 9999 _ w
      split at hv
      · rename_i v' nd hfc
        simp only [Option.some.injEq, Prod.mk.injEq] at hv; obtain ⟨rfl, rfl⟩ := hv
        obtain ⟨q, hq, j, z, rfl, hz⟩ := findC_ok' k e kk 0 hfc hn hmp
        have hfk : (Instr.findKey kt (.int k (e.den env)) ms).run K.P w = .ok (some (j, z)) w := by
          simp [Instr.findKey, run_underlying hk, hq]
        cases ok
        · refine ⟨z, hz, ?_⟩
          simp [Instr.lookup, run_underlying hu, getObj, Sem.run, hms, hck, hfk]
        · refine ⟨.tuple #[z, .bool true], ⟨[z, .bool true], toC_r.2 (.cons hz (.cons ht .nil)), rfl⟩, ?_⟩
          simp [Instr.lookup, run_underlying hu, getObj, Sem.run, hms, hck, hfk]
      · rename_i nd hfc
        split at hv
        · rename_i inf hi
          split at hv
          · rename_i zr hzr
            simp only [Option.some.injEq, Prod.mk.injEq] at hv; obtain ⟨rfl, rfl⟩ := hv
            obtain ⟨q, hq, rfl⟩ := findC_ok' k e kk 0 hfc hn hmp
            have hzv : (zeroValue et).run K.P w = .ok zr w := by simp [zeroValue, run_info hi, hzr]
            have hfk : (Instr.findKey kt (.int k (e.den env)) ms).run K.P w = .ok none w := by
              simp [Instr.findKey, run_underlying hk, hq]
            cases ok
            · refine ⟨zr, ofV_r .., ?_⟩
              simp [Instr.lookup, run_underlying hu, getObj, Sem.run, hms, hck, hfk, hzv]
            · refine ⟨.tuple #[zr, .bool false], ⟨[zr, .bool false], toC_r.2 (.cons (ofV_r ..) (.cons hf .nil)), rfl⟩, ?_⟩
              simp [Instr.lookup, run_underlying hu, getObj, Sem.run, hms, hck, hfk, hzv]
          · cases hv
        · cases hv
      · cases hv
    · cases hv
  · cases hv

theorem evOpR_ld {K : Ctx} {s : St} {op : Op} (h : isLd op = true) : evOpR K s op = evOpR0 K s op := by
  unfold evOpR
  have hn : nrmOp op = false := by cases op <;> first | rfl | simp [isLd] at h
  cases evOpR0 K s op with
  | none => rfl
  | some r => simp [hn]

/-- All operations that write no memory. -/
theorem evOpR_ok {K : Ctx} (hE : EnvOk env K w0 B) (h : Sim env w0 B ρ s a w) {o : Oper} {v : C} {n : E} (hv : evOpR K s o.op = some (v, n)) (hn : n.tt env = true) :
    ∃ x, v.r env ρ [x] ∧ (execOp a.eval o).run K.P w = .ok (.value x) w := by
  by_cases hl : isLd o.op = true
  · cases ho : o.op <;> simp [isLd, ho] at hl
    · rename_i t p
      rw [ho] at hv
      simp only [evOpR_ld (op := .load t p) rfl, evOpR0] at hv
      cases hld : evLoad K s.H t (evO s.ts p) with
      | none => simp [hld] at hv
      | some u =>
        simp only [hld, Option.map_some, Option.some.injEq, Prod.mk.injEq] at hv; obtain ⟨rfl, rfl⟩ := hv
        obtain ⟨z, hz, hr⟩ := evLoad_ok hE h hld (evO_r h.ts p)
        exact ⟨z, hz, by simp [execOp, ho, hr]⟩
    · rename_i t m ix ok
      rw [ho] at hv
      simp only [evOpR_ld (op := .lookup t m ix ok) rfl, evOpR0] at hv
      obtain ⟨z, hz, hr⟩ := evLookup_ok h hv hn (evO_r h.ts m) (evO_r h.ts ix)
      exact ⟨z, hz, by simp [execOp, ho, hr]⟩
  · obtain ⟨x, hx, hr⟩ := evOpR_pure hE h.ts (by simpa using hl) hv hn
    exact ⟨x, hx, hr w⟩

end
end Go.Sx
