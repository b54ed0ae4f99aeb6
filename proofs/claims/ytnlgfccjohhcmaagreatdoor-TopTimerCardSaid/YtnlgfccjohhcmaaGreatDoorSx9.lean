/-
  The symbolic executor: the operations that make or write memory. No condition.
-/
import Derived.Test.YtnlgfccjohhcmaaGreatDoorSx8
namespace Go.Sx
open Go.RowKit

section
variable {env : Env} {w0 : World} {B : Nat} {ρ : List Nat} {s : St} {a : Act} {w : World}

theorem HeapOk.lt {H : List Blk} (h : HeapOk env B ρ H w) {i g : Nat} (hi : ρ[i]? = some g) : g < w.heap.size := by
  have hlt : i < H.length := by rw [← h.len]; exact (List.getElem?_eq_some_iff.1 hi).1
  have := h.blk i g H[i] hi (List.getElem?_eq_getElem hlt)
  cases hb : H[i] with
  | cells cs ty => rw [hb] at this; obtain ⟨xs, tl, hx, _⟩ := this; exact (Array.getElem?_eq_some_iff.1 hx).1
  | mp es c => rw [hb] at this; obtain ⟨xs, _, hx, _⟩ := this; exact (Array.getElem?_eq_some_iff.1 hx).1

/-- What lies apart from the run's own blocks stays, and stays apart. -/
def Apart (B : Nat) (ρ ρ' : List Nat) (w w' : World) : Prop := ∀ g, B ≤ g → g < w.heap.size → (∀ i : Nat, ρ[i]? ≠ some g) → w'.heap[g]? = w.heap[g]? ∧ ∀ i : Nat, ρ'[i]? ≠ some g

theorem Apart.refl (B : Nat) (ρ : List Nat) (w : World) : Apart B ρ ρ w w := fun _ _ _ h => ⟨rfl, h⟩

theorem QueOk.mono {B : Nat} {ρ ρ' : List Nat} {w w' : World} (h : Apart B ρ ρ' w w') {v : Value} (hq : QueOk env B ρ w v) : QueOk env B ρ' w' v := by
  rcases hq with hq | ⟨g, n, c, xs, h1, h2, h3, h5⟩
  · exact .inl hq
  · obtain ⟨h0, h4, h5⟩ := h5
    obtain ⟨k1, k2⟩ := h g h2 (Array.getElem?_eq_some_iff.1 h4).1 h0
    exact .inr ⟨g, n, c, xs, h1, h2, h3, k2, by rw [k1]; exact h4, h5⟩

theorem BlkOk.mono {B : Nat} {ρ' : List Nat} (hp : ∀ (i g : Nat), ρ[i]? = some g → ρ'[i]? = some g) {w' : World} {g : Nat} (hg : w'.heap[g]? = w.heap[g]?) (ha : Apart B ρ ρ' w w') {b : Blk} (h : BlkOk env B ρ w g b) : BlkOk env B ρ' w' g b := by
  cases b with
  | cells cs ty => obtain ⟨xs, tl, hx, hr, hq⟩ := h; exact ⟨xs, tl, by rw [hg]; exact hx, hr.mono hp, fun k v hk hv => (hq k v hk hv).mono ha⟩
  | mp es c =>
    obtain ⟨ms, c, hx, hr⟩ := h
    exact ⟨ms, c, by rw [hg]; exact hx, hr.mono' fun _ _ => r_mono hp⟩

theorem pre_of (ρ : List Nat) (n : Nat) : ∀ (i g : Nat), ρ[i]? = some g → (ρ ++ [n])[i]? = some g := fun i g h => by
  rw [List.getElem?_append_left (List.getElem?_eq_some_iff.1 h).1]; exact h

/-- A new block. -/
theorem Sim.new (h : Sim env w0 B ρ s a w) (o : Obj) (b : Blk) (hb : ∀ w' : World, w'.heap[w.heap.size]? = some o → BlkOk env B (ρ ++ [w.heap.size]) w' w.heap.size b) :
    Sim env w0 B (ρ ++ [w.heap.size]) ⟨s.ts, s.H ++ [b]⟩ a (w.alloc o) := by
  have hnew : (w.alloc o).heap[w.heap.size]? = some o := heap_alloc_new w o
  have hap : Apart B ρ (ρ ++ [w.heap.size]) w (w.alloc o) := fun g _ hlt hno => by
    refine ⟨Below.heap_alloc w o g hlt, fun i hi => ?_⟩
    rw [List.getElem?_append] at hi
    split at hi
    · exact hno i hi
    · rw [List.getElem?_singleton] at hi
      split at hi
      · simp only [Option.some.injEq] at hi; omega
      · cases hi
  refine ⟨h.ts.mono (pre_of _ _), h.defers.mono (pre_of _ _), ⟨by simp [h.heap.len], ?_, ?_, ?_, ?_, h.heap.fm⟩, h.below.alloc (by have := h.below.size; have := h.size; omega) o, h.size⟩
  · intro i g hi
    rw [List.getElem?_append] at hi
    split at hi
    · exact h.heap.lo i g hi
    · rw [List.getElem?_singleton] at hi
      split at hi
      · simp only [Option.some.injEq] at hi; subst hi; have := h.below.size; have := h.size; omega
      · cases hi
  · intro i j g hi hj
    rw [List.getElem?_append] at hi hj
    have hs : ∀ k, (if k - ρ.length = 0 then some w.heap.size else none) = some g → g = w.heap.size ∧ k ≤ ρ.length := fun k hk => by
      split at hk
      · simp only [Option.some.injEq] at hk; exact ⟨hk.symm, by omega⟩
      · cases hk
    rw [List.getElem?_singleton] at hi hj
    split at hi
    · split at hj
      · exact h.heap.inj i j g hi hj
      · obtain ⟨e, _⟩ := hs j hj; have := h.heap.lt hi; omega
    · split at hj
      · obtain ⟨e, _⟩ := hs i hi; have := h.heap.lt hj; omega
      · have h1 := (hs i hi).2; have h2 := (hs j hj).2; omega
  · intro i g b' hi hb'
    rw [List.getElem?_append] at hi hb'
    rw [h.heap.len] at hi
    split at hi
    · rename_i hlt
      rw [if_pos hlt] at hb'
      exact (h.heap.blk i g b' hi hb').mono (pre_of _ _) (Below.heap_alloc w o g (h.heap.lt hi)) hap
    · rename_i hlt
      rw [if_neg hlt] at hb'
      rw [List.getElem?_singleton] at hi hb'
      split at hi
      · rename_i h0
        rw [if_pos h0] at hb'
        simp only [Option.some.injEq] at hi hb'; subst hi hb'
        exact hb _ hnew
      · cases hi
  · intro g o' ho
    obtain ⟨h1, h2⟩ := h.heap.fz g o' ho
    have hlt := (Array.getElem?_eq_some_iff.1 h1).1
    refine ⟨by rw [Below.heap_alloc w o g hlt]; exact h1, fun i hi => ?_⟩
    rw [List.getElem?_append] at hi
    split at hi
    · exact h2 i hi
    · rw [List.getElem?_singleton] at hi
      split at hi
      · simp only [Option.some.injEq] at hi; omega
      · cases hi

theorem len_r (h : Sim env w0 B ρ s a w) : (ρ ++ [w.heap.size])[s.H.length]? = some w.heap.size := by
  rw [← h.heap.len]; simp

theorem isCell_one {c : C} {x : Value} (hc : c.isCell = true) (hx : c.r env ρ [x]) : x.oneCell' = true := by
  cases c with
  | agg l => simp [C.isCell] at hc
  | tup l => simp [C.isCell] at hc
  | bad => simp [C.isCell] at hc
  | cons a b => simp [C.isCell] at hc
  | nil => simp [C.isCell] at hc
  | ptr b o => obtain ⟨g, hg, rfl⟩ := ptr_r hx; rfl
  | optr i e s o => obtain ⟨g, hg, _, _, rfl⟩ := optr_r hx; rfl
  | sl b o n k => obtain ⟨g, _, hg, _, rfl⟩ := sl_r hx; rfl
  | such p => obtain ⟨a, n, c, hx, _⟩ := hx; simp only [List.cons.injEq, and_true] at hx; subst hx; rfl
  | map b => obtain ⟨g, hg, rfl⟩ := map_r hx; rfl
  | fn f a b => obtain ⟨as, bs, _, _, rfl⟩ := fn_r hx; rfl
  | int k e => have := int_r hx; subst this; rfl
  | iface t v => obtain ⟨y, _, rfl⟩ := iface_r hx; rfl
  | _ => simp only [C.r, List.cons.injEq, and_true] at hx; subst hx; rfl

theorem storeVs_eq : ∀ (us xs : List Value) (o : Nat), o + us.length ≤ xs.length → storeVs xs o us = xs.take o ++ us ++ xs.drop (o + us.length) := by
  intro us
  induction us with
  | nil => intro xs o _; simp [storeVs]
  | cons u us ih =>
    intro xs o hl
    simp only [List.length_cons] at hl
    simp only [storeVs]
    rw [ih _ _ (by simp; omega)]
    have h1 : (xs.set o u).take (o + 1) = xs.take o ++ [u] := by
      rw [List.take_succ_eq_append_getElem (by simp; omega)]
      have h0 : (xs.take o).set o u = xs.take o := List.set_eq_of_length_le (by simp; omega)
      simp [List.take_set, h0]
    have h2 : (xs.set o u).drop (o + 1 + us.length) = xs.drop (o + (us.length + 1)) := by
      rw [List.drop_set_of_lt (by omega)]; congr 1; omega
    rw [h1, h2]
    simp

theorem storeVs_length : ∀ (us xs : List Value) (o : Nat), (storeVs xs o us).length = xs.length := by
  intro us
  induction us with
  | nil => intro xs o; rfl
  | cons u us ih => intro xs o; simp [storeVs, ih]

theorem storeC_such : ∀ {vs : List C} {cs : List C} (o : Nat), vs.all C.isCell = true → ∀ {k : Nat}, (storeC cs o vs)[k]? = some (.such 0) → cs[k]? = some (.such 0) ∧ (k < o ∨ o + vs.length ≤ k) := by
  intro vs
  induction vs with
  | nil => intro cs o _ k hk; rw [storeC_nil] at hk; exact ⟨hk, by simp; omega⟩
  | cons v vs ih =>
    intro cs o h k hk
    simp only [List.all_cons, Bool.and_eq_true] at h
    rw [storeC_cons] at hk
    obtain ⟨h1, h2⟩ := ih (o + 1) h.2 hk
    by_cases hko : o = k
    · subst hko
      rw [List.getElem?_set] at h1
      simp only [if_true] at h1
      split at h1
      · simp only [Option.some.injEq] at h1; rw [h1] at h; simp [C.isCell] at h
      · cases h1
    · rw [List.getElem?_set_ne hko] at h1
      exact ⟨h1, by simp only [List.length_cons]; omega⟩

theorem storeVs_other : ∀ (us xs : List Value) (o k : Nat), (k < o ∨ o + us.length ≤ k) → (storeVs xs o us)[k]? = xs[k]? := by
  intro us
  induction us with
  | nil => intro xs o k _; rfl
  | cons u us ih =>
    intro xs o k h
    simp only [List.length_cons] at h
    simp only [storeVs]
    rw [ih _ _ _ (by omega), List.getElem?_set_ne (by omega)]

/-- One block is another now. -/
theorem Sim.upd (h : Sim env w0 B ρ s a w) {b g : Nat} {nb : Blk} {w' : World} (hg : ρ[b]? = some g) (hbelow : Below B w0 w') (hsame : ∀ k, k ≠ g → w'.heap[k]? = w.heap[k]?) (hnb : BlkOk env B ρ w' g nb) :
    Sim env w0 B ρ ⟨s.ts, setL s.H b nb⟩ a w' := by
  have hap : Apart B ρ ρ w w' := fun g' _ _ hno => ⟨hsame g' (fun e => hno b (by rw [e]; exact hg)), hno⟩
  refine ⟨h.ts, h.defers, ⟨by simp [setL_eq, h.heap.len], h.heap.lo, h.heap.inj, ?_, fun g' o ho => ?_, h.heap.fm⟩, hbelow, h.size⟩
  rotate_left
  · obtain ⟨h1, h2⟩ := h.heap.fz g' o ho
    exact ⟨by rw [hsame g' (fun e => h2 b (by rw [e]; exact hg))]; exact h1, h2⟩
  intro i g' b' hi hb'
  rw [setL_eq, List.getElem?_set] at hb'
  split at hb'
  · rename_i hbi; subst hbi
    rw [hg] at hi; simp only [Option.some.injEq] at hi; subst hi
    split at hb'
    · simp only [Option.some.injEq] at hb'; subst hb'; exact hnb
    · cases hb'
  · rename_i hbi
    have hne : g' ≠ g := fun e => by subst e; exact hbi (h.heap.inj _ _ _ hg hi)
    exact (h.heap.blk i g' b' hi hb').mono (fun _ _ h => h) (hsame g' hne) hap

theorem evStore_ok {K : Ctx} (h : Sim env w0 B ρ s a w) {t : TypeId} {p cx : C} {H' : List Blk} {x y : Value} (hv : evStore K.P s.H t p cx = some H') (hx : p.r env ρ [x]) (hy : cx.r env ρ [y]) :
    ∃ w', (Instr.storeAt t x y).run K.P w = .ok () w' ∧ Sim env w0 B ρ ⟨s.ts, H'⟩ a w' := by
  unfold evStore at hv
  split at hv
  · rename_i b o vs i hcs hi
    obtain ⟨g, hg, rfl⟩ := ptr_r hx
    obtain ⟨hus, _⟩ := cellsOfC_r hcs hy
    split at hv
    · rename_i cs ty hb
      rw [getL_eq] at hb
      split at hv
      · rename_i hc
        simp only [Bool.and_eq_true, Nat.beq_eq, Nat.ble_eq, lenL_eq] at hc
        obtain ⟨⟨h1, h2⟩, h3⟩ := hc
        simp only [Option.some.injEq] at hv; subst hv
        obtain ⟨xs, tl, hxs, hr, hq⟩ := h.heap.blk b g _ hg hb
        have hl : o + y.cells.toList.length ≤ xs.length := by rw [← hr.1, ← hus.1]; exact h3
        have hone : ∀ u ∈ y.cells.toList, u.oneCell' = true := fun u hu => by
          obtain ⟨k, hk, rfl⟩ := List.getElem_of_mem hu
          have hk' : k < vs.length := by rw [hus.1]; exact hk
          exact isCell_one (env := env) (ρ := ρ) (List.all_eq_true.1 h2 _ (List.getElem_mem hk')) (hus.2 k _ _ (List.getElem?_eq_getElem hk') (List.getElem?_eq_getElem hk))
        have hrun := run_storeCells_at (P := K.P) g o ty y.cells.toList 0 (xs ++ tl).toArray w hxs (by simp at hl ⊢; omega) hone
        have hsz : y.cells.size = i.size := by rw [← h1, hus.1]; simp
        have hap : ∀ r : Array Value, Apart B ρ ρ w (w.setRow g r) := fun r g' _ _ hno => ⟨setRow_other w g g' _ (fun e => hno b (by rw [e]; exact hg)), hno⟩
        refine ⟨w.setRow g (storeVs xs o y.cells.toList ++ tl).toArray, ?_, ?_⟩
        · simp only [Instr.storeAt, Instr.sureAddr, storeVar, Sem.run_bind, Sem.run_pure, Result.andThen_ok, run_size hi, hsz, ne_eq, not_true, if_false]
          rw [hrun]
          simp only [Nat.add_zero, storeVs_eq _ _ _ hl]
          congr 3
          have h1 : (xs ++ tl).take o = xs.take o := List.take_append_of_le_length (by omega)
          have h2 : (xs ++ tl).drop (o + y.cells.toList.length) = xs.drop (o + y.cells.toList.length) ++ tl := List.drop_append_of_le_length hl
          show List.take o (xs ++ tl) ++ y.cells.toList ++ List.drop (o + y.cells.toList.length) (xs ++ tl) = _
          rw [h1, h2]; simp only [List.append_assoc]
        · refine h.upd hg (h.below.trans ⟨rfl, rfl, rfl, by simp, fun k hk => setRow_other w g k _ (by have := h.heap.lo b g hg; omega)⟩) (fun k hk => setRow_other w g k _ hk) ⟨_, tl, setRow_heap w g _ _ ty _ hxs, storeC_rels o hr hus, fun k v hk hv => ?_⟩
          obtain ⟨hk', hlo⟩ := storeC_such o h2 hk
          exact (hq k v hk' (by rw [← hv]; exact (storeVs_other _ _ _ _ (by rw [← hus.1]; exact hlo)).symm)).mono (hap _)
      · cases hv
    · cases hv
  · cases hv

theorem setObj_other (w : World) (g k : Nat) (o : Obj) (h : k ≠ g) : ({ w with heap := w.heap.setIfInBounds g o } : World).heap[k]? = w.heap[k]? := by
  simp only []
  rw [Array.getElem?_setIfInBounds_ne (Ne.symm h)]

theorem setObj_same (w : World) (g : Nat) (o : Obj) (h : g < w.heap.size) : ({ w with heap := w.heap.setIfInBounds g o } : World).heap[g]? = some o := by
  simp only []
  rw [Array.getElem?_setIfInBounds_self_of_lt h]

theorem below_setObj (hb : Below B w0 w) {g : Nat} (hg : B ≤ g) (o : Obj) : Below B w0 { w with heap := w.heap.setIfInBounds g o } :=
  hb.trans ⟨rfl, rfl, rfl, by simp, fun k hk => setObj_other w g k o (by omega)⟩

theorem evPut_ok {K : Ctx} (h : Sim env w0 B ρ s a w) {t : TypeId} {m ix cx : C} {H' : List Blk} {x y z : Value} (hv : evPut K.P s.H t m ix cx = some H') (hx : m.r env ρ [x]) (hy : ix.r env ρ [y]) (hz : cx.r env ρ [z]) :
    ∃ w', (Instr.mapUpdate t x y z).run K.P w = .ok () w' ∧ Sim env w0 B ρ ⟨s.ts, H'⟩ a w' := by
  unfold evPut at hv
  split at hv
  · rename_i kt et hu
    split at hv
    · rename_i b k n
      split at hv
      · rename_i kk es clock hk hb
        rw [getL_eq] at hb
        obtain ⟨g, hg, rfl⟩ := map_r hx
        have hkn : InK k n := int_in hy
        have := int_r hy; subst y
        simp only [den_lit]
        obtain ⟨ms, clk, hms, hmp⟩ := h.heap.blk b g _ hg hb
        have hlt := (Array.getElem?_eq_some_iff.1 hms).1
        have hck : ∀ b, (Instr.checkKey b 10000 kt (.int k n)).run K.P w = .ok () w := fun b => checkKey_int hk b 9999 _ w
        have hB := h.heap.lo b g hg
        split at hv
        · rename_i es' hp
          simp only [Option.some.injEq] at hv; subst hv
          obtain ⟨j, m', h1, h2, h3, h4⟩ := hmp.put kk hkn hz hp 0 0
          have hfk : (Instr.findKey kt (.int k n) ms).run K.P w = .ok (some (j, m'.val)) w := by simp [Instr.findKey, run_underlying hk, h1]
          have hsame : Instr.sameBits 10000 m'.key (.int k n) = true := by rw [h3]; simp [Instr.sameBits]
          refine ⟨{ w with heap := w.heap.setIfInBounds g (.map (ms.set j { m' with key := .int k n, val := z }).toArray clk) }, ?_, ?_⟩
          · obtain ⟨hjl, hje⟩ := List.getElem?_eq_some_iff.1 h2
            have hmod : ms.modify j (fun e => { e with key := .int k n, val := z }) = ms.set j { m' with key := .int k n, val := z } := by
              apply List.ext_getElem?
              intro q
              rw [List.getElem?_modify, List.getElem?_set]
              by_cases hq : j = q
              · subst hq; simp [hjl, hje]
              · simp [hq]
            simp [Instr.mapUpdate, run_underlying hu, getObj, setObj, Sem.run, hms, hck, hfk, h2, Instr.keyThatStays, hsame, hmod]
          · exact h.upd hg (below_setObj h.below hB _) (fun q hq => setObj_other w g q _ hq) ⟨_, _, setObj_same w g _ hlt, h4⟩
        · rename_i hp
          simp only [Option.some.injEq] at hv; subst hv
          obtain ⟨h1, h4⟩ := hmp.put kk hkn hz hp clock clk
          have hfk : (Instr.findKey kt (.int k n) ms).run K.P w = .ok none w := by simp [Instr.findKey, run_underlying hk, h1]
          refine ⟨{ w with heap := w.heap.setIfInBounds g (.map (ms ++ [({ key := .int k n, val := z, born := clk } : MapEntry)]).toArray (clk + 1)) }, ?_, ?_⟩
          · simp [Instr.mapUpdate, run_underlying hu, getObj, setObj, Sem.run, hms, hck, hfk]
          · exact h.upd hg (below_setObj h.below hB _) (fun q hq => setObj_other w g q _ hq) ⟨_, _, setObj_same w g _ hlt, h4⟩
        · cases hv
      · cases hv
    · cases hv
  · cases hv

theorem noQ_such {cs : List C} (h : cs.all C.noQ = true) {k : Nat} (hk : cs[k]? = some (.such 0)) : False := by
  have := List.all_eq_true.1 h _ (List.mem_of_getElem? hk)
  cases this

theorem ofV0_noQ (v : Value) : C.noQ (.ofV0 v) = true := by
  unfold C.ofV0
  split <;> first | rfl | (split <;> rfl)

theorem ofV0s_noQ (vs : List Value) : (vs.map C.ofV0).all C.noQ = true := by
  rw [List.all_eq_true]
  intro c hc
  obtain ⟨v, _, rfl⟩ := List.mem_map.1 hc
  exact ofV0_noQ v

theorem repC_noQ {cs : List C} (h : cs.all C.noQ = true) : ∀ n, (repC cs n).all C.noQ = true := by
  intro n
  induction n with
  | zero => rfl
  | succ n ih => simp only [repC, List.all_append, h, ih]; rfl

def repV (xs : List Value) : Nat → List Value
  | 0 => []
  | n + 1 => xs ++ repV xs n

theorem repC_rels {cs : List C} {xs : List Value} (h : Rels env ρ cs xs) : ∀ n, Rels env ρ (repC cs n) (repV xs n) := by
  intro n
  induction n with
  | zero => exact .nil
  | succ n ih =>
    refine ⟨by simp [repC, repV, h.1, ih.1], fun i c x hc hx => ?_⟩
    simp only [repC, repV] at hc hx
    rw [List.getElem?_append] at hc hx
    rw [← h.1] at hx
    split at hc
    · rename_i hi; rw [if_pos hi] at hx; exact h.2 i c x hc hx
    · rename_i hi; rw [if_neg hi] at hx; exact ih.2 _ c x hc hx

theorem repV_length (xs : List Value) : ∀ n, (repV xs n).length = n * xs.length := by
  intro n
  induction n with
  | zero => simp [repV]
  | succ n ih => simp only [repV, List.length_append, ih, Nat.add_mul, Nat.one_mul]; omega

theorem repV_get (xs : List Value) : ∀ (n i : Nat), i < n * xs.length → (repV xs n)[i]? = xs[i % xs.length]? := by
  intro n
  induction n with
  | zero => intro i hi; omega
  | succ n ih =>
    intro i hi
    simp only [repV]
    rw [List.getElem?_append]
    split
    · rename_i h; rw [Nat.mod_eq_of_lt h]
    · rename_i h
      rw [Nat.add_mul, Nat.one_mul] at hi
      rw [ih _ (by omega)]
      congr 1
      rw [Nat.mod_eq_sub_mod (a := i) (by omega)]

theorem zero_cells (zs : Array Value) (n : Nat) (hz : 0 < zs.size) : ((Array.range (n * zs.size)).map (fun x => zs[x % zs.size]!)) = (repV zs.toList n).toArray := by
  apply Array.ext_getElem?
  intro i
  rw [Array.getElem?_map, Array.getElem?_range, List.getElem?_toArray]
  by_cases hi : i < n * zs.size
  · have hm : i % zs.size < zs.size := Nat.mod_lt _ hz
    rw [if_pos hi, repV_get _ _ _ (by simpa using hi)]
    simp [hm]
  · rw [if_neg hi, List.getElem?_eq_none (by rw [repV_length]; simpa using hi)]; rfl

theorem evBuildSlice_ok {K : Ctx} (h : Sim env w0 B ρ s a w) {t : TypeId} {len : Nat} {parts : List (Nat × C)} {vals : List (Nat × Value)} {v : C} {H' : List Blk} (hv : evBuildSlice K.P s.H t len parts = some (v, H')) (hl : parts.length = vals.length)
    (hp : ∀ (i : Nat) (p : Nat × C) (q : Nat × Value), parts[i]? = some p → vals[i]? = some q → p.1 = q.1 ∧ p.2.r env ρ [q.2]) :
    ∃ z w' ρ', (Instr.buildSlice t len vals.toArray).run K.P w = .ok z w' ∧ (∀ (i g : Nat), ρ[i]? = some g → ρ'[i]? = some g) ∧ v.r env ρ' [z] ∧ Sim env w0 B ρ' ⟨s.ts, H'⟩ a w' := by
  unfold evBuildSlice at hv
  split at hv
  · rename_i e hu
    split at hv
    · rename_i inf hi
      split at hv
      · rename_i zr hzr
        split at hv
        · rename_i hc
          simp only [Bool.and_eq_true, Nat.beq_eq, Nat.ble_eq, Bool.not_eq_true'] at hc
          obtain ⟨⟨⟨⟨h2, h3⟩, h1⟩, h5⟩, h4⟩ := hc
          have h3' : len ≠ 0 := fun e => by subst e; simp at h3
          have h1' : inf.size ≠ 0 := fun e => by rw [e] at h1; simp at h1
          split at hv
          · rename_i cs hf
            split at hv
            · rename_i hnq
              simp only [Option.some.injEq, Prod.mk.injEq] at hv; obtain ⟨rfl, rfl⟩ := hv
              have hzv : (zeroValue e).run K.P w = .ok zr w := by simp [zeroValue, run_info hi, hzr]
              have hrep : Rels env ρ (repC (zr.cells.toList.map .ofV0) len) (repV zr.cells.toList len) := repC_rels (ofV0s_r ..) len
              obtain ⟨xs', hx, hr⟩ := fillC_ok (env := env) (ρ := ρ) _ parts vals _ cs _ hf hl hp hrep
              have hcells := zero_cells zr.cells len (by omega)
              refine ⟨.slice (some ⟨w.heap.size, 0, none⟩) len len, w.alloc (.cells xs'.toArray e), ρ ++ [w.heap.size], ?_, pre_of _ _, ⟨_, len, len_r h, fun _ => rfl, rfl⟩, ?_⟩
              · simp only [Instr.buildSlice, Sem.run_bind, run_underlying hu, Result.andThen_ok, run_size hi]
                have hm : 0 < len * inf.size := Nat.mul_pos (by omega) (by omega)
                have hm2 : len * inf.size ≤ 1000 * 1000 := Nat.mul_le_mul h2 h5
                rw [if_neg (by omega), if_neg (by omega)]
                simp only [Sem.run_bind, hzv, Result.andThen_ok, Sem.run_pure]
                rw [← h4, hcells]
                rw [← h4] at hx
                rw [hx]
                rfl
              · exact h.new _ _ (fun w' hw' => ⟨xs', [], by rw [List.append_nil]; exact hw', hr.mono (pre_of _ _), fun k v hk _ => (noQ_such hnq hk).elim⟩)
            · cases hv
          · cases hv
        · cases hv
      · cases hv
    · cases hv
  · cases hv

theorem evMakeSlice_ok {K : Ctx} (h : Sim env w0 B ρ s a w) {t : TypeId} {cl cc v : C} {H' : List Blk} {x y : Value} (hv : evMakeSlice K.P s.H t cl cc = some (v, H')) (hx : cl.r env ρ [x]) (hy : cc.r env ρ [y]) :
    ∃ z w' ρ', (Instr.makeSlice t x y).run K.P w = .ok z w' ∧ (∀ (i g : Nat), ρ[i]? = some g → ρ'[i]? = some g) ∧ v.r env ρ' [z] ∧ Sim env w0 B ρ' ⟨s.ts, H'⟩ a w' := by
  unfold evMakeSlice at hv
  split at hv
  · rename_i e hu
    split at hv
    · rename_i inf hi
      split at hv
      · rename_i zr hzr
        split at hv
        · rename_i k n k' m
          split at hv
          · rename_i hc
            simp only [Bool.and_eq_true, Nat.beq_eq, Nat.ble_eq, Bool.not_eq_true'] at hc
            obtain ⟨⟨⟨⟨⟨⟨h1, h2⟩, h3⟩, h4⟩, h5⟩, h6⟩, h7⟩ := hc
            subst h1
            have h4' : inf.size ≠ 0 := fun e => by rw [e] at h4; simp at h4
            simp only [Option.some.injEq, Prod.mk.injEq] at hv; obtain ⟨rfl, rfl⟩ := hv
            have := int_r hx; subst x
            have := int_r hy; subst y
            simp only [den_lit]
            have hb : inf.bytes * n ≤ 1000000 * 1000 := Nat.mul_le_mul h7 h2
            have hs : n * inf.size ≤ 1000 * 1000 := Nat.mul_le_mul h2 h5
            have hrun := run_makeSlice (P := K.P) w t e inf zr hu hi hzr k k' (n : Int) (n : Int) (by omega) (by omega) (by simpa using (by omega : n * inf.size ≤ 16777216)) (by
              have : ((inf.bytes * n : Nat) : Int) ≤ ((1000000 * 1000 : Nat) : Int) := by omega
              rw [Int.natCast_mul] at this; omega) (by omega)
            have hmc : madeCells zr.cells (n * inf.size) = (repV zr.cells.toList n).toArray := by rw [← h6]; exact zero_cells zr.cells n (by omega)
            rw [Int.toNat_natCast, hmc] at hrun
            exact ⟨_, _, _, hrun, pre_of _ _, ⟨_, n, len_r h, fun _ => rfl, rfl⟩, h.new _ _ (fun w' hw' => ⟨repV zr.cells.toList n, [], by rw [List.append_nil]; exact hw', repC_rels (ofV0s_r ..) n, fun k v hk _ => (noQ_such (repC_noQ (ofV0s_noQ _) n) hk).elim⟩)⟩
          · cases hv
        · cases hv
      · cases hv
    · cases hv
  · cases hv

theorem Sim.drew (h : Sim env w0 B ρ s a w) : Sim env w0 B ρ s a w.drew :=
  ⟨h.ts, h.defers, ⟨h.heap.len, h.heap.lo, h.heap.inj, fun i g b hi hb => (h.heap.blk i g b hi hb).mono (fun _ _ h => h) rfl (fun _ _ _ k => ⟨rfl, k⟩), h.heap.fz, h.heap.fm⟩, h.below.drew, h.size⟩

theorem evAppend_ok {K : Ctx} (h : Sim env w0 B ρ s a w) {t u ty : TypeId} {cx cy v : C} {H' : List Blk} {x y : Value} (hv : evAppend K.P s.H t u cx cy = some (v, H')) (hx : cx.r env ρ [x]) (hy : cy.r env ρ [y]) :
    ∃ z w' ρ', (Builtin.append_ #[t, u] ty #[x, y]).run K.P w = .ok z w' ∧ (∀ (i g : Nat), ρ[i]? = some g → ρ'[i]? = some g) ∧ v.r env ρ' [z] ∧ Sim env w0 B ρ' ⟨s.ts, H'⟩ a w' := by
  unfold evAppend at hv
  split at hv
  · rename_i e e' hu hu'
    simp only [C.r, List.cons.injEq, and_true] at hx; subst hx
    split at hv
    · rename_i inf hi
      split at hv
      · rename_i zr hzr
        split at hv
        · simp only [Option.some.injEq, Prod.mk.injEq] at hv; obtain ⟨rfl, rfl⟩ := hv
          simp only [C.r, List.cons.injEq, and_true] at hy; subst hy
          exact ⟨.slice none 0 0, w, ρ, by simp [Builtin.append_, run_underlying hu, run_underlying hu', sizeOf, typeInfo, hi, Builtin.lenOf, Builtin.firstCells], fun _ _ h => h, rfl, h⟩
        · rename_i b o n k
          split at hv
          · rename_i cs tb hb
            rw [getL_eq] at hb
            split at hv
            · rename_i hc
              simp only [Bool.and_eq_true, Nat.beq_eq, Nat.ble_eq, Bool.not_eq_true', lenL_eq, takeL_eq, dropL_eq] at hc
              obtain ⟨⟨⟨⟨⟨⟨h1, h2⟩, h3⟩, h4⟩, h5⟩, h6⟩, h7⟩ := hc
              have h2' : n ≠ 0 := fun e => by subst e; simp at h2
              simp only [Option.some.injEq, Prod.mk.injEq, takeL_eq, dropL_eq] at hv; obtain ⟨rfl, rfl⟩ := hv
              obtain ⟨g, kc, hg, _, rfl⟩ := sl_r hy
              obtain ⟨xs, tl, hxs, hr, _⟩ := h.heap.blk b g _ hg hb
              have hlen : ((xs.drop o).take n).length = n := by have := hr.1; simp; omega
              have hcell : ∀ j v, ((xs.drop o).take n)[j]? = some v → w.cell? ((⟨g, o, none⟩ : Addr).add j) = some v := fun j v hj => by
                rw [add_block, cell_at hxs]
                rw [List.getElem?_take] at hj
                split at hj
                · rw [List.getElem?_drop] at hj
                  rw [List.getElem?_append_left (List.getElem?_eq_some_iff.1 hj).1]; exact hj
                · cases hj
              have hb : n * inf.bytes ≤ 1000 * 1000000 := Nat.mul_le_mul h3 h5
              have hn0 : ¬ n = 0 := h2'
              have h63' : ¬ (9223372036854775807 < (n : Int)) := by omega
              have h48' : ¬ (281474976710656 < Builtin.nextslicecap n 0 * inf.bytes) := by rw [nextslicecap_zero (by omega)]; omega
              have hf := run_firstCells_some (P := K.P) inf.size n ⟨g, o, none⟩ n kc ((xs.drop o).take n) (by rw [hlen, h4, Nat.mul_one]) (w := w.drew) (by simpa using hcell)
              refine ⟨.slice (some ⟨w.heap.size, 0, none⟩) n (grownCap w n 0 e), w.drew.alloc (.cells (((xs.drop o).take n).toArray ++ Builtin.zeroCells zr.cells (grownCap w n 0 e - n)) e), ρ ++ [w.heap.size], ?_, pre_of _ _, ⟨_, grownCap w n 0 e, len_r h, fun h0 => absurd rfl h0, rfl⟩, ?_⟩
              · simp [Builtin.append_, run_underlying hu, run_underlying hu', sizeOf, typeInfo, zeroValue, hi, hzr, Builtin.lenOf, hn0, h63', h48', Question.forced, run_firstCells_none, hf, newRow, grownCap]
              · refine h.drew.new _ _ (fun w' hw' => ⟨(xs.drop o).take n, (Builtin.zeroCells zr.cells (grownCap w n 0 e - n)).toList, ?_, (hr.sub o n).mono (pre_of _ _), fun k v hk _ => (noQ_such h7 hk).elim⟩)
                rw [hw']; congr 2; apply Array.ext'; simp
            · cases hv
          · cases hv
        · cases hv
      · cases hv
    · cases hv
  · cases hv

/-- All operations that make or write memory. -/
theorem evOpW_ok {K : Ctx} (h : Sim env w0 B ρ s a w) {o : Oper} {v : C} {H' : List Blk} (hv : evOpW K.P s o.op = some (v, H')) :
    ∃ x w' ρ', ((execOp a.eval o).run K.P w = .ok (.value x) w' ∨ ((execOp a.eval o).run K.P w = .ok .skip w' ∧ x = undef)) ∧ (∀ (i g : Nat), ρ[i]? = some g → ρ'[i]? = some g) ∧ v.r env ρ' [x] ∧ Sim env w0 B ρ' ⟨s.ts, H'⟩ a w' := by
  have hO := fun x => evO_r h.ts x
  have mp : ∀ {f : Option (List Blk)}, (f.map fun H => (C.undef, H)) = some (v, H') → f = some H' ∧ v = C.undef := fun {f} hf => by
    cases f with
    | none => simp at hf
    | some u => simp at hf; exact ⟨by rw [hf.2], hf.1.symm⟩
  unfold evOpW at hv
  split at hv
  · rename_i t ho
    split at hv
    · rename_i i hi
      split at hv
      · rename_i z hz
        simp only [Option.some.injEq, Prod.mk.injEq] at hv; obtain ⟨rfl, rfl⟩ := hv
        refine ⟨.pointer (some ⟨w.heap.size, 0, none⟩), w.alloc (.cells z.cells t), ρ ++ [w.heap.size], .inl ?_, pre_of _ _, ⟨_, len_r h, rfl⟩, ?_⟩
        · simp [execOp, ho, Instr.alloc, zeroValue, run_info hi, hz, newVar, newRow]
        · exact h.new _ _ (fun w' hw' => ⟨z.cells.toList, [], by simpa using hw', ofV0s_r .., fun k v hk _ => (noQ_such (ofV0s_noQ _) hk).elim⟩)
      · cases hv
    · cases hv
  · rename_i t x ho
    split at hv
    · rename_i cs hcs
      split at hv
      case isFalse => cases hv
      rename_i hnq
      simp only [Option.some.injEq, Prod.mk.injEq] at hv; obtain ⟨rfl, rfl⟩ := hv
      obtain ⟨hr, _⟩ := cellsOfC_r hcs (hO x)
      refine ⟨.pointer (some ⟨w.heap.size, 0, none⟩), w.alloc (.cells (a.eval x).cells t), ρ ++ [w.heap.size], .inl ?_, pre_of _ _, ⟨_, len_r h, rfl⟩, ?_⟩
      · simp [execOp, ho, Instr.box, newVar, newRow]
      · exact h.new _ _ (fun w' hw' => ⟨(a.eval x).cells.toList, [], by simpa using hw', hr.mono (pre_of _ _), fun k v hk _ => (noQ_such hnq hk).elim⟩)
    · cases hv
  · rename_i t p x ho
    obtain ⟨hs, rfl⟩ := mp hv
    obtain ⟨w', hr, hS⟩ := evStore_ok h hs (hO p) (hO x)
    exact ⟨undef, w', ρ, .inr ⟨by simp [execOp, ho, hr], rfl⟩, fun _ _ h => h, undef_r, hS⟩
  · rename_i t ho
    simp only [Option.some.injEq, Prod.mk.injEq] at hv; obtain ⟨rfl, rfl⟩ := hv
    refine ⟨.map (some w.heap.size), w.alloc (.map #[] 0), ρ ++ [w.heap.size], .inl ?_, pre_of _ _, ⟨_, len_r h, rfl⟩, ?_⟩
    · simp [execOp, ho, Instr.makeMap]
    · exact h.new _ _ (fun w' hw' => ⟨[], 0, hw', MpOk.nil⟩)
  · rename_i t m k x ho
    obtain ⟨hs, rfl⟩ := mp hv
    obtain ⟨w', hr, hS⟩ := evPut_ok h hs (hO m) (hO k) (hO x)
    exact ⟨undef, w', ρ, .inr ⟨by simp [execOp, ho, hr], rfl⟩, fun _ _ h => h, undef_r, hS⟩
  · rename_i t m k x ho
    obtain ⟨hs, rfl⟩ := mp hv
    obtain ⟨w', hr, hS⟩ := evPut_ok h hs (hO m) (hO k) (hO x)
    exact ⟨undef, w', ρ, .inr ⟨by simp [execOp, ho, hr], rfl⟩, fun _ _ h => h, undef_r, hS⟩
  · rename_i t n parts ho
    obtain ⟨z, w', ρ', hr, hp, hz, hS⟩ := evBuildSlice_ok (K := K) (vals := (parts.toList.map fun p => (p.1, a.eval p.2))) h hv (by simp) (by
      intro i p q hp hq
      rw [List.getElem?_map] at hp hq
      cases hl : parts.toList[i]? with
      | none => simp [hl] at hp
      | some r => simp only [hl, Option.map_some, Option.some.injEq] at hp hq; subst hp hq; exact ⟨rfl, hO _⟩)
    have he : (parts.map fun (i, x) => (i, a.eval x)) = (parts.toList.map fun p => (p.1, a.eval p.2)).toArray := by
      rw [← List.map_toArray, Array.toArray_toList]
    exact ⟨z, w', ρ', .inl (by simp only [execOp, ho, he]; simp [hr]), hp, hz, hS⟩
  · rename_i t l c ho
    obtain ⟨z, w', ρ', hr, hp, hz, hS⟩ := evMakeSlice_ok h hv (hO l) (hO c)
    exact ⟨z, w', ρ', .inl (by simp [execOp, ho, hr]), hp, hz, hS⟩
  · rename_i c ho
    split at hv
    · rename_i hc
      split at hv
      · rename_i x y t u hargs htys
        obtain ⟨z, w', ρ', hr, hp, hz, hS⟩ := evAppend_ok (ty := o.type) h hv (hO x) (hO y)
        have e1 : c.args = #[x, y] := by apply Array.ext'; simpa using hargs
        have e2 : c.argTypes = #[t, u] := by apply Array.ext'; simpa using htys
        refine ⟨z, w', ρ', .inl ?_, hp, hz, hS⟩
        simp only [execOp, ho, resolve, hc, Sem.run_bind, Sem.run_pure, Result.andThen_ok, invoke, builtin, e1, e2, List.map_toArray, List.map_cons, List.map_nil, hr]
      · cases hv
    · cases hv
  · cases hv

end
end Go.Sx
