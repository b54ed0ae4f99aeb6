/-
  The symbolic executor: the operations that make or write memory. No condition.
-/
import Derived.Test.YtibfaifjnifgjaaSx8
namespace Go.Sx
open Go.RowKit

section
variable {env : Env} {w0 : World} {B : Nat} {ρ : List Nat} {s : St} {a : Act} {w : World}

theorem HeapOk.lt {H : List Blk} (h : HeapOk env B ρ H w) {i g : Nat} (hi : ρ[i]? = some g) : g < w.heap.size := by
  have hlt : i < H.length := by rw [← h.len]; exact (List.getElem?_eq_some_iff.1 hi).1
  have := h.blk i g H[i] hi (List.getElem?_eq_getElem hlt)
  cases hb : H[i] with
  | cells cs ty => rw [hb] at this; obtain ⟨xs, hx, _⟩ := this; exact (Array.getElem?_eq_some_iff.1 hx).1
  | mp es c => rw [hb] at this; obtain ⟨xs, _, hx, _⟩ := this; exact (Array.getElem?_eq_some_iff.1 hx).1

theorem BlkOk.mono {ρ' : List Nat} (hp : ∀ (i g : Nat), ρ[i]? = some g → ρ'[i]? = some g) {w' : World} {g : Nat} (hg : w'.heap[g]? = w.heap[g]?) {b : Blk} (h : BlkOk env ρ w g b) : BlkOk env ρ' w' g b := by
  cases b with
  | cells cs ty => obtain ⟨xs, hx, hr⟩ := h; exact ⟨xs, by rw [hg]; exact hx, hr.mono hp⟩
  | mp es c =>
    obtain ⟨ms, c, hx, hr⟩ := h
    exact ⟨ms, c, by rw [hg]; exact hx, hr.mono' fun _ _ => r_mono hp⟩

theorem pre_of (ρ : List Nat) (n : Nat) : ∀ (i g : Nat), ρ[i]? = some g → (ρ ++ [n])[i]? = some g := fun i g h => by
  rw [List.getElem?_append_left (List.getElem?_eq_some_iff.1 h).1]; exact h

/-- A new block. -/
theorem Sim.new (h : Sim env w0 B ρ s a w) (o : Obj) (b : Blk) (hb : ∀ w' : World, w'.heap[w.heap.size]? = some o → BlkOk env (ρ ++ [w.heap.size]) w' w.heap.size b) :
    Sim env w0 B (ρ ++ [w.heap.size]) ⟨s.ts, s.H ++ [b]⟩ a (w.alloc o) := by
  have hnew : (w.alloc o).heap[w.heap.size]? = some o := heap_alloc_new w o
  refine ⟨h.ts.mono (pre_of _ _), h.defers, ⟨by simp [h.heap.len], ?_, ?_, ?_, ?_⟩, h.below.alloc (by have := h.below.size; have := h.size; omega) o, h.size⟩
  · intro i g hi
    rw [List.getElem?_append] at hi
    split at hi
    · exact h.heap.lo i g hi
    · rw [List.getElem?_singleton] at hi
      split at hi
      · simp only [Option.some.injEq] at hi; subst hi; have := h.below.size; have := h.size; omega
      · cases hi
  · intro i j g hi hj
    rw [List.getElem?_append] at hi hj
    have hs : ∀ k, (if k - ρ.length = 0 then some w.heap.size else none) = some g → g = w.heap.size ∧ k ≤ ρ.length := fun k hk => by
      split at hk
      · simp only [Option.some.injEq] at hk; exact ⟨hk.symm, by omega⟩
      · cases hk
    rw [List.getElem?_singleton] at hi hj
    split at hi
    · split at hj
      · exact h.heap.inj i j g hi hj
      · obtain ⟨e, _⟩ := hs j hj; have := h.heap.lt hi; omega
    · split at hj
      · obtain ⟨e, _⟩ := hs i hi; have := h.heap.lt hj; omega
      · have h1 := (hs i hi).2; have h2 := (hs j hj).2; omega
  · intro i g b' hi hb'
    rw [List.getElem?_append] at hi hb'
    rw [h.heap.len] at hi
    split at hi
    · rename_i hlt
      rw [if_pos hlt] at hb'
      exact (h.heap.blk i g b' hi hb').mono (pre_of _ _) (Below.heap_alloc w o g (h.heap.lt hi))
    · rename_i hlt
      rw [if_neg hlt] at hb'
      rw [List.getElem?_singleton] at hi hb'
      split at hi
      · rename_i h0
        rw [if_pos h0] at hb'
        simp only [Option.some.injEq] at hi hb'; subst hi hb'
        exact hb _ hnew
      · cases hi
  · intro g o' ho
    obtain ⟨h1, h2⟩ := h.heap.fz g o' ho
    have hlt := (Array.getElem?_eq_some_iff.1 h1).1
    refine ⟨by rw [Below.heap_alloc w o g hlt]; exact h1, fun i hi => ?_⟩
    rw [List.getElem?_append] at hi
    split at hi
    · exact h2 i hi
    · rw [List.getElem?_singleton] at hi
      split at hi
      · simp only [Option.some.injEq] at hi; omega
      · cases hi

theorem len_r (h : Sim env w0 B ρ s a w) : (ρ ++ [w.heap.size])[s.H.length]? = some w.heap.size := by
  rw [← h.heap.len]; simp

theorem isCell_one {c : C} {x : Value} (hc : c.isCell = true) (hx : c.r env ρ [x]) : x.oneCell' = true := by
  cases c with
  | agg l => simp [C.isCell] at hc
  | tup l => simp [C.isCell] at hc
  | bad => simp [C.isCell] at hc
  | cons a b => simp [C.isCell] at hc
  | nil => simp [C.isCell] at hc
  | ptr b o => obtain ⟨g, hg, rfl⟩ := ptr_r hx; rfl
  | optr i e s o => obtain ⟨g, hg, _, _, rfl⟩ := optr_r hx; rfl
  | sl b o n k => obtain ⟨g, hg, rfl⟩ := sl_r hx; rfl
  | map b => obtain ⟨g, hg, rfl⟩ := map_r hx; rfl
  | fn f a b => obtain ⟨as, bs, _, _, rfl⟩ := fn_r hx; rfl
  | int k e => have := int_r hx; subst this; rfl
  | iface t v => obtain ⟨y, _, rfl⟩ := iface_r hx; rfl
  | _ => simp only [C.r, List.cons.injEq, and_true] at hx; subst hx; rfl

theorem storeVs_eq : ∀ (us xs : List Value) (o : Nat), o + us.length ≤ xs.length → storeVs xs o us = xs.take o ++ us ++ xs.drop (o + us.length) := by
  intro us
  induction us with
  | nil => intro xs o _; simp [storeVs]
  | cons u us ih =>
    intro xs o hl
    simp only [List.length_cons] at hl
    simp only [storeVs]
    rw [ih _ _ (by simp; omega)]
    have h1 : (xs.set o u).take (o + 1) = xs.take o ++ [u] := by
      rw [List.take_succ_eq_append_getElem (by simp; omega)]
      have h0 : (xs.take o).set o u = xs.take o := List.set_eq_of_length_le (by simp; omega)
      simp [List.take_set, h0]
    have h2 : (xs.set o u).drop (o + 1 + us.length) = xs.drop (o + (us.length + 1)) := by
      rw [List.drop_set_of_lt (by omega)]; congr 1; omega
    rw [h1, h2]
    simp

theorem storeVs_length : ∀ (us xs : List Value) (o : Nat), (storeVs xs o us).length = xs.length := by
  intro us
  induction us with
  | nil => intro xs o; rfl
  | cons u us ih => intro xs o; simp [storeVs, ih]

/-- One block is another now. -/
theorem Sim.upd (h : Sim env w0 B ρ s a w) {b g : Nat} {nb : Blk} {w' : World} (hg : ρ[b]? = some g) (hbelow : Below B w0 w') (hsame : ∀ k, k ≠ g → w'.heap[k]? = w.heap[k]?) (hnb : BlkOk env ρ w' g nb) :
    Sim env w0 B ρ ⟨s.ts, setL s.H b nb⟩ a w' := by
  refine ⟨h.ts, h.defers, ⟨by simp [setL_eq, h.heap.len], h.heap.lo, h.heap.inj, ?_, fun g' o ho => ?_⟩, hbelow, h.size⟩
  rotate_left
  · obtain ⟨h1, h2⟩ := h.heap.fz g' o ho
    exact ⟨by rw [hsame g' (fun e => h2 b (by rw [e]; exact hg))]; exact h1, h2⟩
  intro i g' b' hi hb'
  rw [setL_eq, List.getElem?_set] at hb'
  split at hb'
  · rename_i hbi; subst hbi
    rw [hg] at hi; simp only [Option.some.injEq] at hi; subst hi
    split at hb'
    · simp only [Option.some.injEq] at hb'; subst hb'; exact hnb
    · cases hb'
  · rename_i hbi
    have hne : g' ≠ g := fun e => by subst e; exact hbi (h.heap.inj _ _ _ hg hi)
    exact (h.heap.blk i g' b' hi hb').mono (fun _ _ h => h) (hsame g' hne)

theorem evStore_ok {K : Ctx} (h : Sim env w0 B ρ s a w) {t : TypeId} {p cx : C} {H' : List Blk} {x y : Value} (hv : evStore K.P s.H t p cx = some H') (hx : p.r env ρ [x]) (hy : cx.r env ρ [y]) :
    ∃ w', (Instr.storeAt t x y).run K.P w = .ok () w' ∧ Sim env w0 B ρ ⟨s.ts, H'⟩ a w' := by
  unfold evStore at hv
  split at hv
  · rename_i b o vs i hcs hi
    obtain ⟨g, hg, rfl⟩ := ptr_r hx
    obtain ⟨hus, _⟩ := cellsOfC_r hcs hy
    split at hv
    · rename_i cs ty hb
      rw [getL_eq] at hb
      split at hv
      · rename_i hc
        simp only [Bool.and_eq_true, Nat.beq_eq, Nat.ble_eq, lenL_eq] at hc
        obtain ⟨⟨h1, h2⟩, h3⟩ := hc
        simp only [Option.some.injEq] at hv; subst hv
        obtain ⟨xs, hxs, hr⟩ := h.heap.blk b g _ hg hb
        have hl : o + y.cells.toList.length ≤ xs.length := by rw [← hr.1, ← hus.1]; exact h3
        have hone : ∀ u ∈ y.cells.toList, u.oneCell' = true := fun u hu => by
          obtain ⟨k, hk, rfl⟩ := List.getElem_of_mem hu
          have hk' : k < vs.length := by rw [hus.1]; exact hk
          exact isCell_one (env := env) (ρ := ρ) (List.all_eq_true.1 h2 _ (List.getElem_mem hk')) (hus.2 k _ _ (List.getElem?_eq_getElem hk') (List.getElem?_eq_getElem hk))
        have hrun := run_storeCells_at (P := K.P) g o ty y.cells.toList 0 xs.toArray w hxs (by simpa using hl) hone
        have hsz : y.cells.size = i.size := by rw [← h1, hus.1]; simp
        refine ⟨w.setRow g (storeVs xs o y.cells.toList).toArray, ?_, ?_⟩
        · simp only [Instr.storeAt, Instr.sureAddr, storeVar, Sem.run_bind, Sem.run_pure, Result.andThen_ok, run_size hi, hsz, ne_eq, not_true, if_false]
          rw [hrun]
          simp only [Nat.add_zero, storeVs_eq _ _ _ hl]
        · refine h.upd hg (h.below.trans ⟨rfl, rfl, rfl, by simp, fun k hk => setRow_other w g k _ (by have := h.heap.lo b g hg; omega)⟩) (fun k hk => setRow_other w g k _ hk) ⟨_, setRow_heap w g _ _ ty _ hxs, storeC_rels o hr hus⟩
      · cases hv
    · cases hv
  · cases hv

theorem setObj_other (w : World) (g k : Nat) (o : Obj) (h : k ≠ g) : ({ w with heap := w.heap.setIfInBounds g o } : World).heap[k]? = w.heap[k]? := by
  simp only []
  rw [Array.getElem?_setIfInBounds_ne (Ne.symm h)]

theorem setObj_same (w : World) (g : Nat) (o : Obj) (h : g < w.heap.size) : ({ w with heap := w.heap.setIfInBounds g o } : World).heap[g]? = some o := by
  simp only []
  rw [Array.getElem?_setIfInBounds_self_of_lt h]

theorem below_setObj (hb : Below B w0 w) {g : Nat} (hg : B ≤ g) (o : Obj) : Below B w0 { w with heap := w.heap.setIfInBounds g o } :=
  hb.trans ⟨rfl, rfl, rfl, by simp, fun k hk => setObj_other w g k o (by omega)⟩

theorem evPut_ok {K : Ctx} (h : Sim env w0 B ρ s a w) {t : TypeId} {m ix cx : C} {H' : List Blk} {x y z : Value} (hv : evPut K.P s.H t m ix cx = some H') (hx : m.r env ρ [x]) (hy : ix.r env ρ [y]) (hz : cx.r env ρ [z]) :
    ∃ w', (Instr.mapUpdate t x y z).run K.P w = .ok () w' ∧ Sim env w0 B ρ ⟨s.ts, H'⟩ a w' := by
  unfold evPut at hv
  split at hv
  · rename_i kt et hu
    split at hv
    · rename_i b k n
      split at hv
      · rename_i kk es clock hk hb
        rw [getL_eq] at hb
        obtain ⟨g, hg, rfl⟩ := map_r hx
        have hkn : InK k n := int_in hy
        have := int_r hy; subst y
        simp only [den_lit]
        obtain ⟨ms, clk, hms, hmp⟩ := h.heap.blk b g _ hg hb
        have hlt := (Array.getElem?_eq_some_iff.1 hms).1
        have hck : ∀ b, (Instr.checkKey b 10000 kt (.int k n)).run K.P w = .ok () w := fun b => checkKey_int hk b 9999 _ w
        have hB := h.heap.lo b g hg
        split at hv
        · rename_i es' hp
          simp only [Option.some.injEq] at hv; subst hv
          obtain ⟨j, m', h1, h2, h3, h4⟩ := hmp.put kk hkn hz hp 0 0
          have hfk : (Instr.findKey kt (.int k n) ms).run K.P w = .ok (some (j, m'.val)) w := by simp [Instr.findKey, run_underlying hk, h1]
          have hsame : Instr.sameBits 10000 m'.key (.int k n) = true := by rw [h3]; simp [Instr.sameBits]
          refine ⟨{ w with heap := w.heap.setIfInBounds g (.map (ms.set j { m' with key := .int k n, val := z }).toArray clk) }, ?_, ?_⟩
          · obtain ⟨hjl, hje⟩ := List.getElem?_eq_some_iff.1 h2
            have hmod : ms.modify j (fun e => { e with key := .int k n, val := z }) = ms.set j { m' with key := .int k n, val := z } := by
              apply List.ext_getElem?
              intro q
              rw [List.getElem?_modify, List.getElem?_set]
              by_cases hq : j = q
              · subst hq; simp [hjl, hje]
              · simp [hq]
            simp [Instr.mapUpdate, run_underlying hu, getObj, setObj, Sem.run, hms, hck, hfk, h2, Instr.keyThatStays, hsame, hmod]
          · exact h.upd hg (below_setObj h.below hB _) (fun q hq => setObj_other w g q _ hq) ⟨_, _, setObj_same w g _ hlt, h4⟩
        · rename_i hp
          simp only [Option.some.injEq] at hv; subst hv
          obtain ⟨h1, h4⟩ := hmp.put kk hkn hz hp clock clk
          have hfk : (Instr.findKey kt (.int k n) ms).run K.P w = .ok none w := by simp [Instr.findKey, run_underlying hk, h1]
          refine ⟨{ w with heap := w.heap.setIfInBounds g (.map (ms ++ [({ key := .int k n, val := z, born := clk } : MapEntry)]).toArray (clk + 1)) }, ?_, ?_⟩
          · simp [Instr.mapUpdate, run_underlying hu, getObj, setObj, Sem.run, hms, hck, hfk]
          · exact h.upd hg (below_setObj h.below hB _) (fun q hq => setObj_other w g q _ hq) ⟨_, _, setObj_same w g _ hlt, h4⟩
        · cases hv
      · cases hv
    · cases hv
  · cases hv

theorem evBuildSlice_ok {K : Ctx} (h : Sim env w0 B ρ s a w) {t : TypeId} {len : Nat} {parts : List (Nat × C)} {vals : List (Nat × Value)} {v : C} {H' : List Blk} (hv : evBuildSlice K.P s.H t len parts = some (v, H')) (hl : parts.length = vals.length)
    (hp : ∀ (i : Nat) (p : Nat × C) (q : Nat × Value), parts[i]? = some p → vals[i]? = some q → p.1 = q.1 ∧ p.2.r env ρ [q.2]) :
    ∃ z w' ρ', (Instr.buildSlice t len vals.toArray).run K.P w = .ok z w' ∧ (∀ (i g : Nat), ρ[i]? = some g → ρ'[i]? = some g) ∧ v.r env ρ' [z] ∧ Sim env w0 B ρ' ⟨s.ts, H'⟩ a w' := by
  unfold evBuildSlice at hv
  split at hv
  · rename_i e hu
    split at hv
    · rename_i inf hi
      split at hv
      · rename_i zr hzr
        split at hv
        · rename_i hc
          simp only [Bool.and_eq_true, Nat.beq_eq, Nat.ble_eq, Bool.not_eq_true'] at hc
          obtain ⟨⟨⟨h1, h2⟩, h3⟩, h4⟩ := hc
          have h3' : len ≠ 0 := fun e => by subst e; simp at h3
          split at hv
          · rename_i cs hf
            simp only [Option.some.injEq, Prod.mk.injEq] at hv; obtain ⟨rfl, rfl⟩ := hv
            obtain ⟨z0, hz0⟩ : ∃ z0, zr.cells = #[z0] := by
              have : zr.cells.toList.length = 1 := by simpa using h4
              obtain ⟨z0, hz0⟩ := List.length_eq_one_iff.1 this
              exact ⟨z0, by apply Array.ext'; simpa using hz0⟩
            have hzv : (zeroValue e).run K.P w = .ok zr w := by simp [zeroValue, run_info hi, hzr]
            have hrep : Rels env ρ (List.replicate len (C.ofV0 z0)) (List.replicate len z0) := ⟨by simp, fun i c x hc hx => by
              rw [List.getElem?_replicate] at hc hx
              split at hc
              · rename_i hlt; rw [if_pos hlt] at hx; simp only [Option.some.injEq] at hc hx; subst hc hx; exact ofV0_r ..
              · cases hc⟩
            have hf' : fillC (fun j => some (j * 1, 1)) (List.replicate len (C.ofV0 z0)) parts = some cs := by simpa [hz0] using hf
            obtain ⟨xs', hx, hr⟩ := fillC_ok (env := env) (ρ := ρ) _ parts vals _ cs _ hf' hl hp hrep
            have hcells : ((Array.range (len * 1)).map (fun x => zr.cells[x % zr.cells.size]!)) = (List.replicate len z0).toArray := by
              rw [hz0]
              apply Array.ext
              · simp
              · intro i h1 h2; simp [Nat.mod_one]
            refine ⟨.slice (some ⟨w.heap.size, 0, none⟩) len len, w.alloc (.cells xs'.toArray e), ρ ++ [w.heap.size], ?_, pre_of _ _, ⟨_, len_r h, rfl⟩, ?_⟩
            · simp only [Instr.buildSlice, Sem.run_bind, run_underlying hu, Result.andThen_ok, run_size hi, h1]
              rw [if_neg (by omega)]
              simp only [Nat.mul_one, h3', if_false, Sem.run_bind, hzv, Result.andThen_ok, Sem.run_pure]
              rw [show len * 1 = len by omega] at hcells
              simp only [Nat.mul_one] at hx
              rw [hcells, hx]
              rfl
            · exact h.new _ _ (fun w' hw' => ⟨xs', hw', hr.mono (pre_of _ _)⟩)
          · cases hv
        · cases hv
      · cases hv
    · cases hv
  · cases hv

/-- All operations that make or write memory. -/
theorem evOpW_ok {K : Ctx} (h : Sim env w0 B ρ s a w) {o : Oper} {v : C} {H' : List Blk} (hv : evOpW K.P s o.op = some (v, H')) :
    ∃ x w' ρ', ((execOp a.eval o).run K.P w = .ok (.value x) w' ∨ ((execOp a.eval o).run K.P w = .ok .skip w' ∧ x = undef)) ∧ (∀ (i g : Nat), ρ[i]? = some g → ρ'[i]? = some g) ∧ v.r env ρ' [x] ∧ Sim env w0 B ρ' ⟨s.ts, H'⟩ a w' := by
  have hO := fun x => evO_r h.ts x
  have mp : ∀ {f : Option (List Blk)}, (f.map fun H => (C.undef, H)) = some (v, H') → f = some H' ∧ v = C.undef := fun {f} hf => by
    cases f with
    | none => simp at hf
    | some u => simp at hf; exact ⟨by rw [hf.2], hf.1.symm⟩
  unfold evOpW at hv
  split at hv
  · rename_i t ho
    split at hv
    · rename_i i hi
      split at hv
      · rename_i z hz
        simp only [Option.some.injEq, Prod.mk.injEq] at hv; obtain ⟨rfl, rfl⟩ := hv
        refine ⟨.pointer (some ⟨w.heap.size, 0, none⟩), w.alloc (.cells z.cells t), ρ ++ [w.heap.size], .inl ?_, pre_of _ _, ⟨_, len_r h, rfl⟩, ?_⟩
        · simp [execOp, ho, Instr.alloc, zeroValue, run_info hi, hz, newVar, newRow]
        · exact h.new _ _ (fun w' hw' => ⟨z.cells.toList, by simpa using hw', ofV0s_r ..⟩)
      · cases hv
    · cases hv
  · rename_i t x ho
    split at hv
    · rename_i cs hcs
      simp only [Option.some.injEq, Prod.mk.injEq] at hv; obtain ⟨rfl, rfl⟩ := hv
      obtain ⟨hr, _⟩ := cellsOfC_r hcs (hO x)
      refine ⟨.pointer (some ⟨w.heap.size, 0, none⟩), w.alloc (.cells (a.eval x).cells t), ρ ++ [w.heap.size], .inl ?_, pre_of _ _, ⟨_, len_r h, rfl⟩, ?_⟩
      · simp [execOp, ho, Instr.box, newVar, newRow]
      · exact h.new _ _ (fun w' hw' => ⟨(a.eval x).cells.toList, by simpa using hw', hr.mono (pre_of _ _)⟩)
    · cases hv
  · rename_i t p x ho
    obtain ⟨hs, rfl⟩ := mp hv
    obtain ⟨w', hr, hS⟩ := evStore_ok h hs (hO p) (hO x)
    exact ⟨undef, w', ρ, .inr ⟨by simp [execOp, ho, hr], rfl⟩, fun _ _ h => h, undef_r, hS⟩
  · rename_i t ho
    simp only [Option.some.injEq, Prod.mk.injEq] at hv; obtain ⟨rfl, rfl⟩ := hv
    refine ⟨.map (some w.heap.size), w.alloc (.map #[] 0), ρ ++ [w.heap.size], .inl ?_, pre_of _ _, ⟨_, len_r h, rfl⟩, ?_⟩
    · simp [execOp, ho, Instr.makeMap]
    · exact h.new _ _ (fun w' hw' => ⟨[], 0, hw', MpOk.nil⟩)
  · rename_i t m k x ho
    obtain ⟨hs, rfl⟩ := mp hv
    obtain ⟨w', hr, hS⟩ := evPut_ok h hs (hO m) (hO k) (hO x)
    exact ⟨undef, w', ρ, .inr ⟨by simp [execOp, ho, hr], rfl⟩, fun _ _ h => h, undef_r, hS⟩
  · rename_i t m k x ho
    obtain ⟨hs, rfl⟩ := mp hv
    obtain ⟨w', hr, hS⟩ := evPut_ok h hs (hO m) (hO k) (hO x)
    exact ⟨undef, w', ρ, .inr ⟨by simp [execOp, ho, hr], rfl⟩, fun _ _ h => h, undef_r, hS⟩
  · rename_i t n parts ho
    obtain ⟨z, w', ρ', hr, hp, hz, hS⟩ := evBuildSlice_ok (K := K) (vals := (parts.toList.map fun p => (p.1, a.eval p.2))) h hv (by simp) (by
      intro i p q hp hq
      rw [List.getElem?_map] at hp hq
      cases hl : parts.toList[i]? with
      | none => simp [hl] at hp
      | some r => simp only [hl, Option.map_some, Option.some.injEq] at hp hq; subst hp hq; exact ⟨rfl, hO _⟩)
    have he : (parts.map fun (i, x) => (i, a.eval x)) = (parts.toList.map fun p => (p.1, a.eval p.2)).toArray := by
      rw [← List.map_toArray, Array.toArray_toList]
    exact ⟨z, w', ρ', .inl (by simp only [execOp, ho, he]; simp [hr]), hp, hz, hS⟩
  · cases hv

end
end Go.Sx
