/-
  The lock's two calls and the idle closure, as summaries. No condition.
-/
import Derived.Test.YtnlgfccjohhcmaaGreatDoorTopSg
namespace Go.Sx
open Go.RowKit Go.Top Go.Proofs

section
variable {env : Env} {B : Nat} {ρ : List Nat} {H : List Blk} {w w0 : World}

theorem setC_ok (h : HeapOk env B ρ H w) (hb : Below B w0 w) {b o g : Nat} (hg : ρ[b]? = some g) {c : C} {H' : List Blk} {v : Value} (hs : setC H b o c = some H') (hv : c.r env ρ [v]) (hq : c = .such 0 → QueOk env B ρ (w.setCell ⟨g, o, none⟩ v) v) :
    HeapOk env B ρ H' (w.setCell ⟨g, o, none⟩ v) ∧ Below B w0 (w.setCell ⟨g, o, none⟩ v) := by
  unfold setC at hs
  split at hs
  · rename_i cs t hbk
    rw [getL_eq] at hbk
    split at hs
    · rename_i hlt
      rw [lenL_eq] at hlt
      have hlt : o < cs.length := by simpa [Nat.blt_eq] using hlt
      simp only [Option.some.injEq] at hs; subst hs
      obtain ⟨xs, tl, h1, h2, h3⟩ := h.blk b g _ hg hbk
      have hlx : o < xs.length := by rw [← h2.1]; exact hlt
      have hsame : ∀ k, k ≠ g → (w.setCell ⟨g, o, none⟩ v).heap[k]? = w.heap[k]? := fun k hk => setCell_other w g o k v hk
      have hap : Apart B ρ ρ w (w.setCell ⟨g, o, none⟩ v) := fun g' _ _ hno => ⟨hsame g' (fun e => hno b (by rw [e]; exact hg)), hno⟩
      refine ⟨h.upd hg hsame ⟨xs.set o v, tl, ?_, ?_, fun k u hk hu => ?_⟩, below_setCell hb (h.lo b g hg) o v⟩
      · rw [setCell_heap h1, List.set_append_left _ _ hlx]
      · rw [setL_eq]; exact rels_set h2 hv
      · rw [setL_eq, List.getElem?_set] at hk
        rw [List.getElem?_set] at hu
        split at hk
        · rename_i he
          rw [if_pos he, if_pos hlx] at hu
          simp only [Option.some.injEq] at hk hu
          subst hu
          exact hq (by first | exact hk | (split at hk <;> simp_all))
        · rename_i he
          rw [if_neg he] at hu
          exact (h3 k u hk hu).mono hap
    · cases hs
  · cases hs

theorem isI32_eq {n : Int} {c : C} (h : isI32 n c = true) : c = .int .i32 (.lit n) := by
  cases c <;> first | cases h | skip
  rename_i k e
  cases e <;> first | cases h | skip
  rename_i m
  have h : (sameKind k .i32 && intBeq m n) = true := h
  simp only [Bool.and_eq_true, sameKind_iff, intBeq_iff] at h
  rw [h.1, h.2]

theorem rels1 {c : C} {xs : List Value} (h : Rels env ρ [c] xs) : ∃ x, xs = [x] ∧ c.r env ρ [x] := by
  obtain ⟨x, ys, rfl, hx, hr⟩ := h.uncons
  have := hr.1
  cases ys with
  | nil => exact ⟨x, rfl, hx⟩
  | cons => simp at this

/-- The lock's word, as it lies in the world. -/
theorem word_ok (h : HeapOk env B ρ H w) {b o g : Nat} (hg : ρ[b]? = some g) {n : Int} (hc : isI32 n (cellC H b o) = true) : w.cell? ⟨g, o, none⟩ = some (.int .i32 n) ∧ w.frozen? ⟨g, o, none⟩ = false := by
  have he := isI32_eq hc
  obtain ⟨cs, t, xs, tl, x, k1, k2, k3, k4, k5, k6, k7⟩ := cellC_ok h hg (by rw [he]; intro hh; cases hh)
  rw [he] at k7
  have := int_r k7
  subst this
  refine ⟨?_, by simp [World.frozen?, k3]⟩
  rw [cell_at k3, List.getElem?_append_left (List.getElem?_eq_some_iff.1 k6).1, k6]
  rfl

theorem enter21 (args : Array Value) (w : World) : (callFunc 21 args).run Tryz.prog w = .ok (.enter 21 args) w := callFunc_run Tryz.func21 rfl (by unfold okName; simp [Tryz.f21]) args w
theorem enter22 (args : Array Value) (w : World) : (callFunc 22 args).run Tryz.prog w = .ok (.enter 22 args) w := callFunc_run Tryz.func22 rfl (by unfold okName; simp [Tryz.f22]) args w
theorem enter24 (args : Array Value) (w : World) : (callFunc 24 args).run Tryz.prog w = .ok (.enter 24 args) w := callFunc_run Tryz.func24 rfl (by unfold okName; simp [Tryz.f24]) args w
theorem enter63 (args : Array Value) (w : World) : (callFunc 63 args).run Tryz.prog w = .ok (.enter 63 args) w := callFunc_run Tryz.func63 rfl (by unfold okName; simp [Tryz.f63]) args w

theorem lock_ok {vs : List C} {t : T (C × List Blk)} (ht : smLock vs H = some t) {G : C × List Blk → Prop} {xs : List Value} (hH : HeapOk env B ρ H w) (hb : Below B w0 w) (hr : Rels env ρ vs xs) (hs : t.sat env G) :
    (∀ w, (callFunc 21 xs.toArray).run Tryz.prog w = .ok (.enter 21 xs.toArray) w) ∧
    Calls Tryz.prog 21 xs.toArray w fun e w' => ∃ r y ρ', G r ∧ e = .returned y ∧ Pre ρ ρ' ∧ r.1.r env ρ' [y] ∧ HeapOk env B ρ' r.2 w' ∧ Below B w0 w' := by
  refine ⟨enter21 _, ?_⟩
  unfold smLock at ht
  split at ht
  · rename_i b o
    split at ht
    · rename_i hc
      obtain ⟨x, rfl, hx⟩ := rels1 hr
      obtain ⟨g, hg, rfl⟩ := ptr_r hx
      obtain ⟨h1, h2⟩ := word_ok hH hg hc
      cases hset : setC H b o (.int .i32 (.lit 1)) with
      | none => rw [hset] at ht; cases ht
      | some H' =>
        rw [hset] at ht
        simp only [Option.map_some, Option.some.injEq] at ht
        subst ht
        have hs : G (.tup .nil, H') := hs
        refine (Go.MuLone.lock_free Tryz.muLib ⟨g, o, none⟩ w h1 h2).mono ?_
        rintro e w' ⟨rfl, rfl⟩
        obtain ⟨k1, k2⟩ := setC_ok (v := .int .i32 1) hH hb hg hset ⟨rfl, inKb_iff.1 rfl⟩ (fun h => by cases h)
        exact ⟨_, _, ρ, hs, rfl, Pre.refl _, ⟨[], rfl, rfl⟩, k1, k2⟩
    · cases ht
  · cases ht

theorem unlock_ok {vs : List C} {H' : List Blk} (ht : dgUnlock vs H = some H') {xs : List Value} (hH : HeapOk env B ρ H w) (hb : Below B w0 w) (hr : Rels env ρ vs xs) :
    (∀ w, (callFunc 22 xs.toArray).run Tryz.prog w = .ok (.enter 22 xs.toArray) w) ∧
    CallsD Tryz.prog 22 xs.toArray .returning w fun e u' w' => u' = .returning ∧ ∃ y ρ', e = .returned y ∧ Pre ρ ρ' ∧ HeapOk env B ρ' H' w' ∧ Below B w0 w' := by
  refine ⟨enter22 _, ?_⟩
  unfold dgUnlock at ht
  split at ht
  · rename_i b o
    split at ht
    · rename_i hc
      obtain ⟨x, rfl, hx⟩ := rels1 hr
      obtain ⟨g, hg, rfl⟩ := ptr_r hx
      obtain ⟨h1, h2⟩ := word_ok hH hg hc
      refine (Go.MuLone.unlock_deferred Tryz.muLib ⟨g, o, none⟩ .returning w h1 h2).mono ?_
      rintro e u' w' ⟨rfl, rfl, rfl⟩
      obtain ⟨k1, k2⟩ := setC_ok (v := .int .i32 0) hH hb hg ht ⟨rfl, inKb_iff.1 rfl⟩ (fun h => by cases h)
      exact ⟨rfl, _, ρ, rfl, Pre.refl _, k1, k2⟩
    · cases ht
  · cases ht

theorem idle_ok {vs : List C} (hl : vs.length = 3) {xs : List Value} (hH : HeapOk env B ρ H w) (hb : Below B w0 w) (hr : Rels env ρ vs xs) :
    (∀ w, (callFunc 63 xs.toArray).run Tryz.prog w = .ok (.enter 63 xs.toArray) w) ∧
    CallsD Tryz.prog 63 xs.toArray .returning w fun e u' w' => u' = .returning ∧ ∃ y ρ', e = .returned y ∧ Pre ρ ρ' ∧ HeapOk env B ρ' H w' ∧ Below B w0 w' := by
  refine ⟨enter63 _, ?_⟩
  have hlx : xs.length = 3 := by rw [← hr.1]; exact hl
  obtain ⟨x, y, z, rfl⟩ : ∃ x y z, xs = [x, y, z] := by
    match xs, hlx with
    | [x, y, z], _ => exact ⟨x, y, z, rfl⟩
  refine (do1_idle x y z w).mono ?_
  rintro e u' w' ⟨rfl, rfl, rfl⟩
  exact ⟨rfl, _, ρ, rfl, Pre.refl _, hH, hb⟩

end
end Go.Sx
