/-
  The summaries of TopTimer's runs: calls without memory and with it that were run; the lock. No condition.
-/
import Derived.Test.YtnlgfccjohhcmaaGreatDoorTopRun
import Derived.Test.YtnlgfccjohhcmaaGreatDoorTopLock
import Derived.Test.YtnlgfccjohhcmaaGreatDoorTopDg
namespace Go.Sx
open Go.RowKit Go.Top

section
variable {env : Env} {K K0 : Ctx}

theorem leafV_eq {v : C} {t : T (C × List Blk)} (h : leafV v t = true) : ∃ H, t = .leaf (v, H) := by
  cases t with
  | leaf r =>
    obtain ⟨v', H⟩ := r
    have h : v'.beq v = true := h
    exact ⟨H, by rw [C.beq_eq h]⟩
  | _ => cases h

theorem leafH_eq {v : C} {H : List Blk} {t : T (C × List Blk)} (h : leafH v H t = true) : t = .leaf (v, H) := by
  cases t with
  | leaf r =>
    obtain ⟨v', H'⟩ := r
    have h : (v'.beq v && beqH H' H) = true := h
    simp only [Bool.and_eq_true] at h
    rw [C.beq_eq h.1, beqH_eq h.2]
  | _ => cases h

/-- Calls without memory that were run. -/
theorem memoSg_ok (hP : K0.P = K.P) (hE : ∀ w0 B, EnvOk env K w0 B → EnvOk env K0 w0 B) (h0 : SgOk env K0) {n : Nat} : ∀ {m : Memo}, memoOk K0 n m = true →
    ∀ (f : FuncId) (vs : List C) (v : C), memoSg m f vs = some v → ∀ (ρ : List Nat) (xs : List Value) (w : World), EnvOk env K w w.heap.size → Rels env ρ vs xs →
    (∀ w, (callFunc f xs.toArray).run K.P w = .ok (.enter f xs.toArray) w) ∧ Calls K.P f xs.toArray w fun e w' => ∃ z, e = .returned z ∧ v.r env ρ [z] ∧ Below w.heap.size w w' := by
  intro m
  induction m with
  | nil => intro _ f vs v h; cases h
  | cons e m ih =>
    intro hm f vs v h ρ xs w hEw hr
    simp only [memoOk, Bool.and_eq_true] at hm
    obtain ⟨⟨hc, hv, hl⟩, hm⟩ := hm
    simp only [memoSg] at h
    split at h
    · rename_i hb
      simp only [Bool.and_eq_true] at hb
      have h1 := Nat.eq_of_beq_eq_true hb.1
      have h2 := beqL_eq hb.2
      simp only [Option.some.injEq] at h
      subst h h1 h2
      obtain ⟨H, ht⟩ := leafV_eq hl
      have hvs0 : Rels env [] e.2.1 xs := ⟨hr.1, fun i c x h1 h2 => by
        have := clean_take (List.all_eq_true.1 hc c (List.mem_of_getElem? h1)) (hr.2 i c x h1 h2)
        simpa using this⟩
      obtain ⟨k1, k2⟩ := evFn_calls (G := fun r => r.1 = e.2.2) (hE _ _ hEw) h0 (n := n) hvs0 (by rw [ht]; exact rfl)
      rw [hP] at k1 k2
      refine ⟨k1, k2.mono ?_⟩
      rintro e' w' ⟨r, z, ρ', hG, rfl, hz, hb'⟩
      refine ⟨z, rfl, ?_, hb'⟩
      rw [hG] at hz
      have := clean_take hv hz
      rw [List.take_zero] at this
      exact r_mono (by simp) this
    · exact ih hm f vs v h ρ xs w hEw hr

/-- Calls with memory that were run. -/
noncomputable def memoHOk (K : Ctx) (n : Nat) : List MemoH → Bool
  | [] => true
  | e :: m => leafH e.v e.H' (evFn K n e.f e.vs e.H) && memoHOk K n m

theorem memoSm_ok (hP : K0.P = K.P) (hE : ∀ z w0 B, EnvOk (env.fr z) K w0 B → EnvOk (env.fr z) K0 w0 B) (h0 : SgOk env K0) {n : Nat} : ∀ {m : List MemoH}, memoHOk K0 n m = true →
    ∀ (z : Nat → Option Obj) (w0 : World) (B : Nat), EnvOk (env.fr z) K w0 B → ∀ (f : FuncId) (vs : List C) (H : List Blk) (t : T (C × List Blk)), memoSm m f vs H = some t →
    ∀ (G : C × List Blk → Prop) (ρ : List Nat) (xs : List Value) (w : World), HeapOk (env.fr z) B ρ H w → Below B w0 w → B ≤ w0.heap.size → Rels env ρ vs xs → t.sat env G →
    (∀ w, (callFunc f xs.toArray).run K.P w = .ok (.enter f xs.toArray) w) ∧
    Calls K.P f xs.toArray w fun e w' => ∃ r y ρ', G r ∧ e = .returned y ∧ Pre ρ ρ' ∧ r.1.r env ρ' [y] ∧ HeapOk (env.fr z) B ρ' r.2 w' ∧ Below B w0 w' := by
  intro m
  induction m with
  | nil => intro _ z w0 B _ f vs H t h; cases h
  | cons e m ih =>
    intro hm z w0 B hEz f vs H t h G ρ xs w hH hb hsz hr hs
    simp only [memoHOk, Bool.and_eq_true] at hm
    obtain ⟨hl, hm⟩ := hm
    simp only [memoSm] at h
    split at h
    · rename_i hb'
      simp only [Bool.and_eq_true] at hb'
      have h1 := Nat.eq_of_beq_eq_true hb'.1
      have h2 := beqL_eq hb'.2.1
      have h3 := beqH_eq hb'.2.2
      simp only [Option.some.injEq] at h
      subst h h1 h2 h3
      have ht := leafH_eq hl
      have hE' := hE z w0 B hEz
      have hs' : G (e.v, e.H') := hs
      obtain ⟨k1, k2⟩ := evFnBy_ok (sgOk_fr h0) hE' (code_ok (sgOk_fr h0) n w0 B hE').1 e.f e.vs e.H G ρ xs w hH hb hsz (rels_fr.2 hr) (by
        have : evFnBy K0 (fun c s => evCode K0 n e.f c s) e.f e.vs e.H = .leaf (e.v, e.H') := ht
        rw [this]; exact hs')
      rw [hP] at k1 k2
      refine ⟨k1, k2.mono ?_⟩
      rintro e' w' ⟨r, y, ρ', hG, he, hp, hy, hH', hb''⟩
      exact ⟨r, y, ρ', hG, he, hp, (r_fr env z ρ' r.1 _).1 hy, hH', hb''⟩
    · exact ih hm z w0 B hEz f vs H t h G ρ xs w hH hb hsz hr hs

end

section
variable {env : Env} {B : Nat} {ρ : List Nat} {H : List Blk} {w w0 : World}

theorem HeapOk.upd (h : HeapOk env B ρ H w) {b g : Nat} {nb : Blk} {w' : World} (hg : ρ[b]? = some g) (hsame : ∀ k, k ≠ g → w'.heap[k]? = w.heap[k]?) (hnb : BlkOk env B ρ w' g nb) : HeapOk env B ρ (setL H b nb) w' := by
  have hap : Apart B ρ ρ w w' := fun g' _ _ hno => ⟨hsame g' (fun e => hno b (by rw [e]; exact hg)), hno⟩
  refine ⟨by simp [setL_eq, h.len], h.lo, h.inj, ?_, fun g' o ho => ?_, h.fm⟩
  rotate_left
  · obtain ⟨h1, h2⟩ := h.fz g' o ho
    exact ⟨by rw [hsame g' (fun e => h2 b (by rw [e]; exact hg))]; exact h1, h2⟩
  intro i g' b' hi hb'
  rw [setL_eq, List.getElem?_set] at hb'
  split at hb'
  · rename_i hbi; subst hbi
    rw [hg] at hi; simp only [Option.some.injEq] at hi; subst hi
    split at hb'
    · simp only [Option.some.injEq] at hb'; subst hb'; exact hnb
    · cases hb'
  · rename_i hbi
    have hne : g' ≠ g := fun e => by subst e; exact hbi (h.inj _ _ _ hg hi)
    exact (h.blk i g' b' hi hb').mono (fun _ _ h => h) (hsame g' hne) hap

theorem setCell_heap {w : World} {g o : Nat} {xs : List Value} {ty : TypeId} {fr : Nat × Nat} (hg : w.heap[g]? = some (.cells xs.toArray ty fr)) (v : Value) : (w.setCell ⟨g, o, none⟩ v).heap[g]? = some (.cells (xs.set o v).toArray ty fr) := by
  have hlt : g < w.heap.size := (Array.getElem?_eq_some_iff.1 hg).1
  have hv : w.heap[g] = .cells xs.toArray ty fr := (Array.getElem?_eq_some_iff.1 hg).2
  unfold World.setCell
  rw [Array.getElem?_eq_getElem (by simpa using hlt), Array.getElem_modify]
  simp [hv]

theorem setCell_other (w : World) (g o k : Nat) (v : Value) (h : k ≠ g) : (w.setCell ⟨g, o, none⟩ v).heap[k]? = w.heap[k]? := by
  simp [World.setCell, Array.getElem?_modify, Ne.symm h]

theorem below_setCell (hb : Below B w0 w) {g : Nat} (hg : B ≤ g) (o : Nat) (v : Value) : Below B w0 (w.setCell ⟨g, o, none⟩ v) :=
  hb.trans ⟨rfl, rfl, rfl, by simp [World.setCell], fun k hk => setCell_other w g o k v (by omega)⟩

theorem rels_set {cs : List C} {xs : List Value} (h : Rels env ρ cs xs) {o : Nat} {c : C} {v : Value} (hv : c.r env ρ [v]) : Rels env ρ (cs.set o c) (xs.set o v) := by
  refine ⟨by simp [h.1], fun i c' x hc hx => ?_⟩
  rw [List.getElem?_set] at hc hx
  split at hc
  · rename_i he
    rw [if_pos he] at hx
    split at hc
    · split at hx
      · simp only [Option.some.injEq] at hc hx; subst hc hx; exact hv
      · cases hx
    · cases hc
  · rename_i he
    rw [if_neg he] at hx
    exact h.2 i c' x hc hx

/-- What a cell holds. -/
theorem cellC_ok (h : HeapOk env B ρ H w) {b o g : Nat} (hg : ρ[b]? = some g) (hc : cellC H b o ≠ .bad) : ∃ (cs : List C) (t : TypeId) (xs tl : List Value) (x : Value), H[b]? = some (.cells cs t) ∧ cs[o]? = some (cellC H b o) ∧
    w.heap[g]? = some (.cells (xs ++ tl).toArray t (0, 0)) ∧ Rels env ρ cs xs ∧ (∀ (k : Nat) (v : Value), cs[k]? = some (.such 0) → xs[k]? = some v → QueOk env B ρ w v) ∧ xs[o]? = some x ∧ (cellC H b o).r env ρ [x] := by
  unfold cellC at hc ⊢
  split
  · rename_i cs t hb_
    have hb := hb_
    rw [getL_eq] at hb
    split
    · rename_i c hco
      rw [getL_eq] at hco
      obtain ⟨xs, tl, h1, h2, h3⟩ := h.blk b g _ hg hb
      have hlt : o < xs.length := by rw [← h2.1]; exact (List.getElem?_eq_some_iff.1 hco).1
      exact ⟨cs, t, xs, tl, xs[o], hb, hco, h1, h2, h3, List.getElem?_eq_getElem hlt, h2.2 o c _ hco (List.getElem?_eq_getElem hlt)⟩
    · rename_i hno
      exfalso; apply hc; simp only [hb_]; rw [hno]
  · rename_i hno
    exfalso; apply hc
    split
    · rename_i cs t hb; exact absurd hb (hno cs t)
    · rfl

end
end Go.Sx
