/-
  The contexts of TopTimer's runs are right where their equations hold. No condition.
-/
import Derived.Test.YtnlgfccjohhcmaaGreatDoorTopJn
import Derived.Test.YtnlgfccjohhcmaaGreatDoorTopR0
import Derived.Test.YtnlgfccjohhcmaaGreatDoorTopR1
import Derived.Test.YtnlgfccjohhcmaaGreatDoorTopR2
import Derived.Test.YtnlgfccjohhcmaaGreatDoorTopR3
import Derived.Test.YtnlgfccjohhcmaaGreatDoorTopR4
import Derived.Test.YtnlgfccjohhcmaaGreatDoorTopR5
namespace Go.Top
open Go.Sx Go.RowKit Go.Proofs

theorem osT_eq : osT = oszOf kds := by
  funext j
  match j with
  | 0 => rfl
  | 1 => rfl
  | 2 => rfl
  | 3 => rfl
  | n + 4 => rfl

/-- The equations hold. -/
def Eqs (env : Env) (l : List (E × E)) : Prop := ∀ p ∈ l, p.1.den env = p.2.den env

theorem nrm_ok {env : Env} {eqs : List (E × E)} (he : Eqs env eqs) (m : Memo) (mh : List MemoH) (e : E) : ((ctx eqs m mh).nrm e).den env = e.den env := by
  show (rw1 eqs (nrmPush e)).den env = _
  rw [rw1_den he, nrmPush_den]

theorem env_to {env : Env} {eqs eqs' : List (E × E)} {m m' : Memo} {mh mh' : List MemoH} (he : Eqs env eqs') {w0 : World} {B : Nat} (h : EnvOk env (ctx eqs m mh) w0 B) : EnvOk env (ctx eqs' m' mh') w0 B :=
  ⟨h.sl, h.len, h.cell, h.inp, nrm_ok he _ _⟩

theorem eqs_fr {env : Env} {l : List (E × E)} (h : Eqs env l) (z : Nat → Option Obj) : Eqs (env.fr z) l := fun p hp => by rw [den_fr, den_fr]; exact h p hp

theorem eqs_nil (env : Env) : Eqs env [] := fun _ h => by cases h

/-- What is asked of the summaries beside the lock's. -/
theorem sg_ctx {env : Env} {eqs : List (E × E)} {m : Memo} {mh : List MemoH}
    (h1 : ∀ (f : FuncId) (vs : List C) (v : C), memoSg m f vs = some v → ∀ (ρ : List Nat) (xs : List Value) (w : World), EnvOk env (ctx eqs m mh) w w.heap.size → Rels env ρ vs xs →
      (∀ w, (callFunc f xs.toArray).run P w = .ok (.enter f xs.toArray) w) ∧ Calls P f xs.toArray w fun e w' => ∃ z, e = .returned z ∧ v.r env ρ [z] ∧ Below w.heap.size w w')
    (h2 : ∀ (z : Nat → Option Obj) (w0 : World) (B : Nat), EnvOk (env.fr z) (ctx eqs m mh) w0 B → ∀ (f : FuncId) (vs : List C) (H : List Blk) (t : T (C × List Blk)), memoSm mh f vs H = some t →
      ∀ (G : C × List Blk → Prop) (ρ : List Nat) (xs : List Value) (w : World), HeapOk (env.fr z) B ρ H w → Below B w0 w → B ≤ w0.heap.size → Rels env ρ vs xs → t.sat env G →
      (∀ w, (callFunc f xs.toArray).run P w = .ok (.enter f xs.toArray) w) ∧
      Calls P f xs.toArray w fun e w' => ∃ r y ρ', G r ∧ e = .returned y ∧ Pre ρ ρ' ∧ r.1.r env ρ' [y] ∧ HeapOk (env.fr z) B ρ' r.2 w' ∧ Below B w0 w') : SgOk env (ctx eqs m mh) := by
  refine ⟨h1, fun z w0 B hE f vs H t ht G ρ xs w hH hb hsz hr hs => ?_, fun z w0 B hE f vs H H' ht ρ xs w hH hb hsz hr => ?_⟩
  · replace ht : smT mh f vs H = some t := ht
    unfold smT at ht
    split at ht
    · rename_i hf
      have hf := Nat.eq_of_beq_eq_true hf
      subst hf
      obtain ⟨k1, k2⟩ := lock_ok ht (G := G) hH hb (rels_fr.2 hr) (sat_fr.2 hs)
      refine ⟨k1, k2.mono ?_⟩
      rintro e' w' ⟨r, y, ρ', hG, he, hp, hy, hH', hb'⟩
      exact ⟨r, y, ρ', hG, he, hp, (r_fr env z ρ' r.1 _).1 hy, hH', hb'⟩
    · split at ht
      · rename_i hf
        have hf := Nat.eq_of_beq_eq_true hf
        subst hf
        obtain ⟨k1, k2⟩ := join_ok ht (w0 := w0) (fun v hv => hE.inp v hv) (G := G) hH hb hsz (rels_fr.2 hr) (sat_fr.2 hs)
        refine ⟨k1, k2.mono ?_⟩
        rintro e' w' ⟨r, y, ρ', hG, he, hp, hy, hH', hb'⟩
        exact ⟨r, y, ρ', hG, he, hp, (r_fr env z ρ' r.1 _).1 hy, hH', hb'⟩
      · exact h2 z w0 B hE f vs H t ht G ρ xs w hH hb hsz hr hs
  · replace ht : dgT f vs H = some H' := ht
    unfold dgT at ht
    split at ht
    · rename_i hf
      have hf := Nat.eq_of_beq_eq_true hf
      subst hf
      exact unlock_ok ht hH hb (rels_fr.2 hr)
    · split at ht
      · rename_i hf
        have hf := Nat.eq_of_beq_eq_true hf
        subst hf
        split at ht
        · rename_i hl
          have hl := Nat.eq_of_beq_eq_true hl
          rw [lenL_eq] at hl
          simp only [Option.some.injEq] at ht
          subst ht
          exact idle_ok hl hH hb (rels_fr.2 hr)
        · cases ht
      · cases ht

theorem sgk0 {env : Env} {eqs : List (E × E)} : SgOk env (ctx eqs [] []) :=
  sg_ctx (fun f vs v h => by cases h) (fun z w0 B _ f vs H t h => by cases h)

theorem sg1 {env : Env} {eqs : List (E × E)} {i : Nat} (h : pure1 i = true) : SgOk env (ctx eqs (memo1 i) []) :=
  sg_ctx (memoSg_ok (K := ctx eqs (memo1 i) []) (K0 := ctx [] [] []) rfl (fun _ _ hE => env_to (eqs_nil env) hE) sgk0 h) (fun z w0 B _ f vs H t h => by cases h)

theorem sg2 {env : Env} {i c : Nat} (he : Eqs env (eqsR i c)) (h : pure1 i = true) (h9 : step9 i c = true) : SgOk env (ctxR i c) :=
  sg_ctx (fun f vs v h => by cases h) (memoSm_ok (K := ctxR i c) (K0 := ctx (eqsR i c) (memo1 i) []) rfl (fun z _ _ hE => env_to (eqs_fr he z) hE) (sg1 h) (n := 1000) (m := [memo9 i c]) (by
    show (leafH (v9 i c) (H9 i c) (evFn (ctx (eqsR i c) (memo1 i) []) 1000 9 (vs9 i c) (pat i).H) && true) = true
    have h9 : leafH (v9 i c) (H9 i c) (evFn (ctx (eqsR i c) (memo1 i) []) 1000 9 (vs9 i c) (pat i).H) = true := h9
    rw [h9]; rfl))

theorem pures (i : Nat) (hi : i < 6) : pure1 i = true := by
  have : i = 0 ∨ i = 1 ∨ i = 2 ∨ i = 3 ∨ i = 4 ∨ i = 5 := by omega
  rcases this with rfl | rfl | rfl | rfl | rfl | rfl
  · exact pureM0
  · exact pureM1
  · exact pureM2
  · exact pureM3
  · exact pureM4
  · exact pureM5

theorem steps (i c : Nat) (hi : i < 6) (hc : c < 3) : step9 i c = true ∧ round i c = true := by
  have h1 : i = 0 ∨ i = 1 ∨ i = 2 ∨ i = 3 ∨ i = 4 ∨ i = 5 := by omega
  have h2 : c = 0 ∨ c = 1 ∨ c = 2 := by omega
  rcases h1 with rfl | rfl | rfl | rfl | rfl | rfl <;> rcases h2 with rfl | rfl | rfl
  · exact ⟨step00, round00⟩
  · exact ⟨step01, round01⟩
  · exact ⟨step02, round02⟩
  · exact ⟨step10, round10⟩
  · exact ⟨step11, round11⟩
  · exact ⟨step12, round12⟩
  · exact ⟨step20, round20⟩
  · exact ⟨step21, round21⟩
  · exact ⟨step22, round22⟩
  · exact ⟨step30, round30⟩
  · exact ⟨step31, round31⟩
  · exact ⟨step32, round32⟩
  · exact ⟨step40, round40⟩
  · exact ⟨step41, round41⟩
  · exact ⟨step42, round42⟩
  · exact ⟨step50, round50⟩
  · exact ⟨step51, round51⟩
  · exact ⟨step52, round52⟩

theorem exits (i : Nat) (hi : i < 6) (b : Bool) : exit i b = true := by
  have h1 : i = 0 ∨ i = 1 ∨ i = 2 ∨ i = 3 ∨ i = 4 ∨ i = 5 := by omega
  rcases h1 with rfl | rfl | rfl | rfl | rfl | rfl <;> cases b
  · exact exit0f
  · exact exit0t
  · exact exit1f
  · exact exit1t
  · exact exit2f
  · exact exit2t
  · exact exit3f
  · exact exit3t
  · exact exit4f
  · exact exit4t
  · exact exit5f
  · exact exit5t

theorem starts (i : Nat) (hi : i < 4) : start i = true := by
  have h1 : i = 0 ∨ i = 1 ∨ i = 2 ∨ i = 3 := by omega
  rcases h1 with rfl | rfl | rfl | rfl
  · exact start0
  · exact start1
  · exact start2
  · exact start3

end Go.Top
