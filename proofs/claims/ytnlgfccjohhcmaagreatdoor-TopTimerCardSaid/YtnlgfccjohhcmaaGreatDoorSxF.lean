/-
  The symbolic executor: what stays as it is (frozen objects) does not change what terms and values mean. No condition.
-/
import Derived.Test.YtnlgfccjohhcmaaGreatDoorSx11
namespace Go.Sx
open Go.RowKit

/-- With other frozen objects. -/
def Env.fr (env : Env) (z : Nat → Option Obj) : Env := { env with fz := z }

section
variable {env : Env} {z : Nat → Option Obj} {ρ : List Nat} {w : World}

theorem d_fr (env : Env) (z : Nat → Option Obj) : ∀ e : E, e.d (env.fr z) = e.d env := by
  intro e
  induction e with
  | bin o k a b iha ihb => show (binDen o k (a.d (env.fr z)).1 (b.d (env.fr z)).1, _) = _; rw [iha, ihb]; rfl
  | conv k a ih => show (k.wrap (a.d (env.fr z)).1, _) = _; rw [ih]; rfl
  | ite c a b ihc iha ihb => show (if (c.d (env.fr z)).1 ≠ 0 then (a.d (env.fr z)).1 else (b.d (env.fr z)).1, _) = _; rw [ihc, iha, ihb]; rfl
  | app f l ih => show (env.f f (l.d (env.fr z)).2, _) = _; rw [ih]; rfl
  | cons a b iha ihb => show (0, (a.d (env.fr z)).1 :: (b.d (env.fr z)).2) = _; rw [iha, ihb]; rfl
  | _ => rfl

theorem den_fr (env : Env) (z : Nat → Option Obj) (e : E) : e.den (env.fr z) = e.den env := by unfold E.den; rw [d_fr]
theorem tt_fr (env : Env) (z : Nat → Option Obj) (e : E) : e.tt (env.fr z) = e.tt env := by unfold E.tt; rw [den_fr]

theorem r_fr (env : Env) (z : Nat → Option Obj) (ρ : List Nat) : ∀ (c : C) (xs : List Value), c.r (env.fr z) ρ xs ↔ c.r env ρ xs := by
  intro c
  induction c with
  | int k e => intro xs; simp only [C.r, den_fr]
  | bool e => intro xs; simp only [C.r, tt_fr]
  | optr i e s o => intro xs; simp only [C.r, den_fr]; exact Iff.rfl
  | fn f a b iha ihb => intro xs; simp only [C.r, iha, ihb]
  | iface t v ih => intro xs; simp only [C.r, ih]
  | agg l ih => intro xs; simp only [C.r, ih]
  | tup l ih => intro xs; simp only [C.r, ih]
  | cons a b iha ihb => intro xs; simp only [C.r, iha, ihb]
  | _ => intro xs; exact Iff.rfl

theorem rels_fr {cs : List C} {xs : List Value} : Rels (env.fr z) ρ cs xs ↔ Rels env ρ cs xs := by
  unfold Rels
  constructor
  · rintro ⟨h1, h2⟩; exact ⟨h1, fun i c x hc hx => (r_fr env z ρ c _).1 (h2 i c x hc hx)⟩
  · rintro ⟨h1, h2⟩; exact ⟨h1, fun i c x hc hx => (r_fr env z ρ c _).2 (h2 i c x hc hx)⟩

theorem sat_fr {α : Type} {G : α → Prop} : ∀ {t : T α}, t.sat (env.fr z) G ↔ t.sat env G := by
  intro t
  induction t with
  | leaf x => exact Iff.rfl
  | br c a b iha ihb => simp only [T.sat, tt_fr, iha, ihb]
  | both a b iha ihb => simp only [T.sat, iha, ihb]
  | need c t ih => simp only [T.sat, tt_fr, ih]
  | fail k => exact Iff.rfl

theorem mpOk_fr {es : List (C × C × Nat)} {ms : List MapEntry} : MpOk (env.fr z) ρ es ms ↔ MpOk env ρ es ms := by
  constructor
  · intro h
    have := h.map (env' := env) (ρ' := ρ) (f := fun c => c) (fun _ _ => rfl) (fun e _ x => (r_fr env z ρ e.1 _).1) (fun e _ x => (r_fr env z ρ e.2.1 _).1)
    simpa using this
  · intro h
    have := h.map (env' := env.fr z) (ρ' := ρ) (f := fun c => c) (fun _ _ => rfl) (fun e _ x => (r_fr env z ρ e.1 _).2) (fun e _ x => (r_fr env z ρ e.2.1 _).2)
    simpa using this

theorem blk_fr {B g : Nat} {b : Blk} (hz : ∀ (g : Nat) (o : Obj), z g = some o → w.heap[g]? = some o ∧ ∀ i : Nat, ρ[i]? ≠ some g) (hm : ∀ (g : Nat) (o : Obj), z g = some o → env.fz g = some o ∨ isMp o = true) (h : BlkOk env B ρ w g b) : BlkOk (env.fr z) B ρ w g b := by
  cases b with
  | cells cs ty =>
    obtain ⟨xs, tl, h1, h2, h3⟩ := h
    refine ⟨xs, tl, h1, rels_fr.2 h2, fun k v hk hv => ?_⟩
    rcases h3 k v hk hv with h0 | ⟨g', n, c, ys, k1, k2, k3, k4, k5, k6⟩
    · exact .inl h0
    · refine .inr ⟨g', n, c, ys, k1, k2, ?_, k4, k5, k6⟩
      show z g' = none
      cases hzg : z g' with
      | none => rfl
      | some o =>
        rcases hm g' o hzg with h0 | h0
        · rw [k3] at h0; cases h0
        · have := (hz g' o hzg).1
          rw [k5] at this; cases this; cases h0
  | mp es n =>
    obtain ⟨ms, c, h1, h2⟩ := h
    exact ⟨ms, c, h1, mpOk_fr.2 h2⟩

theorem heap_fr {B : Nat} {H : List Blk} (h : HeapOk env B ρ H w) (hz : ∀ (g : Nat) (o : Obj), z g = some o → w.heap[g]? = some o ∧ ∀ i : Nat, ρ[i]? ≠ some g) (hm : ∀ (g : Nat) (o : Obj), z g = some o → env.fz g = some o ∨ isMp o = true) : HeapOk (env.fr z) B ρ H w :=
  ⟨h.len, h.lo, h.inj, fun i g b hi hb => blk_fr hz hm (h.blk i g b hi hb), hz, trivial⟩

theorem fr_fr (z z' : Nat → Option Obj) : (env.fr z).fr z' = env.fr z' := rfl

theorem envOk_fr {K : Ctx} {w0 : World} {B : Nat} (h : EnvOk env K w0 B) : EnvOk (env.fr z) K w0 B :=
  ⟨h.sl, h.len, h.cell, h.inp, fun e => by rw [den_fr, den_fr]; exact h.nrm e⟩

theorem ts_fr {ts : Ts} {xs : Array Value} (h : TsOk env ρ ts xs) : TsOk (env.fr z) ρ ts xs := ⟨h.n, fun t => (r_fr env z ρ _ _).2 (h.r t)⟩

theorem df_fr : ∀ {d : List (Nat × List C)} {es : List Deferred}, DfOk env ρ d es → DfOk (env.fr z) ρ d es := by
  intro d
  induction d with
  | nil => intro es h; exact h
  | cons p d ih => intro es h; obtain ⟨cap, args, es', h1, h2, h3⟩ := h; exact ⟨cap, args, es', h1, rels_fr.2 h2, ih h3⟩

theorem sim_fr {w0 : World} {B : Nat} {s : St} {a : Act} (h : Sim env w0 B ρ s a w) (hz : ∀ (g : Nat) (o : Obj), z g = some o → w.heap[g]? = some o ∧ ∀ i : Nat, ρ[i]? ≠ some g) (hm : ∀ (g : Nat) (o : Obj), z g = some o → env.fz g = some o ∨ isMp o = true) : Sim (env.fr z) w0 B ρ s a w :=
  ⟨ts_fr h.ts, df_fr h.defers, heap_fr h.heap hz hm, h.below, h.size⟩

end
end Go.Sx
