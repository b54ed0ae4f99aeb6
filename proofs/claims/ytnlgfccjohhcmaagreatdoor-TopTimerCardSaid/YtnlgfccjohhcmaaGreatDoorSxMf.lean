/-
  The map at the end of such a region. No condition.
-/
import Derived.Test.YtnlgfccjohhcmaaGreatDoorSxM
namespace Go.Sx
open Go.RowKit

theorem assocC_sd {ts : Ts} {k : IntKind} {n : Int} : ∀ {sd : List Ins}, (∃ e ∈ sd, e.k = k ∧ e.n = n ∧ assocC k n (sdEs ts sd) = some (getT ts e.v)) ∨ ((∀ e ∈ sd, ¬ (e.k = k ∧ e.n = n)) ∧ assocC k n (sdEs ts sd) = none) := by
  intro sd
  induction sd with
  | nil => exact .inr ⟨by simp, rfl⟩
  | cons e sd ih =>
    by_cases h : e.k = k ∧ e.n = n
    · exact .inl ⟨e, by simp, h.1, h.2, by simp [sdEs, assocC, h]⟩
    · have ha : assocC k n (sdEs ts (e :: sd)) = assocC k n (sdEs ts sd) := by simp only [sdEs, List.map_cons, assocC]; rw [if_neg h]
      rw [ha]
      rcases ih with ⟨e', h1, h2⟩ | ⟨h1, h2⟩
      · exact .inl ⟨e', by simp [h1], h2⟩
      · refine .inr ⟨fun e' he' => ?_, h2⟩
        rcases List.mem_cons.1 he' with rfl | he'
        · exact h
        · exact h1 e' he'

theorem MapSt.mp {env : Env} {sd : List Ins} {ρ : List Nat} {a : Act} {ms : List MapEntry} {k0 : IntKind} {ts : Ts} (hsd : SdOk sd k0) (hin : ∀ e ∈ sd, InK e.k e.n) (hts : TsOk env ρ ts a.tmps)
    (h5 : ∀ m ∈ ms, ∃ e ∈ sd, m.key = .int e.k e.n) (h6 : ∀ e ∈ sd, assocM e.k e.n ms = some (a.tmps.getD e.v undef)) : MpOk env ρ (sdEs ts sd) ms := by
  refine ⟨fun x hx => ?_, fun m hm => ?_, ⟨k0, fun m hm => ?_⟩, fun k n => ?_⟩
  · obtain ⟨e, _, rfl⟩ := List.mem_map.1 hx; exact ⟨_, _, rfl⟩
  · obtain ⟨e, he, hk⟩ := h5 m hm
    exact ⟨_, List.mem_map.2 ⟨e, he, rfl⟩, by rw [hk]; exact ⟨rfl, hin e he⟩⟩
  · obtain ⟨e, he, hk⟩ := h5 m hm
    exact ⟨e.n, by rw [hk, hsd.kind e he]⟩
  · rcases assocC_sd (ts := ts) (k := k) (n := n) (sd := sd) with ⟨e, he, rfl, rfl, hc⟩ | ⟨hno, hc⟩
    · rw [hc, h6 e he]
      exact hts.r e.v
    · rw [hc]
      cases hm : assocM k n ms with
      | none => trivial
      | some x =>
        obtain ⟨m, hm1, hm2⟩ := assocM_key hm
        obtain ⟨e, he, hk⟩ := h5 m hm1
        rw [hm2] at hk
        simp only [Value.int.injEq] at hk
        exact absurd ⟨hk.1.symm, hk.2.symm⟩ (hno e he)

end Go.Sx
