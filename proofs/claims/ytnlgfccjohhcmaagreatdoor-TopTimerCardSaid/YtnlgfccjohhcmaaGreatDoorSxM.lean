/-
  A region that makes a map and puts entries into it in whatever order. No condition.
-/
import Derived.Test.YtnlgfccjohhcmaaGreatDoorSxG
import Derived.Test.YtnlgfccjohhcmaaGreatDoorSxF
namespace Go.Sx
open Go.RowKit

/-- A key put into a map that has it not. -/
theorem ins_run {P : Program} {t kt et : TypeId} {kk k : IntKind} {n : Int} {g c : Nat} {ms : List MapEntry} {z : Value} {w : World} (hu : P.underlying t = some (.map kt et)) (hk : P.underlying kt = some (.int kk))
    (hms : w.heap[g]? = some (.map ms.toArray c)) (hkeys : ∀ m ∈ ms, ∃ n, m.key = .int k n) (hno : assocM k n ms = none) :
    (Instr.mapUpdate t (.map (some g)) (.int k n) z).run P w = .ok () { w with heap := w.heap.setIfInBounds g (.map (ms ++ [({ key := .int k n, val := z, born := c } : MapEntry)]).toArray (c + 1)) } := by
  have hck : ∀ b, (Instr.checkKey b 10000 kt (.int k n)).run P w = .ok () w := fun b => checkKey_int hk b 9999 _ w
  rcases find_spec kk k n ms hkeys with ⟨_, h1⟩ | ⟨j, m', _, _, _, h4, _⟩
  · have hfk : (Instr.findKey kt (.int k n) ms).run P w = .ok none w := by simp [Instr.findKey, run_underlying hk, h1 0]
    simp [Instr.mapUpdate, run_underlying hu, getObj, setObj, Sem.run, hms, hck, hfk]
  · rw [h4] at hno; cases hno

/-- What is known of the map while the region runs. -/
def MapSt (sd : List Ins) (im : Nat) (tm : Tmp) (B : Nat) (ρ : List Nat) (listed : Array Bool) (a : Act) (w : World) : Prop :=
  listed.getD im false = true → ∃ (g : Nat) (ms : List MapEntry) (c : Nat), a.tmps[tm]? = some (.map (some g)) ∧ B ≤ g ∧ (∀ i : Nat, ρ[i]? ≠ some g) ∧ w.heap[g]? = some (.map ms.toArray c) ∧
    (∀ m ∈ ms, ∃ e ∈ sd, listed.getD e.i false = true ∧ m.key = .int e.k e.n) ∧ ∀ e ∈ sd, listed.getD e.i false = true → assocM e.k e.n ms = some (a.tmps.getD e.v undef)

/-- The inserts' keys and operations are all different, the keys of one kind. -/
structure SdOk (sd : List Ins) (k0 : IntKind) : Prop where
  kind : ∀ e ∈ sd, e.k = k0
  key : ∀ e ∈ sd, ∀ e' ∈ sd, e.n = e'.n → e = e'
  op : ∀ e ∈ sd, ∀ e' ∈ sd, e.i = e'.i → e = e'

theorem MapSt.ins {P : Program} {sd : List Ins} {im : Nat} {tm : Tmp} {B : Nat} {ρ : List Nat} {listed : Array Bool} {a : Act} {w : World} {k0 : IntKind} (hsd : SdOk sd k0) (h : MapSt sd im tm B ρ listed a w) (him : listed.getD im false = true)
    {e : Ins} (he : e ∈ sd) (hun : listed.getD e.i true = false) {t kt et : TypeId} {kk : IntKind} (hu : P.underlying t = some (.map kt et)) (hk : P.underlying kt = some (.int kk)) :
    ∃ (g : Nat) (w' : World), a.tmps[tm]? = some (.map (some g)) ∧ (Instr.mapUpdate t (.map (some g)) (.int e.k e.n) (a.tmps.getD e.v undef)).run P w = .ok () w' ∧ B ≤ g ∧ (∀ i : Nat, ρ[i]? ≠ some g) ∧ (∃ o, w' = { w with heap := w.heap.setIfInBounds g o }) ∧
      MapSt sd im tm B ρ (listed.setIfInBounds e.i true) a w' := by
  obtain ⟨g, ms, c, h1, h2, h3, h4, h5, h6⟩ := h him
  have hlt : e.i < listed.size := by
    rcases Nat.lt_or_ge e.i listed.size with h' | h'
    · exact h'
    · simp [Array.getElem?_eq_none h'] at hun
  have hunf : listed.getD e.i false = false := by simpa [hlt] using hun
  have hkeys : ∀ m ∈ ms, ∃ n, m.key = .int e.k n := fun m hm => by
    obtain ⟨e', he', _, hk'⟩ := h5 m hm
    exact ⟨e'.n, by rw [hk', hsd.kind e' he', hsd.kind e he]⟩
  have hno : assocM e.k e.n ms = none := by
    cases hx : assocM e.k e.n ms with
    | none => rfl
    | some x =>
      obtain ⟨m, hm, hkey⟩ := assocM_key hx
      obtain ⟨e', he', hl', hk'⟩ := h5 m hm
      rw [hkey] at hk'
      simp only [Value.int.injEq] at hk'
      have := hsd.key e he e' he' hk'.2
      subst this
      rw [hunf] at hl'; cases hl'
  refine ⟨g, _, h1, ins_run hu hk h4 hkeys hno, h2, h3, ⟨_, rfl⟩, fun _ => ⟨g, _, _, h1, h2, h3, setObj_same w g _ (Array.getElem?_eq_some_iff.1 h4).1, fun m hm => ?_, fun e' he' hl' => ?_⟩⟩
  · rcases List.mem_append.1 hm with hm | hm
    · obtain ⟨e', he', hl', hk'⟩ := h5 m hm
      exact ⟨e', he', getD_set_true hl', hk'⟩
    · simp only [List.mem_singleton] at hm; subst hm
      exact ⟨e, he, by simp [hlt], rfl⟩
  · rw [assocM_append]
    by_cases hee : e'.i = e.i
    · have := hsd.op e' he' e he hee
      subst this
      rw [hno]; simp [assocM]
    · rw [getD_set_ne false (Ne.symm hee)] at hl'
      rw [h6 e' he' hl']

theorem MapSt.made {sd : List Ins} {im : Nat} {tm : Tmp} {B : Nat} {ρ : List Nat} {listed : Array Bool} {a : Act} {w : World} (hno : ∀ e ∈ sd, listed.getD e.i false = false) (hne : ∀ e ∈ sd, e.i ≠ im) (htm : tm < a.tmps.size)
    (hB : B ≤ w.heap.size) (hρ : ∀ (i g : Nat), ρ[i]? = some g → g < w.heap.size) : MapSt sd im tm B ρ (listed.setIfInBounds im true) (a.put (some tm) (.map (some w.heap.size))) (w.alloc (.map #[] 0)) := by
  refine fun _ => ⟨w.heap.size, [], 0, by simp [Act.put, htm], hB, fun i hi => by have := hρ i _ hi; omega, heap_alloc_new w _, by simp, fun e he hl => ?_⟩
  rw [getD_set_ne false (Ne.symm (hne e he)), hno e he] at hl
  cases hl

theorem put_other {a : Act} {d : Option Tmp} {v : Value} {t : Tmp} (h : d ≠ some t) : (a.put d v).tmps[t]? = a.tmps[t]? := by
  cases d with
  | none => rfl
  | some d => simp only [Act.put]; rw [Array.getElem?_setIfInBounds_ne (fun e => h (by rw [e]))]

theorem MapSt.other {sd : List Ins} {im : Nat} {tm : Tmp} {B : Nat} {ρ ρ' : List Nat} {listed : Array Bool} {a a' : Act} {w w' : World} (h : MapSt sd im tm B ρ listed a w) {d : Option Tmp} {v : Value} {j : Nat}
    (ht : a'.tmps = (a.put d v).tmps) (hd : d ≠ some tm) (hv : ∀ e ∈ sd, listed.getD e.i false = true → d ≠ some e.v) (hj : j ≠ im) (hje : ∀ e ∈ sd, e.i ≠ j)
    (hfz : ∀ g, listed.getD im false = true → a.tmps[tm]? = some (.map (some g)) → w'.heap[g]? = w.heap[g]? ∧ ∀ i : Nat, ρ'[i]? ≠ some g) : MapSt sd im tm B ρ' (listed.setIfInBounds j true) a' w' := by
  intro him
  rw [getD_set_ne false hj] at him
  obtain ⟨g, ms, c, h1, h2, h3, h4, h5, h6⟩ := h him
  obtain ⟨f1, f2⟩ := hfz g him h1
  refine ⟨g, ms, c, by rw [ht, put_other hd]; exact h1, h2, f2, by rw [f1]; exact h4, fun m hm => ?_, fun e he hl => ?_⟩
  · obtain ⟨e, he, hl, hk⟩ := h5 m hm; exact ⟨e, he, getD_set_true hl, hk⟩
  · rw [getD_set_ne false (Ne.symm (hje e he))] at hl
    rw [h6 e he hl, ht]
    simp only [Array.getD_eq_getD_getElem?, put_other (hv e he hl)]

end Go.Sx
