/-
  The symbolic executor: what comes in (bools, whole numbers, structs and arrays of these, slices of such) as its values. No condition but those in the statements.
-/
import Derived.Test.YtnlgfccjohhcmaaGreatDoorSx12
import Derived.ProofKit
import Derived.OpenShut
import Derived.ChangeOld
import Derived.Deep.Slices
namespace Go.Sx
open Go.RowKit Go.ChangeShapes Go.WideShapes Go.ChangeMaps

/-- A cell of what comes in: a whole number or (none) a bool; a slice of elements of such cells. -/
inductive Kd where
  | num (k : Option IntKind)
  | sl (ks : List CK)

def isBytes : List CK → Bool
  | [.num (some .u8)] => true
  | _ => false

def plainK1 : Kd → Option CK
  | .num k => some (.num k)
  | .sl ks => if isBytes ks then some .inp else none

def plainKs : List Kd → Option (List CK)
  | [] => some []
  | k :: ks => match plainK1 k, plainKs ks with
    | some c, some r => some (c :: r)
    | _, _ => none

def kindsF (P : Program) (rec : TypeId → Option (List Kd)) : List Field → Nat → Option (List Kd)
  | [], _ => some []
  | f :: fs, off => match rec f.type with
    | some ks => if Nat.beq f.offset off && Nat.beq ks.length (P.cellsOf f.type) then match kindsF P rec fs (off + ks.length) with
        | some r => some (ks ++ r)
        | none => none
      else none
    | none => none

def repL {α : Type} (ks : List α) : Nat → List α
  | 0 => []
  | n + 1 => ks ++ repL ks n

def kindsT (P : Program) : Nat → TypeId → Option (List Kd)
  | 0, _ => none
  | d + 1, t => match P.underlying t with
    | some .bool => some [.num none]
    | some (.int k) => some [.num (some k)]
    | some (.slice e) => match kindsT P d e with
      | some ks => match plainKs ks with
        | some (k :: r) => if Nat.beq (k :: r).length (P.cellsOf e) then some [.sl (k :: r)] else none
        | _ => none
      | none => none
    | some (.struct fs) => match kindsF P (kindsT P d) fs.toList 0 with
      | some ks => if Nat.beq ks.length (P.cellsOf t) then some ks else none
      | none => none
    | some (.array n e) => match kindsT P d e with
      | some ks => if Nat.beq ks.length (P.cellsOf e) && Nat.beq (repL ks n).length (P.cellsOf t) then some (repL ks n) else none
      | none => none
    | _ => none

/-- What a cell of an element is. -/
def COk (w : World) : CK → Value → Prop
  | .num k, v => ∃ n, v = kval k n ∧ kin k n
  | .inp, v => (∃ a n c, v = .slice a n c) ∧ InpOk w w.heap.size v

def KOk (w : World) : Kd → Value → Prop
  | .num k, v => ∃ n, v = kval k n ∧ kin k n
  | .sl ks, v => ∃ a len cap, v = .slice a len cap ∧ len ≤ cap ∧ len ≤ 9223372036854775807 ∧ (a = none → len = 0 ∧ cap = 0) ∧
      ∀ ad, a = some ad → ∀ (i : Nat), i < len → ∀ (n : Nat) (k : CK), ks[n]? = some k → ad.spot = none ∧ ad.block < w.heap.size ∧ ∃ v, w.cell? ⟨ad.block, ad.off + i * ks.length + n, none⟩ = some v ∧ COk w k v

theorem isBytes_eq {ks : List CK} (h : isBytes ks = true) : ks = [.num (some .u8)] := by
  unfold isBytes at h
  split at h
  · rfl
  · cases h

theorem plainK1_ok {w : World} {k : Kd} {c : CK} {v : Value} (h : plainK1 k = some c) (hv : KOk w k v) : COk w c v := by
  cases k with
  | num k => simp only [plainK1, Option.some.injEq] at h; subst h; exact hv
  | sl ks =>
    simp only [plainK1] at h
    split at h
    · rename_i hb
      simp only [Option.some.injEq] at h; subst h
      have := isBytes_eq hb; subst this
      obtain ⟨a, len, cap, rfl, h0, h1, h2, h3⟩ := hv
      refine ⟨⟨a, len, cap, rfl⟩, a, len, cap, rfl, h0, h1, h2, fun ad had i hi => ?_⟩
      obtain ⟨k1, k2, v, k3, n, rfl, _⟩ := h3 ad had i hi 0 _ rfl
      exact ⟨k1, k2, n, by simpa [kval] using k3⟩
    · cases h

def KsOk (w : World) (ks : List Kd) (cs : List Value) : Prop := cs.length = ks.length ∧ ∀ (i : Nat) (k : Kd) (v : Value), ks[i]? = some k → cs[i]? = some v → KOk w k v

section
variable {H : Type} {enc : TypeId × Value → H} {P : Program} {w : World} {base : Nat} {spare : Nat → Bool} {held : Bool}

theorem KsOk.nil : KsOk w [] [] := ⟨rfl, by simp⟩

theorem KsOk.append {ks ls : List Kd} {cs ds : List Value} (h : KsOk w ks cs) (k : KsOk w ls ds) : KsOk w (ks ++ ls) (cs ++ ds) := by
  refine ⟨by simp [h.1, k.1], fun i q v hq hv => ?_⟩
  rw [List.getElem?_append] at hq hv
  rw [h.1] at hv
  split at hq
  · rename_i hi; rw [if_pos hi] at hv; exact h.2 i q v hq hv
  · rename_i hi; rw [if_neg hi] at hv; exact k.2 _ q v hq hv

theorem KsOk.one {k : Kd} {v : Value} (h : KOk w k v) : KsOk w [k] [v] := ⟨rfl, fun i q u hq hu => by
  cases i with
  | zero => simp at hq hu; subst hq hu; exact h
  | succ i => simp at hq⟩

theorem plainKs_eq : ∀ {ks : List Kd} {r : List CK}, plainKs ks = some r → ks.length = r.length ∧ ∀ (i : Nat) (c : CK), r[i]? = some c → ∃ k, ks[i]? = some k ∧ plainK1 k = some c := by
  intro ks
  induction ks with
  | nil => intro r h; simp only [plainKs, Option.some.injEq] at h; subst h; exact ⟨rfl, by simp⟩
  | cons k ks ih =>
    intro r h
    simp only [plainKs] at h
    split at h
    · rename_i c r' hc hr
      simp only [Option.some.injEq] at h; subst h
      obtain ⟨h1, h2⟩ := ih hr
      refine ⟨by simp [h1], fun i c' hi => ?_⟩
      cases i with
      | zero => simp at hi; subst hi; exact ⟨k, rfl, hc⟩
      | succ i => obtain ⟨k', h3, h4⟩ := h2 i c' (by simpa using hi); exact ⟨k', by simpa using h3, h4⟩
    · cases h

theorem kindsF_ok (rec : TypeId → Option (List Kd)) (n : Nat) (cs : List Value)
    (hrec : ∀ t ks cs x, rec t = some ks → DataW.trod enc P w base spare held n t cs = some x → KsOk w ks cs) :
    ∀ (fs : List Field) (off : Nat) (ks : List Kd), kindsF P rec fs off = some ks → (∀ f ∈ fs, ∃ x, DataW.trod enc P w base spare held n f.type ((cs.drop f.offset).take (P.cellsOf f.type)) = some x) →
      KsOk w ks ((cs.drop off).take ks.length) := by
  intro fs
  induction fs with
  | nil => intro off ks h _; simp only [kindsF, Option.some.injEq] at h; subst h; simpa using KsOk.nil
  | cons f fs ih =>
    intro off ks h hf
    simp only [kindsF] at h
    split at h
    · rename_i k1 hk1
      split at h
      · rename_i hc
        simp only [Bool.and_eq_true, Nat.beq_eq] at hc
        obtain ⟨ho, hl⟩ := hc
        split at h
        · rename_i r hr
          simp only [Option.some.injEq] at h; subst h
          obtain ⟨x, hx⟩ := hf f (by simp)
          have h1 := hrec _ _ _ _ hk1 hx
          have h2 := ih (off + k1.length) r hr (fun g hg => hf g (by simp [hg]))
          rw [ho, ← hl] at h1
          have := h1.append h2
          have e : (cs.drop off).take (k1 ++ r).length = (cs.drop off).take k1.length ++ (cs.drop (off + k1.length)).take r.length := by
            rw [List.length_append, List.take_add, List.drop_drop]
          rw [e]; exact this
        · cases h
      · cases h
    · cases h

theorem repL_ok {ks : List Kd} (cs : List Value) : ∀ (n off : Nat), (∀ i, i < n → KsOk w ks ((cs.drop (off + i * ks.length)).take ks.length)) → KsOk w (repL ks n) ((cs.drop off).take (repL ks n).length) := by
  intro n
  induction n with
  | zero => intro off _; simpa [repL] using KsOk.nil
  | succ n ih =>
    intro off h
    have h1 := h 0 (by omega)
    have h2 := ih (off + ks.length) (fun i hi => by have := h (i + 1) (by omega); rwa [show off + (i + 1) * ks.length = off + ks.length + i * ks.length by rw [Nat.add_mul, Nat.one_mul]; omega] at this)
    rw [Nat.zero_mul, Nat.add_zero] at h1
    have := h1.append h2
    have e : (cs.drop off).take (repL ks (n + 1)).length = (cs.drop off).take ks.length ++ (cs.drop (off + ks.length)).take (repL ks n).length := by
      simp only [repL, List.length_append]
      rw [List.take_add, List.drop_drop]
    rw [e]; exact this

theorem KsOk.whole {ks : List Kd} {cs : List Value} (h : KsOk w ks ((cs.drop 0).take ks.length)) (hl : cs.length ≤ ks.length) : KsOk w ks cs := by
  rw [List.drop_zero, List.take_of_length_le hl] at h; exact h

/-- What is read at a type has that type's cells. -/
theorem read_ok : ∀ (d : Nat) (t : TypeId) (ks : List Kd) (fuel : Nat) (cs : List Value) (x : DataW H × List MemPlace), kindsT P d t = some ks → DataW.trod enc P w base spare held fuel t cs = some x → KsOk w ks cs := by
  intro d
  induction d with
  | zero => intro t ks fuel cs x h; simp [kindsT] at h
  | succ d ih =>
    intro t ks fuel cs x h hx
    simp only [kindsT] at h
    split at h
    · rename_i hu
      simp only [Option.some.injEq] at h; subst h
      obtain ⟨b, rfl, _⟩ := DataW.trod_bool hu hx
      exact .one ⟨b2i b, by cases b <;> rfl, trivial⟩
    · rename_i k hu
      simp only [Option.some.injEq] at h; subst h
      obtain ⟨n, rfl, _, hw⟩ := DataW.trod_int hu hx
      exact .one ⟨n, rfl, by simpa [Lit.wf, kin, InK] using hw⟩
    · rename_i e hu
      split at h
      · rename_i ke hke
        split at h
        · rename_i k r hp
          split at h
          · rename_i hl
            have hl := Nat.eq_of_beq_eq_true hl
            simp only [Option.some.injEq] at h; subst h
            obtain ⟨hkl, hke'⟩ := plainKs_eq hp
            rcases Go.Deep.open_slice hu hx with ⟨rfl, _⟩ | ⟨a, len, cap, m, n, D, Pl, rfl, hb, hlc, hcm, hm, _, hel⟩
            · exact .one ⟨none, 0, 0, rfl, by omega, by omega, fun _ => ⟨rfl, rfl⟩, fun ad h => by cases h⟩
            · have hmx : maxLen = 9223372036854775807 := by decide
              refine .one ⟨some a, len, cap, rfl, by omega, by omega, fun h => (by cases h), ?_⟩
              intro ad had i hi q kq hkq
              simp only [Option.some.injEq] at had; subst had
              have hlm : len ≤ m := by rw [hm]; split <;> omega
              obtain ⟨cs', hcs, htr⟩ := hel i (by omega)
              have hks := ih e ke n cs' _ hke htr
              obtain ⟨_, hlen, hget⟩ := World.cells?_some hcs
              have hq : q < (k :: r).length := (List.getElem?_eq_some_iff.1 hkq).1
              have hqc : q < P.cellsOf e := by rw [← hl]; exact hq
              have hlc' : q < cs'.length := by rw [hlen]; exact hqc
              have hcell := hget q hqc
              rw [List.getElem?_eq_getElem hlc'] at hcell
              have hspot : a.spot = none := by
                have h0 := hget 0 (by omega)
                have h0' : 0 < cs'.length := by omega
                rw [List.getElem?_eq_getElem h0'] at h0
                obtain ⟨_, hlen0, hget0⟩ := World.cells?_some hcs
                obtain ⟨cs0, hcs0, htr0⟩ := hel 0 (by omega)
                obtain ⟨_, hln0, hgt0⟩ := World.cells?_some hcs0
                have hz := hgt0 0 (by omega)
                have hz' : 0 < cs0.length := by omega
                rw [List.getElem?_eq_getElem hz'] at hz
                have := World.cell?_spot hz
                simpa [Addr.add] using this
              have hadd : (a.add (i * P.cellsOf e)).add q = ⟨a.block, a.off + i * (k :: r).length + q, none⟩ := by
                have h1 : ∀ n, a.add n = ⟨a.block, a.off + n, none⟩ := fun n => by
                  unfold Addr.add
                  split
                  · rename_i h0; subst h0; cases a; simp at hspot; simp [hspot]
                  · rfl
                rw [h1, add_block, ← hl]
              rw [hadd] at hcell
              refine ⟨hspot, by have := World.block_lt_of_cell? w (u := cs'[q]) (a := ⟨a.block, a.off + i * (k :: r).length + q, none⟩) hcell; exact this, ?_⟩
              obtain ⟨kd, hkd, hk1⟩ := hke' q kq hkq
              exact ⟨_, hcell, plainK1_ok hk1 (hks.2 q kd cs'[q] hkd (List.getElem?_eq_getElem hlc'))⟩
          · cases h
        · cases h
      · cases h
    · rename_i fs hu
      split at h
      · rename_i ks' hks
        split at h
        · rename_i hl
          have hl := Nat.eq_of_beq_eq_true hl
          simp only [Option.some.injEq] at h; subst h
          obtain ⟨xs, n, _, _, hcl, hxl, hf⟩ := DataW.trod_struct hu hx
          refine KsOk.whole (kindsF_ok (enc := enc) (base := base) (spare := spare) (held := held) (kindsT P d) n cs (fun t ks cs x h hx => ih t ks n cs x h hx) fs.toList 0 ks' hks ?_) (by omega)
          intro f hfm
          obtain ⟨i, hi, rfl⟩ := List.getElem_of_mem hfm
          have hi' : i < fs.size := by simpa using hi
          have h1 := hf i fs[i] (Array.getElem?_eq_getElem hi')
          refine ⟨xs[i]'(by omega), ?_⟩
          rw [List.getElem?_eq_getElem (by omega)] at h1
          simpa using h1
        · cases h
      · cases h
    · rename_i n e hu
      split at h
      · rename_i ke hke
        split at h
        · rename_i hc
          simp only [Bool.and_eq_true, Nat.beq_eq] at hc
          obtain ⟨hl, hlt⟩ := hc
          simp only [Option.some.injEq] at h; subst h
          obtain ⟨xs, m, _, _, hcl, hxl, hf⟩ := DataW.trod_array hu hx
          refine KsOk.whole (repL_ok cs n 0 (fun i hi => ?_)) (by omega)
          have h1 := hf i hi
          rw [List.getElem?_eq_getElem (by omega)] at h1
          rw [Nat.zero_add, hl]
          exact ih e ke m _ _ hke h1
        · cases h
      · cases h
    · cases h

/-! ### Arguments -/

def kdC : List Kd → Nat → List C
  | [], _ => []
  | k :: ks, o => (match k with
    | .num (some k) => C.int k (.var o)
    | .num none => .bool (.var o)
    | .sl _ => .osl o) :: kdC ks (o + 1)

/-- The arguments at types 'ts', as values over the variables from 'o' on; and the kinds of all cells. -/
noncomputable def argsC (P : Program) : List TypeId → Nat → Option (List C × List Kd)
  | [], _ => some ([], [])
  | t :: ts, o => match kindsT P 60 t with
    | some ks => match argsC P ts (o + ks.length) with
      | some (cs, ls) => match P.underlying t with
        | some (.struct _) => some (.agg (.toC (kdC ks o)) :: cs, ks ++ ls)
        | some (.array _ _) => some (.agg (.toC (kdC ks o)) :: cs, ks ++ ls)
        | some .bool => match kdC ks o with
          | [c] => some (c :: cs, ks ++ ls)
          | _ => none
        | some (.int _) => match kdC ks o with
          | [c] => some (c :: cs, ks ++ ls)
          | _ => none
        | some (.slice _) => match kdC ks o with
          | [c] => some (c :: cs, ks ++ ls)
          | _ => none
        | _ => none
      | none => none
    | none => none

def vInt : Value → Int
  | .int _ n => n
  | .bool b => b2i b
  | _ => 0

def vSl : Value → Option Addr × Nat × Nat
  | .slice a l c => (a, l, c)
  | _ => (none, 0, 0)

def oszOf (kds : List Kd) (j : Nat) : Option (List CK) :=
  match kds[j]? with
  | some (.sl ks) => some ks
  | _ => none

/-- What the variables mean: the cells 'flat' that came in, in the world 'w'. -/
def envOf (Φ : Nat → List Int → Int) (kds : List Kd) (flat : List Value) (w : World) : Env where
  v i := vInt ((flat[i]?).getD undef)
  sl i := vSl ((flat[i]?).getD undef)
  f g l := if g < 1000 then Φ g l else
    match (vSl ((flat[(g - 1000) / 100]?).getD undef)).1 with
    | some a => vInt ((w.cell? ⟨a.block, a.off + (l.headD 0).toNat * ((oszOf kds ((g - 1000) / 100)).getD []).length + (g - 1000) % 100, none⟩).getD undef)
    | none => 0
  such p v := p = 1 → InpOk w w.heap.size v

/-- The bools among the cells of what came in are 0 or 1. -/
def WfLd (env : Env) (kds : List Kd) : Prop := ∀ (j : Nat) (ks : List CK) (a : Addr) (n : Nat) (i : Int), kds[j]? = some (.sl ks) → ks[n]? = some (.num none) → (env.sl j).1 = some a → 0 ≤ i → i < (env.sl j).2.1 →
  env.f (1000 + 100 * j + n) [i] = 0 ∨ env.f (1000 + 100 * j + n) [i] = 1

/-- The variables are of their kinds. -/
def WfEnv (env : Env) (kds : List Kd) : Prop := (∀ (i : Nat) (k : Option IntKind), kds[i]? = some (.num k) → kin k (env.v i) ∧ (k = none → env.v i = 0 ∨ env.v i = 1)) ∧ WfLd env kds

/-- The named functions are as they should be, and the slices. -/
def EnvF (Φ : Nat → List Int → Int) (env : Env) : Prop :=
  (∀ g l, g < 1000 → env.f g l = Φ g l) ∧ ((∀ j, (env.sl j).1 = none → (env.sl j).2.1 = 0) ∧ ∀ j a, (env.sl j).1 = some a → 0 < (env.sl j).2.1 → a.spot = none) ∧ ∀ j, (env.sl j).2.1 ≤ 9223372036854775807

theorem vInt_kval (k : Option IntKind) (n : Int) : kval k (vInt (kval k n)) = kval k n := by
  cases k with
  | some k => rfl
  | none => by_cases h : n = 0 <;> simp [kval, vInt, E.tt, E.den, E.d, h, b2i]

theorem kin_vInt {k : Option IntKind} {n : Int} (h : kin k n) : kin k (vInt (kval k n)) := by
  cases k with
  | some k => exact h
  | none => trivial

theorem kdC_ok {env : Env} {ρ : List Nat} : ∀ (ks : List Kd) (o : Nat) (cs : List Value), KsOk w ks cs → (∀ (i : Nat) (v : Value), cs[i]? = some v → env.v (o + i) = vInt v ∧ env.sl (o + i) = vSl v) → Rels env ρ (kdC ks o) cs := by
  intro ks
  induction ks with
  | nil => intro o cs h _; have := h.1; cases cs with
    | nil => exact .nil
    | cons => simp at this
  | cons k ks ih =>
    intro o cs h hv
    have hl := h.1
    cases cs with
    | nil => simp at hl
    | cons c cs =>
      have hk := h.2 0 k c rfl rfl
      have h0 := hv 0 c rfl
      rw [Nat.add_zero] at h0
      have hrest := ih (o + 1) cs ⟨by simpa using hl, fun i q v hq hv => h.2 (i + 1) q v (by simpa using hq) (by simpa using hv)⟩ (fun i v hi => by have := hv (i + 1) v (by simpa using hi); rwa [show o + 1 + i = o + (i + 1) by omega])
      simp only [kdC]
      refine .cons ?_ hrest
      cases k with
      | num k =>
        obtain ⟨n, rfl, hkin⟩ := hk
        cases k with
        | some k => exact ⟨by simp [E.den, E.d, h0.1, kval, vInt], by rw [show (E.var o).den env = n by simp [E.den, E.d, h0.1, kval, vInt]]; exact hkin⟩
        | none =>
          show [kval none n] = [.bool ((E.var o).tt env)]
          have : (E.var o).tt env = (E.lit n).tt ⟨fun _ => 0, fun _ _ => 0, fun _ => (none, 0, 0), fun _ => none, fun _ _ => True⟩ := by
            by_cases hn : n = 0 <;> simp [E.tt, E.den, E.d, h0.1, kval, vInt, hn, b2i]
          rw [this]; rfl
      | sl l =>
        obtain ⟨a, len, cap, rfl, _⟩ := hk
        show [Value.slice a len cap] = _
        simp [h0.2, vSl]

theorem toArray_agg {v : Value} {cs : Array Value} (h : v = .agg cs) : v = .agg v.cells.toList.toArray := by subst h; simp [Value.cells]

theorem args_ok {env : Env} {ρ : List Nat} {b0 : Nat} : ∀ (ts : List TypeId) (o : Nat) (cs : List C) (kds : List Kd) (vs : List Value) (ds : List (DataW H)) (ps : List MemPlace), argsC P ts o = some (cs, kds) → DataW.TrodAll enc P w base spare held ts vs ds ps →
    (∀ (j : Nat) t v, ts[j]? = some t → vs[j]? = some v → Value.okWide P w .any b0 t v) →
    KsOk w kds (vs.flatMap (fun v => v.cells.toList)) ∧ ((∀ (i : Nat) (v : Value), (vs.flatMap (fun v => v.cells.toList))[i]? = some v → env.v (o + i) = vInt v ∧ env.sl (o + i) = vSl v) → Rels env ρ cs vs) := by
  intro ts
  induction ts with
  | nil =>
    intro o cs kds vs ds ps h hT _
    simp only [argsC, Option.some.injEq, Prod.mk.injEq] at h; obtain ⟨rfl, rfl⟩ := h
    obtain ⟨rfl, _, _⟩ := trodAll_nil hT
    exact ⟨.nil, fun _ => .nil⟩
  | cons t ts ih =>
    intro o cs kds vs ds ps h hT hok
    obtain ⟨v, vs', d, ds', p, q, rfl, rfl, rfl, hT0, hT'⟩ := trodAll_cons hT
    simp only [argsC] at h
    split at h
    · rename_i ks hks
      split at h
      · rename_i cs' ls hrec
        obtain ⟨fuel, hf⟩ := hT0
        have hk := read_ok 60 t ks fuel _ _ hks hf
        obtain ⟨hrk, hrr⟩ := ih (o + ks.length) cs' ls vs' ds' q hrec hT' (fun j t v ht hv => hok (j + 1) t v (by simpa using ht) (by simpa using hv))
        have hflat : (v :: vs').flatMap (fun v => v.cells.toList) = v.cells.toList ++ vs'.flatMap (fun v => v.cells.toList) := rfl
        have hok0 := hok 0 t v rfl rfl
        have tail : (∀ (i : Nat) (u : Value), ((v :: vs').flatMap (fun v => v.cells.toList))[i]? = some u → env.v (o + i) = vInt u ∧ env.sl (o + i) = vSl u) → Rels env ρ cs' vs' := fun hv => hrr (fun i u hu => by
          have := hv (ks.length + i) u (by rw [hflat, List.getElem?_append_right (by rw [hk.1]; omega), hk.1, Nat.add_sub_cancel_left]; exact hu)
          rwa [Nat.add_assoc])
        have head : (∀ (i : Nat) (u : Value), ((v :: vs').flatMap (fun v => v.cells.toList))[i]? = some u → env.v (o + i) = vInt u ∧ env.sl (o + i) = vSl u) → Rels env ρ (kdC ks o) v.cells.toList := fun hv => kdC_ok ks o _ hk (fun i u hu => hv i u (by
          rw [hflat, List.getElem?_append_left (List.getElem?_eq_some_iff.1 hu).1]; exact hu))
        have agg : (∃ cs, v = .agg cs) → (cs, kds) = (.agg (.toC (kdC ks o)) :: cs', ks ++ ls) → KsOk w kds ((v :: vs').flatMap (fun v => v.cells.toList)) ∧ ((∀ (i : Nat) (u : Value), ((v :: vs').flatMap (fun v => v.cells.toList))[i]? = some u → env.v (o + i) = vInt u ∧ env.sl (o + i) = vSl u) → Rels env ρ cs (v :: vs')) := by
          rintro ⟨ca, hca⟩ he
          simp only [Prod.mk.injEq] at he; obtain ⟨rfl, rfl⟩ := he
          refine ⟨by rw [hflat]; exact hk.append hrk, fun hv => .cons ⟨v.cells.toList, toC_r.2 (head hv), by rw [← toArray_agg hca]⟩ (tail hv)⟩
        have one : (∀ cs, v ≠ .agg cs) → (match kdC ks o with
          | [c] => some (c :: cs', ks ++ ls)
          | _ => none) = some (cs, kds) → KsOk w kds ((v :: vs').flatMap (fun v => v.cells.toList)) ∧ ((∀ (i : Nat) (u : Value), ((v :: vs').flatMap (fun v => v.cells.toList))[i]? = some u → env.v (o + i) = vInt u ∧ env.sl (o + i) = vSl u) → Rels env ρ cs (v :: vs')) := by
          intro hnagg h
          split at h
          · rename_i c hc
            simp only [Option.some.injEq, Prod.mk.injEq] at h; obtain ⟨rfl, rfl⟩ := h
            refine ⟨by rw [hflat]; exact hk.append hrk, fun hv => .cons ?_ (tail hv)⟩
            have h1 := head hv
            rw [hc] at h1
            obtain ⟨u, us, hus, hr1, _⟩ := h1.uncons
            have : v = u := by
              cases v with
              | agg cs => exact absurd rfl (hnagg cs)
              | _ => simp [Value.cells] at hus; exact hus.1
            rw [this]; exact hr1
          · cases h
        split at h
        · rename_i fs hu
          have : ∃ cs, v = .agg cs := by unfold Value.okWide at hok0; rw [hu] at hok0; obtain ⟨cs, hc, _⟩ := hok0; exact ⟨cs, hc⟩
          exact agg this (by simpa using h.symm)
        · rename_i n e hu
          have : ∃ cs, v = .agg cs := by unfold Value.okWide at hok0; rw [hu] at hok0; obtain ⟨cs, hc, _⟩ := hok0; exact ⟨cs, hc⟩
          exact agg this (by simpa using h.symm)
        · rename_i hu
          exact one (fun cs0 he => by subst he; obtain ⟨x, h1, _⟩ := open_bool hu hok0 ⟨fuel, hf⟩; cases h1) h
        · rename_i k hu
          exact one (fun cs0 he => by subst he; obtain ⟨x, h1, _⟩ := open_int hu hok0 ⟨fuel, hf⟩; cases h1) h
        · rename_i e hu
          exact one (fun cs0 he => by subst he; obtain ⟨a, l, c, h1⟩ := okWide_slice hu hok0; cases h1) h
        · cases h
      · cases h
    · cases h


def slFit (kds : List Kd) : Bool := kds.all fun k => match k with | .sl ks => Nat.ble ks.length 100 && !ks.isEmpty | .num _ => true

theorem env_facts {Φ : Nat → List Int → Int} {kds : List Kd} {flat : List Value} (h : KsOk w kds flat) (hfit : slFit kds = true) {K : Ctx} (hK : K.osz = oszOf kds) (hN : ∀ e, K.nrm e = e) :
    EnvF Φ (envOf Φ kds flat w) ∧ EnvOk (envOf Φ kds flat w) K w w.heap.size ∧ WfEnv (envOf Φ kds flat w) kds := by
  -- what stands at a place: nothing, a number, or a slice
  have place : ∀ j : Nat, (vSl ((flat[j]?).getD undef) = (none, 0, 0)) ∨ ∃ (ks : List CK) (a : Option Addr) (len cap : Nat), kds[j]? = some (.sl ks) ∧ flat[j]? = some (.slice a len cap) ∧ len ≤ 9223372036854775807 ∧ (a = none → len = 0 ∧ cap = 0) ∧
      ∀ ad : Addr, a = some ad → ∀ (i : Nat), i < len → ∀ (n : Nat) (k : CK), ks[n]? = some k → ad.spot = none ∧ ad.block < w.heap.size ∧ ∃ v, w.cell? ⟨ad.block, ad.off + i * ks.length + n, none⟩ = some v ∧ COk w k v := by
    intro j
    cases hj : flat[j]? with
    | none => exact .inl rfl
    | some v =>
      have hlt : j < kds.length := by rw [← h.1]; exact (List.getElem?_eq_some_iff.1 hj).1
      have hk := h.2 j kds[j] v (List.getElem?_eq_getElem hlt) hj
      cases hkd : kds[j] with
      | num k =>
        rw [hkd] at hk
        obtain ⟨n, rfl, _⟩ := hk
        exact .inl (by cases k <;> rfl)
      | sl ks =>
        rw [hkd] at hk
        obtain ⟨a, len, cap, rfl, _, h1, h2, h3⟩ := hk
        exact .inr ⟨ks, a, len, cap, by rw [List.getElem?_eq_getElem hlt, hkd], rfl, h1, h2, h3⟩
  have hne : ∀ (j : Nat) (ks : List CK), kds[j]? = some (.sl ks) → ks.length ≤ 100 ∧ ks ≠ [] := fun j ks hj => by
    have := List.all_eq_true.1 hfit _ (List.mem_of_getElem? hj)
    simp only [Bool.and_eq_true, Nat.ble_eq, Bool.not_eq_true', List.isEmpty_eq_false_iff] at this
    exact this
  have hsl : (∀ j, ((envOf Φ kds flat w).sl j).1 = none → ((envOf Φ kds flat w).sl j).2.1 = 0) ∧ ∀ j a, ((envOf Φ kds flat w).sl j).1 = some a → 0 < ((envOf Φ kds flat w).sl j).2.1 → a.spot = none := by
    refine ⟨fun j hj => ?_, fun j a ha hlen => ?_⟩
    · rcases place j with h0 | ⟨ks, a, len, cap, hkd, hf, _, h2, _⟩
      · show (vSl ((flat[j]?).getD undef)).2.1 = 0; rw [h0]
      · have e : (envOf Φ kds flat w).sl j = (a, len, cap) := by show vSl ((flat[j]?).getD undef) = _; rw [hf]; rfl
        rw [e] at hj ⊢; exact (h2 hj).1
    · rcases place j with h0 | ⟨ks, a', len, cap, hkd, hf, _, _, h3⟩
      · have e : (envOf Φ kds flat w).sl j = (none, 0, 0) := h0
        rw [e] at ha; cases ha
      · have e : (envOf Φ kds flat w).sl j = (a', len, cap) := by show vSl ((flat[j]?).getD undef) = _; rw [hf]; rfl
        rw [e] at ha hlen
        obtain ⟨k, r, hkr⟩ := List.exists_cons_of_ne_nil (hne j ks hkd).2
        exact (h3 a ha 0 hlen 0 k (by rw [hkr]; rfl)).1
  have hlen : ∀ j, ((envOf Φ kds flat w).sl j).2.1 ≤ 9223372036854775807 := fun j => by
    rcases place j with h0 | ⟨ks, a, len, cap, hkd, hf, h1, _, _⟩
    · have e : (envOf Φ kds flat w).sl j = (none, 0, 0) := h0
      rw [e]; exact Nat.zero_le _
    · have e : (envOf Φ kds flat w).sl j = (a, len, cap) := by show vSl ((flat[j]?).getD undef) = _; rw [hf]; rfl
      rw [e]; exact h1
  refine ⟨⟨fun g l hg => by show (if g < 1000 then Φ g l else _) = _; rw [if_pos hg], hsl, hlen⟩, ⟨hsl, hlen, ?_, fun v hv => hv rfl, fun e => by rw [hN]⟩, ?_, ?_⟩
  · intro j kinds a i n k hos ha hi0 hi1 hkn
    rw [hK] at hos
    rcases place j with h0 | ⟨ks, a', len, cap, hkd, hf, h1, h2, h3⟩
    · have e : (envOf Φ kds flat w).sl j = (none, 0, 0) := h0
      rw [e] at ha; cases ha
    · have e : (envOf Φ kds flat w).sl j = (a', len, cap) := by show vSl ((flat[j]?).getD undef) = _; rw [hf]; rfl
      have hko : kinds = ks := by unfold oszOf at hos; rw [hkd] at hos; simpa using hos.symm
      subst hko
      rw [e] at ha hi1
      have hn : n < kinds.length := (List.getElem?_eq_some_iff.1 hkn).1
      have hn100 := (hne j kinds hkd).1
      obtain ⟨hspot, hblk, v, hcell, hcok⟩ := h3 a ha i.toNat (by simp only [] at hi1; omega) n k hkn
      refine ⟨hblk, v, hcell, ?_⟩
      rcases k with k | _
      case inp => exact ⟨hcok.1, fun _ => hcok.2⟩
      obtain ⟨m, rfl, hkin⟩ := hcok
      have hval : (envOf Φ kds flat w).f (1000 + 100 * j + n) [i] = vInt (kval k m) := by
        show (if 1000 + 100 * j + n < 1000 then Φ _ _ else _) = _
        rw [if_neg (by omega)]
        have e1 : (1000 + 100 * j + n - 1000) / 100 = j := by omega
        have e2 : (1000 + 100 * j + n - 1000) % 100 = n := by omega
        rw [e1, e2, hf]
        simp only [Option.getD_some, vSl]
        simp only [] at ha
        rw [ha]
        simp only [List.headD_cons]
        have e3 : (oszOf kds j).getD [] = kinds := by rw [hos]; rfl
        rw [e3, hcell]; rfl
      show kval k m = kval k ((envOf Φ kds flat w).f (1000 + 100 * j + n) [i]) ∧ kin k ((envOf Φ kds flat w).f (1000 + 100 * j + n) [i])
      rw [hval]
      exact ⟨(vInt_kval k m).symm, kin_vInt hkin⟩
  · intro i k hk
    have hlt : i < flat.length := by rw [h.1]; exact (List.getElem?_eq_some_iff.1 hk).1
    obtain ⟨n, hn, hkin⟩ := h.2 i _ flat[i] hk (List.getElem?_eq_getElem hlt)
    have hv : (envOf Φ kds flat w).v i = vInt (kval k n) := by
      show vInt ((flat[i]?).getD undef) = _
      rw [List.getElem?_eq_getElem hlt, Option.getD_some, hn]
    rw [hv]
    refine ⟨kin_vInt hkin, fun h => ?_⟩
    subst h
    by_cases h0 : n = 0 <;> simp [kval, vInt, E.tt, E.den, E.d, h0, b2i]
  · intro j ks0 a n i hkd0 hkn ha hi0 hi1
    rcases place j with h0 | ⟨ks, a', len, cap, hkd, hf, h1, h2, h3⟩
    · have e : (envOf Φ kds flat w).sl j = (none, 0, 0) := h0
      rw [e] at ha; cases ha
    · have e : (envOf Φ kds flat w).sl j = (a', len, cap) := by show vSl ((flat[j]?).getD undef) = _; rw [hf]; rfl
      have hko : ks0 = ks := by rw [hkd] at hkd0; simpa using hkd0.symm
      subst hko
      rw [e] at ha hi1
      have hn : n < ks0.length := (List.getElem?_eq_some_iff.1 hkn).1
      have hn100 := (hne j ks0 hkd).1
      obtain ⟨hspot, hblk, v, hcell, hcok⟩ := h3 a ha i.toNat (by simp only [] at hi1; omega) n _ hkn
      obtain ⟨m, rfl, hkin⟩ := hcok
      have hval : (envOf Φ kds flat w).f (1000 + 100 * j + n) [i] = vInt (kval none m) := by
        show (if 1000 + 100 * j + n < 1000 then Φ _ _ else _) = _
        rw [if_neg (by omega)]
        have e1 : (1000 + 100 * j + n - 1000) / 100 = j := by omega
        have e2 : (1000 + 100 * j + n - 1000) % 100 = n := by omega
        rw [e1, e2, hf]
        simp only [Option.getD_some, vSl]
        simp only [] at ha
        rw [ha]
        simp only [List.headD_cons]
        have e3 : (oszOf kds j).getD [] = ks0 := by unfold oszOf; rw [hkd]; rfl
        rw [e3, hcell]; rfl
      rw [hval]
      by_cases h0 : m = 0 <;> simp [kval, vInt, E.tt, E.den, E.d, h0, b2i]

/-- **What comes in, as the executor takes it.** -/
theorem come_in {Φ : Nat → List Int → Int} {ts : List TypeId} {cs : List C} {kds : List Kd} {vs : List Value} {ds : List (DataW H)} {ps : List MemPlace} {b0 : Nat} {K : Ctx} (h : argsC P ts 0 = some (cs, kds)) (hfit : slFit kds = true) (hK : K.osz = oszOf kds) (hN : ∀ e, K.nrm e = e)
    (hT : DataW.TrodAll enc P w base spare held ts vs ds ps) (hok : ∀ (j : Nat) t v, ts[j]? = some t → vs[j]? = some v → Value.okWide P w .any b0 t v) :
    ∃ env, EnvF Φ env ∧ EnvOk env K w w.heap.size ∧ WfEnv env kds ∧ Rels env [] cs vs := by
  obtain ⟨h1, h2⟩ := args_ok (env := envOf Φ kds (vs.flatMap (fun v => v.cells.toList)) w) (ρ := []) ts 0 cs kds vs ds ps h hT hok
  obtain ⟨h3, h4, h5⟩ := env_facts (Φ := Φ) h1 hfit hK hN
  refine ⟨_, h3, h4, h5, h2 (fun i v hi => ?_)⟩
  rw [Nat.zero_add]
  show vInt (((vs.flatMap (fun v => v.cells.toList))[i]?).getD undef) = _ ∧ vSl (((vs.flatMap (fun v => v.cells.toList))[i]?).getD undef) = _
  rw [hi]; exact ⟨rfl, rfl⟩

theorem trodAll_lt : ∀ (ts : List TypeId) (vs : List Value) (ds : List (DataW H)) (ps : List MemPlace), DataW.TrodAll enc P w base spare held ts vs ds ps → ∀ x ∈ ps, x.block < w.heap.size := by
  intro ts
  induction ts with
  | nil => intro vs ds ps h; obtain ⟨_, _, rfl⟩ := trodAll_nil h; simp
  | cons t ts ih =>
    intro vs ds ps h
    obtain ⟨v, vs', d, ds', p, q, rfl, rfl, rfl, ⟨m, hm⟩, h2⟩ := trodAll_cons h
    intro x hx
    rcases List.mem_append.1 hx with hx | hx
    · exact DataW.trod_lt m _ _ _ hm x hx
    · exact ih vs' ds' q h2 x hx

end

/-- The arguments read on as they did. -/
theorem trodAll_stays {H : Type} {enc : TypeId × Value → H} {P : Program} {W W' : World} (hl : laidOutB P = true) (hb : Below W.heap.size W W') :
    ∀ (ts : List TypeId) (vs : List Value) (ds : List (DataW H)) (ps : List MemPlace), (ts.all fun t => P.readableRec t && decide (t < P.types.size)) = true → DataW.TrodAll enc P W 0 (fun _ => true) true ts vs ds ps →
      DataW.TrodAll enc P W' 0 (fun b => decide (b < W.heap.size)) true ts vs ds ps := by
  intro ts
  induction ts with
  | nil => intro vs ds ps _ h; obtain ⟨rfl, rfl, rfl⟩ := trodAll_nil h; exact trodAll_mk0
  | cons t ts ih =>
    intro vs ds ps hr h
    obtain ⟨v, vs', d, ds', p, q, rfl, rfl, rfl, h1, h2⟩ := trodAll_cons h
    simp only [List.all_cons, Bool.and_eq_true, decide_eq_true_eq] at hr
    refine trodAll_cons_mk (Below.trod hl hr.1.1 hr.1.2 h1 hb ?_) (ih vs' ds' q (by simpa using hr.2) h2)
    obtain ⟨m, hm⟩ := h1
    exact DataW.trod_lt m _ _ _ hm

end Go.Sx
