/-
  The symbolic executor: how its states stand for the model's, and what each operation does. No condition.
-/
import Derived.Test.YtnlgfccjohhcmaaGreatDoorSx3
namespace Go.Sx
open Go.RowKit

/-- What the first entry with that key holds. -/
def assocC (k : IntKind) (n : Int) : List (C × C × Nat) → Option C
  | [] => none
  | e :: es => match e.1 with
    | .int k' (.lit m) => if k' = k ∧ m = n then some e.2.1 else assocC k n es
    | _ => assocC k n es

def assocM (k : IntKind) (n : Int) : List MapEntry → Option Value
  | [] => none
  | m :: ms => match m.key with
    | .int k' n' => if k' = k ∧ n' = n then some m.val else assocM k n ms
    | _ => assocM k n ms

def EntOk (env : Env) (ρ : List Nat) : Option C → Option Value → Prop
  | none, none => True
  | some c, some x => c.r env ρ [x]
  | _, _ => False

/-- What the executor knows of a map's entries: which keys there are, and what each holds; not their order. -/
structure MpOk (env : Env) (ρ : List Nat) (es : List (C × C × Nat)) (ms : List MapEntry) : Prop where
  lit : ∀ e ∈ es, ∃ k n, e.1 = C.int k (.lit n)
  keys : ∀ m ∈ ms, ∃ e ∈ es, e.1.r env ρ [m.key]
  kind : ∃ k, ∀ m ∈ ms, ∃ n, m.key = .int k n
  ent : ∀ k n, EntOk env ρ (assocC k n es) (assocM k n ms)

/-- A queue of bytes that lies apart. -/
def QueOk (env : Env) (B : Nat) (ρ : List Nat) (w : World) (v : Value) : Prop :=
  v = .slice none 0 0 ∨ ∃ (g n c : Nat) (xs : Array Value), v = .slice (some ⟨g, 0, none⟩) n c ∧ B ≤ g ∧ env.fz g = none ∧ (∀ i : Nat, ρ[i]? ≠ some g) ∧ w.heap[g]? = some (.cells xs 5 (0, 0)) ∧ n ≤ c ∧ c ≤ maxLen ∧ xs.size = c * 1 ∧ n ≤ 64

/-- A block stands for block number g of the world ('tl': what of it is not known). -/
def BlkOk (env : Env) (B : Nat) (ρ : List Nat) (w : World) (g : Nat) : Blk → Prop
  | .cells cs ty => ∃ xs tl : List Value, w.heap[g]? = some (.cells (xs ++ tl).toArray ty (0, 0)) ∧ Rels env ρ cs xs ∧ ∀ (k : Nat) (v : Value), cs[k]? = some (.such 0) → xs[k]? = some v → QueOk env B ρ w v
  | .mp es _ => ∃ (ms : List MapEntry) (clock : Nat), w.heap[g]? = some (.map ms.toArray clock) ∧ MpOk env ρ es ms

/-- Is it a map? -/
def isMp : Obj → Bool
  | .map _ _ => true
  | _ => false

structure HeapOk (env : Env) (B : Nat) (ρ : List Nat) (H : List Blk) (w : World) : Prop where
  len : ρ.length = H.length
  lo : ∀ (i g : Nat), ρ[i]? = some g → B ≤ g
  inj : ∀ (i j g : Nat), ρ[i]? = some g → ρ[j]? = some g → i = j
  blk : ∀ (i g : Nat) (b : Blk), ρ[i]? = some g → H[i]? = some b → BlkOk env B ρ w g b
  fz : ∀ (g : Nat) (o : Obj), env.fz g = some o → w.heap[g]? = some o ∧ ∀ i : Nat, ρ[i]? ≠ some g
  fm : True

/-- What is known of the temporaries is so. -/
structure TsOk (env : Env) (ρ : List Nat) (ts : Ts) (xs : Array Value) : Prop where
  n : ts.n = xs.size
  r : ∀ t, (getT ts t).r env ρ [xs.getD t undef]

/-- The deferred calls. -/
def DfOk (env : Env) (ρ : List Nat) : List (Nat × List C) → List Deferred → Prop
  | [], es => es = []
  | p :: ds, es => ∃ (cap args : Array Value) (es' : List Deferred), es = { target := .fn (.func p.1) cap, args := args } :: es' ∧ Rels env ρ p.2 (args.toList ++ cap.toList) ∧ DfOk env ρ ds es'

/-- The executor's state stands for the model's. 'w0', 'B': the world and its size as the run began. -/
structure Sim (env : Env) (w0 : World) (B : Nat) (ρ : List Nat) (s : St) (a : Act) (w : World) : Prop where
  ts : TsOk env ρ s.ts a.tmps
  defers : DfOk env ρ s.ts.d a.defers
  heap : HeapOk env B ρ s.H w
  below : Below B w0 w
  size : B ≤ w0.heap.size

theorem nth_eq (ts : List C) : ∀ t, nth ts t = (ts[t]?).getD C.undef := by
  induction ts with
  | nil => intro t; cases t <;> rfl
  | cons c cs ih => intro t; cases t with
    | zero => rfl
    | succ t => rw [nth_cons, ih]; rfl

theorem getL_eq {α : Type} (l : List α) : ∀ i, getL l i = l[i]? := by
  induction l with
  | nil => intro i; cases i <;> rfl
  | cons c cs ih => intro i; cases i with
    | zero => rfl
    | succ i => rw [getL_cons, ih]; rfl

theorem setL_eq {α : Type} (l : List α) : ∀ i v, setL l i v = l.set i v := by
  induction l with
  | nil => intro i v; cases i <;> rfl
  | cons c cs ih => intro i v; cases i with
    | zero => rfl
    | succ i => rw [setL_cons, ih]; rfl

section
variable {env : Env} {w0 : World} {B : Nat} {ρ : List Nat} {s : St} {a : Act} {w : World} {P : Program}

theorem undef_r : C.undef.r env ρ [undef] := ⟨[], rfl, rfl⟩

theorem nth_r {ts : List C} {xs : List Value} (h : Rels env ρ ts xs) (t : Nat) : (nth ts t).r env ρ [(xs[t]?).getD undef] := by
  rw [nth_eq]
  cases hc : ts[t]? with
  | none =>
    have : xs[t]? = none := by rw [List.getElem?_eq_none_iff] at hc ⊢; rw [← h.1]; exact hc
    rw [this]; exact undef_r
  | some c =>
    have hlt : t < xs.length := by rw [← h.1]; exact (List.getElem?_eq_some_iff.1 hc).1
    have hx : xs[t]? = some xs[t] := List.getElem?_eq_getElem hlt
    rw [hx]
    exact h.2 t c _ hc hx

theorem getA_cons (p : Nat × C) (l : List (Nat × C)) (t : Nat) : getA (p :: l) t = if p.1 = t then p.2 else getA l t := by
  show cond (Nat.beq p.1 t) p.2 (getA l t) = _
  by_cases h : p.1 = t
  · subst h; simp
  · have : Nat.beq p.1 t = false := by
      cases hb : Nat.beq p.1 t with
      | false => rfl
      | true => exact absurd (Nat.eq_of_beq_eq_true hb) h
    rw [this, if_neg h]; rfl

theorem getA_map {f : C → C} (hf : f .bad = .bad) (l : List (Nat × C)) (t : Nat) : getA (l.map fun p => (p.1, f p.2)) t = f (getA l t) := by
  induction l with
  | nil => exact hf.symm
  | cons p l ih =>
    rw [List.map_cons, getA_cons, getA_cons, ih]
    split <;> rfl

theorem DfOk.mono {ρ' : List Nat} (hp : ∀ (i g : Nat), ρ[i]? = some g → ρ'[i]? = some g) : ∀ {d : List (Nat × List C)} {es : List Deferred}, DfOk env ρ d es → DfOk env ρ' d es := by
  intro d
  induction d with
  | nil => intro es h; exact h
  | cons p d ih => intro es h; obtain ⟨cap, args, es', h1, h2, h3⟩ := h; exact ⟨cap, args, es', h1, h2.mono hp, ih h3⟩

theorem DfOk.map {env' : Env} {ρ' : List Nat} {f : C → C} : ∀ {d : List (Nat × List C)} {es : List Deferred}, (∀ p ∈ d, ∀ c ∈ p.2, ∀ x : Value, c.r env ρ [x] → (f c).r env' ρ' [x]) → DfOk env ρ d es → DfOk env' ρ' (mapD f d) es := by
  intro d
  induction d with
  | nil => intro es _ h; exact h
  | cons p d ih =>
    intro es hr h; obtain ⟨cap, args, es', h1, h2, h3⟩ := h
    refine ⟨cap, args, es', h1, ⟨by simp [h2.1], fun i c x hc hx => ?_⟩, ih (fun q hq => hr q (by simp [hq])) h3⟩
    show c.r env' ρ' [x]
    rw [List.getElem?_map] at hc
    cases hi : p.2[i]? with
    | none => simp [hi] at hc
    | some c' => simp only [hi, Option.map_some, Option.some.injEq] at hc; subst hc; exact hr p (by simp) c' (List.mem_of_getElem? hi) x (h2.2 i c' x hi hx)

theorem setT_d (ts : Ts) (t : Nat) (v : C) : (setT ts t v).d = ts.d := by
  unfold setT
  cases Nat.blt t ts.n <;> rfl

theorem putD_d (ts : Ts) (d : Option Tmp) (v : C) : (putD ts d v).d = ts.d := by
  cases d with
  | none => rfl
  | some d => exact setT_d ts d v

theorem TsOk.mono {ts : Ts} {xs : Array Value} (h : TsOk env ρ ts xs) {ρ' : List Nat} (hp : ∀ (i g : Nat), ρ[i]? = some g → ρ'[i]? = some g) : TsOk env ρ' ts xs := ⟨h.n, fun t => r_mono hp (h.r t)⟩

theorem TsOk.map {ts : Ts} {xs : Array Value} (h : TsOk env ρ ts xs) {env' : Env} {ρ' : List Nat} {f : C → C} (hf : f .bad = .bad) (hr : ∀ (c : C) (x : Value), c.r env ρ [x] → (f c).r env' ρ' [x]) : TsOk env' ρ' (ts.mapC f) xs :=
  ⟨h.n, fun t => by
    show (getA (ts.l.map fun p => (p.1, f p.2)) t).r env' ρ' _
    rw [getA_map hf]; exact hr _ _ (h.r t)⟩

theorem TsOk.set {ts : Ts} {xs : Array Value} (h : TsOk env ρ ts xs) {v : C} {x : Value} (hv : v.r env ρ [x]) (d : Tmp) : TsOk env ρ (setT ts d v) (xs.setIfInBounds d x) := by
  unfold setT
  cases hb : Nat.blt d ts.n with
  | false =>
    have hge : xs.size ≤ d := by
      rw [← h.n]
      rcases Nat.lt_or_ge d ts.n with hl | hl
      · rw [show Nat.blt d ts.n = true from Nat.ble_eq_true_of_le hl] at hb; cases hb
      · exact hl
    have : xs.setIfInBounds d x = xs := by
      apply Array.ext'
      rw [Array.toList_setIfInBounds]
      exact List.set_eq_of_length_le (by simpa using hge)
    rw [this]; exact h
  | true =>
    have hlt : d < xs.size := by rw [← h.n]; exact Nat.le_of_ble_eq_true hb
    refine ⟨by simp [h.n], fun t => ?_⟩
    show (getA ((d, v) :: ts.l) t).r env ρ _
    rw [getA_cons]
    by_cases hdt : d = t
    · subst hdt
      rw [if_pos rfl]
      have : (xs.setIfInBounds d x).getD d undef = x := by simp [hlt]
      rw [this]; exact hv
    · rw [if_neg hdt]
      have : (xs.setIfInBounds d x).getD t undef = xs.getD t undef := by simp [Array.getElem?_setIfInBounds_ne hdt]
      rw [this]; exact h.r t

/-- What is known of a temporary that is there. -/
theorem TsOk.get {ts : Ts} {xs : Array Value} (h : TsOk env ρ ts xs) {t : Nat} {c : C} (hc : getT ts t = c) (hu : ¬ c.r env ρ [undef]) : ∃ x, xs[t]? = some x ∧ c.r env ρ [x] := by
  have hr := h.r t
  rw [hc] at hr
  cases hx : xs[t]? with
  | none =>
    have : xs.getD t undef = undef := by simp [hx]
    rw [this] at hr
    exact absurd hr hu
  | some x =>
    have : xs.getD t undef = x := by simp [hx]
    rw [this] at hr
    exact ⟨x, rfl, hr⟩

theorem evO_r (h : TsOk env ρ s.ts a.tmps) (x : Operand) : (evO s.ts x).r env ρ [a.eval x] := by
  cases x with
  | tmp t => exact h.r t
  | const v => exact ofV_r ..
  | global g => rfl
  | func f => exact ⟨[], [], rfl, rfl, rfl⟩

theorem add_block (g o n : Nat) : (⟨g, o, none⟩ : Addr).add n = ⟨g, o + n, none⟩ := by unfold Addr.add; split <;> simp_all

theorem run_info {t : TypeId} {i : TypeInfo} (h : P.info? t = some i) (w : World) : (typeInfo t).run P w = .ok i w := by
  simp [typeInfo, h]

theorem run_size {t : TypeId} {i : TypeInfo} (h : P.info? t = some i) (w : World) : (sizeOf t).run P w = .ok i.size w := by
  simp [sizeOf, run_info h]

theorem aggSize_some {t : TypeId} {n : Nat} (h : aggSize P t = some (some n)) : ∃ d i, P.underlying t = some d ∧ (match d with | .struct _ | .array _ _ => true | _ => false) = true ∧ P.info? t = some i ∧ i.size = n := by
  unfold aggSize at h
  split at h
  · rename_i fs hu
    cases hi : P.info? t with
    | none => simp [hi] at h
    | some i => simp [hi] at h; exact ⟨_, i, hu, rfl, rfl, h⟩
  · rename_i n' e hu
    cases hi : P.info? t with
    | none => simp [hi] at h
    | some i => simp [hi] at h; exact ⟨_, i, hu, rfl, rfl, h⟩
  · simp at h
  · simp at h

theorem aggSize_none {t : TypeId} (h : aggSize P t = some none) : ∃ d, P.underlying t = some d ∧ (match d with | .struct _ | .array _ _ => true | _ => false) = false := by
  unfold aggSize at h
  split at h
  · cases hi : P.info? t <;> simp [hi] at h
  · cases hi : P.info? t <;> simp [hi] at h
  · rename_i d h1 h2 hu
    refine ⟨d, hu, ?_⟩
    split
    · exact (h1 _ rfl).elim
    · exact (h2 _ _ rfl).elim
    · rfl
  · simp at h


theorem Rels.getL {cs : List C} {xs : List Value} (h : Rels env ρ cs xs) {i : Nat} {c : C} (hc : Go.Sx.getL cs i = some c) : ∃ x, xs[i]? = some x ∧ c.r env ρ [x] := by
  rw [getL_eq] at hc
  have hlt : i < xs.length := by rw [← h.1]; exact (List.getElem?_eq_some_iff.1 hc).1
  exact ⟨xs[i], List.getElem?_eq_getElem hlt, h.2 i c _ hc (List.getElem?_eq_getElem hlt)⟩

theorem Rels.sub {cs : List C} {xs : List Value} (h : Rels env ρ cs xs) (o n : Nat) : Rels env ρ ((cs.drop o).take n) ((xs.drop o).take n) := by
  refine ⟨by simp [h.1], fun i c x hc hx => ?_⟩
  rw [List.getElem?_take] at hc hx
  split at hc
  · rename_i hlt
    rw [if_pos hlt] at hx
    rw [List.getElem?_drop] at hc hx
    exact h.2 _ c x hc hx
  · cases hc

theorem cell_at {w : World} {g o : Nat} {xs : List Value} {ty : TypeId} {fr : Nat × Nat} (hg : w.heap[g]? = some (.cells xs.toArray ty fr)) : w.cell? ⟨g, o, none⟩ = xs[o]? := by
  simp [World.cell?, hg]

/-- A load out of cells that are known, in whatever world holds them. -/
theorem loadVar_cells {t : TypeId} {cs : List C} {o : Nat} {v : C} {xs : List Value} (hv : partC P t cs o = some v) (hr : Rels env ρ cs xs) :
    ∃ x, v.r env ρ [x] ∧ ∀ (w : World) (g b : Nat), (∀ (j : Nat) (u : Value), xs[j]? = some u → w.cell? ⟨g, b + j, none⟩ = some u) → (loadVar t ⟨g, b + o, none⟩).run P w = .ok x w := by
  rw [partC_eq] at hv
  split at hv
  · rename_i n hn
    obtain ⟨d, i, hu, hd, hi, hs⟩ := aggSize_some hn
    split at hv
    · rename_i hle
      have hle' : o + n ≤ xs.length := by rw [← hr.1]; simpa using hle
      simp only [Option.some.injEq] at hv; subst hv
      refine ⟨.agg ((xs.drop o).take n).toArray, ⟨_, toC_r.2 (hr.sub o n), rfl⟩, fun w g b hg => ?_⟩
      have hl : (loadCells ⟨g, b + o, none⟩ ((xs.drop o).take n).length).run P w = .ok ((xs.drop o).take n).toArray w :=
        run_loadCells_list (P := P) w ⟨g, b + o, none⟩ _ (fun j v hv => by
          rw [add_block, Nat.add_assoc]
          apply hg
          rw [List.getElem?_take] at hv
          split at hv
          · rw [List.getElem?_drop] at hv; exact hv
          · cases hv)
      have hlen : ((xs.drop o).take n).length = n := by simp; omega
      rw [hlen] at hl
      have hagg : (isAgg t).run P w = .ok true w := by
        unfold isAgg
        rw [Sem.run_bind, run_underlying hu w]
        cases d <;> simp_all
      simp [loadVar, Sem.run_bind, hagg, run_size hi, hs, hl]
    · cases hv
  · rename_i hn
    obtain ⟨d, hu, hd⟩ := aggSize_none hn
    obtain ⟨x, hx, hrx⟩ := hr.getL hv
    refine ⟨x, hrx, fun w g b hg => ?_⟩
    have hagg : (isAgg t).run P w = .ok false w := by
      unfold isAgg
      rw [Sem.run_bind, run_underlying hu w]
      cases d <;> simp_all
    simp [loadVar, Sem.run_bind, hagg, hg o x hx]
  · cases hv

/-- A load out of a known block, in whatever world holds that block. -/
theorem loadVar_part {t : TypeId} {cs : List C} {o : Nat} {v : C} {xs : List Value} (hv : partC P t cs o = some v) (hr : Rels env ρ cs xs) :
    ∃ x, v.r env ρ [x] ∧ ∀ (w : World) (g : Nat) (tl : List Value) (ty : TypeId) (fr : Nat × Nat), w.heap[g]? = some (.cells (xs ++ tl).toArray ty fr) → (loadVar t ⟨g, o, none⟩).run P w = .ok x w := by
  obtain ⟨x, hx, h⟩ := loadVar_cells (P := P) hv hr
  refine ⟨x, hx, fun w g tl ty fr hg => ?_⟩
  have := h w g 0 (fun j u hu => by rw [cell_at hg, Nat.zero_add, List.getElem?_append_left (List.getElem?_eq_some_iff.1 hu).1]; exact hu)
  rwa [Nat.zero_add] at this

/-- A part of a row of cells at hand. -/
theorem part_part {t : TypeId} {cs : List C} {o : Nat} {v : C} {xs : List Value} (hv : partC P t cs o = some v) (hr : Rels env ρ cs xs) :
    ∃ x, v.r env ρ [x] ∧ ∀ (w : World), (part t xs.toArray o).run P w = .ok x w := by
  rw [partC_eq] at hv
  split at hv
  · rename_i n hn
    obtain ⟨d, i, hu, hd, hi, hs⟩ := aggSize_some hn
    split at hv
    · rename_i hle
      have hle' : o + n ≤ xs.length := by rw [← hr.1]; simpa using hle
      simp only [Option.some.injEq] at hv; subst hv
      refine ⟨.agg ((xs.drop o).take n).toArray, ⟨_, toC_r.2 (hr.sub o n), rfl⟩, fun w => ?_⟩
      have hagg : (isAgg t).run P w = .ok true w := by
        unfold isAgg
        rw [Sem.run_bind, run_underlying hu w]
        cases d <;> simp_all
      simp only [part, Sem.run_bind, hagg, Result.andThen_ok, run_size hi, hs, Sem.run_pure, if_true]
      congr 2
      simp [List.extract_eq_take_drop]
    · cases hv
  · rename_i hn
    obtain ⟨d, hu, hd⟩ := aggSize_none hn
    obtain ⟨x, hx, hrx⟩ := hr.getL hv
    refine ⟨x, hrx, fun w => ?_⟩
    have hagg : (isAgg t).run P w = .ok false w := by
      unfold isAgg
      rw [Sem.run_bind, run_underlying hu w]
      cases d <;> simp_all
    simp [part, Sem.run_bind, hagg, hx]
  · cases hv

/-! ### Operations on whole numbers -/

theorem intCmp_run (o : BinOp) (x y : Int) (w : World) (ho : o = .eql ∨ o = .neq ∨ o = .lss ∨ o = .leq ∨ o = .gtr ∨ o = .geq) (k : IntKind) :
    (Op.intCmp o x y).run P w = .ok (.bool (decide (binDen o k x y ≠ 0))) w := by
  have hb : ∀ b : Bool, decide (b2i b ≠ 0) = b := fun b => by cases b <;> rfl
  rcases ho with rfl | rfl | rfl | rfl | rfl | rfl <;> (simp only [Op.intCmp, binDen, Sem.run_pure]; congr 2; exact (hb _).symm)

theorem int_r {k : IntKind} {e : E} {x : Value} (h : (C.int k e).r env ρ [x]) : x = .int k (e.den env) := by have := h.1; simpa using this
theorem int_in {k : IntKind} {e : E} {xs : List Value} (h : (C.int k e).r env ρ xs) : InK k (e.den env) := h.2
theorem bool_r {e : E} {x : Value} (h : (C.bool e).r env ρ [x]) : x = .bool (e.tt env) := by simpa [C.r] using h

theorem tt_mkBin (o : BinOp) (k : IntKind) (a b : E) : (mkBin o k a b).tt env = decide (binDen o k (a.den env) (b.den env) ≠ 0) := by
  unfold E.tt; rw [mkBin_den]

theorem evBin_ok {o : BinOp} {cx cy v : C} {n : E} {x y : Value} (h : evBin o cx cy = some (v, n)) (hn : n.tt env = true) (hx : cx.r env ρ [x]) (hy : cy.r env ρ [y]) (t : TypeId) :
    ∃ z, v.r env ρ [z] ∧ ∀ w, (binOp o t x y).run P w = .ok z w := by
  unfold evBin at h
  split at h
  · rename_i k a k' b
    have ka := int_in hx
    have hx := int_r hx
    have hy := int_r hy
    subst hx hy
    have hin : ∀ o, (o ≠ .eql ∧ o ≠ .neq ∧ o ≠ .lss ∧ o ≠ .leq ∧ o ≠ .gtr ∧ o ≠ .geq) → InK k ((mkBin o k a b).den env) := fun o ho => by rw [mkBin_den]; exact binDen_in ka _ ho
    cases o
    case shl =>
      simp only [Option.some.injEq, Prod.mk.injEq] at h
      obtain ⟨rfl, rfl⟩ := h
      have hnn : ¬ (b.den env < 0) := by
        rw [tt_mkBin] at hn; simp [binDen, b2i, E.den, E.d] at hn; simp [E.den]; omega
      refine ⟨_, ⟨rfl, hin _ (by simp)⟩, fun w => ?_⟩
      simp only [binOp, Op.shift, mkBin_den, binDen, Sem.run_pure, if_neg hnn]
    case shr =>
      simp only [Option.some.injEq, Prod.mk.injEq] at h
      obtain ⟨rfl, rfl⟩ := h
      have hnn : ¬ (b.den env < 0) := by
        rw [tt_mkBin] at hn; simp [binDen, b2i, E.den, E.d] at hn; simp [E.den]; omega
      refine ⟨_, ⟨rfl, hin _ (by simp)⟩, fun w => ?_⟩
      simp only [binOp, Op.shift, mkBin_den, binDen, Sem.run_pure, if_neg hnn]
    case quo =>
      simp only [] at h
      split at h <;> simp only [Option.some.injEq, Prod.mk.injEq, reduceCtorEq] at h
      rename_i hk; have hk := sameKind_iff.1 hk; subst hk
      obtain ⟨rfl, rfl⟩ := h
      have hnn : ¬ (b.den env = 0) := by
        rw [tt_mkBin] at hn; simp [binDen, b2i, E.den, E.d] at hn; simpa [E.den] using hn
      refine ⟨_, ⟨rfl, hin _ (by simp)⟩, fun w => ?_⟩
      simp [binOp, Op.intDiv, mkBin_den, binDen, hnn]
    case rem =>
      simp only [] at h
      split at h <;> simp only [Option.some.injEq, Prod.mk.injEq, reduceCtorEq] at h
      rename_i hk; have hk := sameKind_iff.1 hk; subst hk
      obtain ⟨rfl, rfl⟩ := h
      have hnn : ¬ (b.den env = 0) := by
        rw [tt_mkBin] at hn; simp [binDen, b2i, E.den, E.d] at hn; simpa [E.den] using hn
      refine ⟨_, ⟨rfl, hin _ (by simp)⟩, fun w => ?_⟩
      simp [binOp, Op.intDiv, mkBin_den, binDen, hnn]
    all_goals
      simp only [] at h
      split at h <;> simp only [Option.some.injEq, Prod.mk.injEq, reduceCtorEq] at h
      rename_i hk; have hk := sameKind_iff.1 hk; subst hk
      obtain ⟨rfl, rfl⟩ := h
      first
        | (refine ⟨_, rfl, fun w => ?_⟩; simp only [binOp, ne_eq, not_true, if_false, tt_mkBin]; exact intCmp_run _ _ _ w (by simp) k)
        | (refine ⟨_, ⟨rfl, hin _ (by simp)⟩, fun w => ?_⟩; simp [binOp, Op.intArith, Op.intBits, mkBin_den, binDen])
  · cases h

end
end Go.Sx
