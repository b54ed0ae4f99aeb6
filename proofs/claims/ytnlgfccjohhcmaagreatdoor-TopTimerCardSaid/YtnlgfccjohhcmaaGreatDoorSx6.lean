/-
  The symbolic executor: more of the operations that read no memory. No condition.
-/
import Derived.Test.YtnlgfccjohhcmaaGreatDoorSx5
namespace Go.Sx
open Go.RowKit

section
variable {env : Env} {ρ : List Nat} {P : Program}

theorem evIndex_ok {t : TypeId} {c ci v : C} {x y : Value} (h : evIndex P t c ci = some v) (hx : c.r env ρ [x]) (hy : ci.r env ρ [y]) :
    ∃ z, v.r env ρ [z] ∧ ∀ w, (Instr.index t x y).run P w = .ok z w := by
  unfold evIndex at h
  split at h
  · rename_i len e hu
    split at h
    · rename_i l k i
      split at h
      · rename_i cs inf h1 hi
        split at h
        · rename_i hlt
          have hlt' : i < len := by simpa using hlt
          obtain ⟨xs, rfl, hxs⟩ := agg_r hx
          have := int_r hy; subst y
          obtain ⟨z, hz, hp⟩ := part_part (P := P) h (ofC_r h1 hxs)
          refine ⟨z, hz, fun w => ?_⟩
          have hd : (E.lit (i : Int)).den env = (i : Int) := rfl
          simp [Instr.index, asIntOf, run_underlying hu, run_size hi, hd, hlt', hp]
        · cases h
      · cases h
    · cases h
  · cases h

theorem evField_ok {t : TypeId} {c v : C} {f : Nat} {x : Value} (h : evField P t c f = some v) (hx : c.r env ρ [x]) :
    ∃ z, v.r env ρ [z] ∧ ∀ w, (Instr.field t x f).run P w = .ok z w := by
  unfold evField at h
  split at h
  · rename_i fs hu
    split at h
    · rename_i fl l hf
      split at h
      · rename_i cs h1
        have hf' : fs[f]? = some fl := by rw [getL_eq] at hf; simpa using hf
        obtain ⟨xs, rfl, hxs⟩ := agg_r hx
        obtain ⟨z, hz, hp⟩ := part_part (P := P) h (ofC_r h1 hxs)
        refine ⟨z, hz, fun w => ?_⟩
        simp [Instr.field, run_underlying hu, hf', asAgg, hp]
      · cases h
    · cases h
  · cases h

theorem evUn_ok {o : UnOp} {c v : C} {x : Value} (h : evUn o c = some v) (hx : c.r env ρ [x]) :
    ∃ z, v.r env ρ [z] ∧ ∀ w, (Op.unary o x).run P w = .ok z w := by
  unfold evUn at h
  split at h
  · split at h <;> simp only [Option.some.injEq, reduceCtorEq] at h
    subst h
    have := bool_r hx; subst x
    exact ⟨_, rfl, fun w => by simp [Op.unary, notE_tt]⟩
  · split at h <;> simp only [Option.some.injEq, reduceCtorEq] at h
    subst h
    have := int_r hx; subst x
    exact ⟨_, ⟨rfl, by rw [mkBin_den]; exact inK_wrap _ _⟩, fun w => by simp only [Op.unary, Op.intArith, mkBin_den, binDen, Sem.run_pure, den_lit]⟩
  · split at h <;> simp only [Option.some.injEq, reduceCtorEq] at h
    subst h
    have := int_r hx; subst x
    exact ⟨_, ⟨rfl, by rw [mkBin_den]; exact inK_wrap _ _⟩, fun w => by simp only [Op.unary, Op.intBits, mkBin_den, binDen, Sem.run_pure, den_lit]⟩
  · cases h

theorem evConv_ok {src dst : TypeId} {c v : C} {x : Value} (h : evConv P src dst c = some v) (hx : c.r env ρ [x]) :
    ∃ z, v.r env ρ [z] ∧ ∀ w, (convert src dst x).run P w = .ok z w := by
  unfold evConv at h
  split at h
  · cases h
  rename_i d hd
  split at h
  · rename_i k hu
    split at h
    · simp only [Option.some.injEq] at h; subst h
      have := int_r hx; subst x
      refine ⟨_, ⟨rfl, by rw [mkConv_den]; exact inK_wrap _ _⟩, fun w => ?_⟩
      simp only [convert, Sem.run_bind, run_underlying hd, run_underlying hu, Result.andThen_ok]
      simp [Conv.intToInt, mkConv_den]
    · cases h
  · cases h

theorem evAssert_ok {t xt : TypeId} {c v : C} {ok : Bool} {x : Value} (h : evAssert P c t ok = some v) (hx : c.r env ρ [x]) :
    ∃ z, v.r env ρ [z] ∧ ∀ w, (Instr.typeAssert x xt t ok).run P w = .ok z w := by
  unfold evAssert at h
  split at h
  · rename_i u cv
    obtain ⟨y, hy, rfl⟩ := iface_r hx
    have ht : C.r env ρ (.bool (.lit 1)) [.bool true] := by simp [C.r, tt_lit, intBeq_eq]
    have hf : C.r env ρ (.bool (.lit 0)) [.bool false] := by simp [C.r, tt_lit, intBeq_eq]
    split at h
    · cases h
    · rename_i d hni hu
      split at h
      · rename_i hut
        obtain rfl : u = t := by simpa using hut
        simp only [Option.some.injEq] at h; subst h
        cases ok
        · refine ⟨y, hy, fun w => ?_⟩
          cases d <;> first | exact absurd rfl (hni _) | simp [Instr.typeAssert, run_underlying hu]
        · refine ⟨.tuple #[y, .bool true], ⟨[y, .bool true], toC_r.2 (.cons hy (.cons ht .nil)), rfl⟩, fun w => ?_⟩
          cases d <;> first | exact absurd rfl (hni _) | simp [Instr.typeAssert, run_underlying hu]
      · rename_i hut
        have hut' : u ≠ t := by simpa using hut
        split at h
        · rename_i hok; subst hok
          split at h
          · rename_i inf hi
            split at h
            · rename_i z hz
              simp only [Option.some.injEq] at h; subst h
              refine ⟨.tuple #[z, .bool false], ⟨[z, .bool false], toC_r.2 (.cons (ofV_r ..) (.cons hf .nil)), rfl⟩, fun w => ?_⟩
              have hzv : (zeroValue t).run P w = .ok z w := by simp [zeroValue, run_info hi, hz]
              cases d <;> first | exact absurd rfl (hni _) | simp [Instr.typeAssert, run_underlying hu, hut', hzv]
            · cases h
          · cases h
        · cases h
    · cases h
  · cases h

theorem evMkIface_ok {t : TypeId} {c v : C} {x : Value} (h : evMkIface P t c = some v) (hx : c.r env ρ [x]) :
    ∃ z, v.r env ρ [z] ∧ ∀ w, (Instr.makeInterface t x).run P w = .ok z w := by
  unfold evMkIface at h
  split at h
  · cases h
  · rename_i d hni hu
    simp only [Option.some.injEq] at h; subst h
    refine ⟨_, ⟨x, hx, rfl⟩, fun w => ?_⟩
    cases d <;> first | exact absurd rfl (hni _) | simp [Instr.makeInterface, run_underlying hu]
  · cases h

/-- What a nil check does to a value that is known. -/
theorem evNilCheck_ok {o : Oper} {a : Act} {c v : C} {xo : Operand} (ho : o.op = .nilCheck xo) (h : evNilCheck c = some v) (hx : c.r env ρ [a.eval xo]) :
    v.r env ρ [a.eval xo] ∧ ∀ w, (execOp a.eval o).run P w = .ok (.value (a.eval xo)) w := by
  unfold evNilCheck at h
  split at h <;> simp only [Option.some.injEq, reduceCtorEq] at h
  · subst h; refine ⟨hx, fun w => ?_⟩
    obtain ⟨g, hg, he⟩ := ptr_r hx
    simp [execOp, ho, he]
  · subst h; refine ⟨hx, fun w => ?_⟩
    rename_i b
    have he : a.eval xo = .pointer (some b) := by simpa [C.r] using hx
    simp [execOp, ho, he]
  · subst h; refine ⟨hx, fun w => ?_⟩
    obtain ⟨g, hg, _, _, he⟩ := optr_r hx
    simp [execOp, ho, he]
  · subst h; refine ⟨hx, fun w => ?_⟩
    obtain ⟨as, bs, _, _, he⟩ := fn_r hx
    simp [execOp, ho, he]
  · subst h; refine ⟨hx, fun w => ?_⟩
    obtain ⟨y, _, he⟩ := iface_r hx
    simp [execOp, ho, he]

theorem evLen_ok {t : TypeId} {c v : C} {x : Value} (h : evLen P t c = some v) (hx : c.r env ρ [x]) (hsl : ∀ j, (env.sl j).2.1 ≤ 9223372036854775807) (ty : TypeId) :
    ∃ z, v.r env ρ [z] ∧ ∀ w, (Builtin.len_ #[t] ty #[x]).run P w = .ok z w := by
  have hin : ∀ n : Nat, n ≤ 9223372036854775807 → InK .i64 (n : Int) := fun n hn => by
    have h1 : IntKind.i64.min = -9223372036854775808 := by decide
    have h2 : IntKind.i64.max = 9223372036854775807 := by decide
    exact ⟨by omega, by omega⟩
  unfold evLen at h
  split at h
  · rename_i e hu
    split at h
    · split at h <;> simp only [Option.some.injEq, reduceCtorEq] at h
      rename_i hle
      have hle := Nat.le_of_ble_eq_true hle
      subst h
      obtain ⟨g, _, hg, _, rfl⟩ := sl_r hx
      exact ⟨_, ⟨rfl, hin _ (by omega)⟩, fun w => by simp [Builtin.len_, run_underlying hu, goInt, E.den, E.d]⟩
    · rename_i i
      simp only [Option.some.injEq] at h
      subst h
      simp only [C.r, List.cons.injEq, and_true] at hx; subst hx
      exact ⟨_, ⟨rfl, hin _ (hsl i)⟩, fun w => by simp [Builtin.len_, run_underlying hu, goInt, E.den, E.d]⟩
    · simp only [Option.some.injEq] at h
      subst h
      simp only [C.r, List.cons.injEq, and_true] at hx; subst hx
      exact ⟨_, ⟨rfl, hin 0 (by omega)⟩, fun w => by simp [Builtin.len_, run_underlying hu, goInt, E.den, E.d]⟩
    · cases h
  · rename_i hu
    split at h
    · split at h <;> simp only [Option.some.injEq, reduceCtorEq] at h
      rename_i hle
      have hle := Nat.le_of_ble_eq_true hle
      subst h
      simp only [C.r, List.cons.injEq, and_true] at hx; subst hx
      exact ⟨_, ⟨rfl, hin _ (by omega)⟩, fun w => by simp [Builtin.len_, run_underlying hu, goInt, E.den, E.d]⟩
    · cases h
  · cases h

/-! ### Composite literals -/

theorem storeC_nil : ∀ (cs : List C) (o : Nat), storeC cs o [] = cs := by
  intro cs
  induction cs with
  | nil => intro o; rfl
  | cons c cs ih => intro o; cases o with
    | zero => rfl
    | succ o => rw [storeC_succ, ih]

theorem storeC_cons (v : C) (vs : List C) : ∀ (cs : List C) (o : Nat), storeC cs o (v :: vs) = storeC (cs.set o v) (o + 1) vs := by
  intro cs
  induction cs with
  | nil => intro o; rfl
  | cons c cs ih => intro o; cases o with
    | zero => rfl
    | succ o => rw [storeC_succ, List.set_cons_succ, storeC_succ, ih]

theorem storeC_length : ∀ (vs cs : List C) (o : Nat), (storeC cs o vs).length = cs.length := by
  intro vs
  induction vs with
  | nil => intro cs o; rw [storeC_nil]
  | cons v vs ih => intro cs o; simp [storeC_cons, ih]

/-- Cells written one behind the other, from place 'o' on. -/
def storeVs : List Value → Nat → List Value → List Value
  | cs, _, [] => cs
  | cs, o, v :: vs => storeVs (cs.set o v) (o + 1) vs

theorem Rels.set {cs : List C} {xs : List Value} (h : Rels env ρ cs xs) (o : Nat) {c : C} {x : Value} (hc : c.r env ρ [x]) : Rels env ρ (cs.set o c) (xs.set o x) := by
  refine ⟨by simp [h.1], fun i c' x' h1 h2 => ?_⟩
  rw [List.getElem?_set] at h1 h2
  split at h1
  · rename_i ho
    rw [if_pos ho] at h2
    split at h1
    · rename_i hlt
      rw [if_pos (by rw [← h.1]; exact hlt)] at h2
      simp only [Option.some.injEq] at h1 h2; subst h1 h2; exact hc
    · cases h1
  · rename_i ho
    rw [if_neg ho] at h2
    exact h.2 i c' x' h1 h2

theorem storeC_rels : ∀ {vs : List C} {us : List Value} {cs : List C} {xs : List Value} (o : Nat), Rels env ρ cs xs → Rels env ρ vs us → Rels env ρ (storeC cs o vs) (storeVs xs o us) := by
  intro vs
  induction vs with
  | nil => intro us cs xs o h hv; have := hv.1; cases us with
    | nil => rw [storeC_nil]; exact h
    | cons => simp at this
  | cons v vs ih =>
    intro us cs xs o h hv
    obtain ⟨u, us', rfl, h1, h2⟩ := hv.uncons
    simp only [storeC_cons, storeVs]
    exact ih (o + 1) (h.set o h1) h2

theorem zipIdx_fold (o : Nat) : ∀ (us : List Value) (k : Nat) (cs : Array Value),
    (us.zipIdx k).foldl (fun cs (c, j) => cs.setIfInBounds (o + j) c) cs = (storeVs cs.toList (o + k) us).toArray := by
  intro us
  induction us with
  | nil => intro k cs; simp [storeVs]
  | cons u us ih =>
    intro k cs
    simp only [List.zipIdx_cons, List.foldl_cons, storeVs]
    rw [ih]
    simp [Nat.add_assoc]

theorem cellsOfC_r {c : C} {vs : List C} {x : Value} (h : cellsOfC c = some vs) (hx : c.r env ρ [x]) : Rels env ρ vs x.cells.toList ∧ (∀ us, x ≠ .tuple us) := by
  unfold cellsOfC at h
  split at h
  · obtain ⟨ys, rfl, hys⟩ := agg_r hx
    exact ⟨by simpa [Value.cells] using ofC_r h hys, by simp⟩
  · rename_i hna
    split at h
    · rename_i hcell
      simp only [Option.some.injEq] at h; subst h
      have key : x.cells.toList = [x] ∧ ∀ us, x ≠ .tuple us := by
        cases c with
        | agg l => exact absurd rfl (hna l)
        | tup l => simp [C.isCell] at hcell
        | bad => simp [C.isCell] at hcell
        | cons a b => simp [C.isCell] at hcell
        | nil => simp [C.isCell] at hcell
        | ptr b o => obtain ⟨g, hg, rfl⟩ := ptr_r hx; simp [Value.cells]
        | optr i e s o => obtain ⟨g, hg, _, _, rfl⟩ := optr_r hx; simp [Value.cells]
        | sl b o n k => obtain ⟨g, _, hg, _, rfl⟩ := sl_r hx; simp [Value.cells]
        | map b => obtain ⟨g, hg, rfl⟩ := map_r hx; simp [Value.cells]
        | fn f a b => obtain ⟨as, bs, _, _, rfl⟩ := fn_r hx; simp [Value.cells]
        | int k e => have := int_r hx; subst this; simp [Value.cells]
        | iface t v => obtain ⟨y, _, rfl⟩ := iface_r hx; simp [Value.cells]
        | such p => obtain ⟨a, n, c, hx, _⟩ := hx; simp only [List.cons.injEq, and_true] at hx; subst hx; simp [Value.cells]
        | _ => simp only [C.r, List.cons.injEq, and_true] at hx; subst hx; simp [Value.cells]
      rw [key.1]
      exact ⟨.cons hx .nil, key.2⟩
    · cases h

theorem fillC_ok (place : Nat → Option (Nat × Nat)) : ∀ (parts : List (Nat × C)) (vals : List (Nat × Value)) (cs cs' : List C) (xs : List Value),
    fillC place cs parts = some cs' → parts.length = vals.length → (∀ (i : Nat) (p : Nat × C) (q : Nat × Value), parts[i]? = some p → vals[i]? = some q → p.1 = q.1 ∧ p.2.r env ρ [q.2]) → Rels env ρ cs xs →
    ∃ xs' : List Value, Instr.fill place xs.toArray vals = some xs'.toArray ∧ Rels env ρ cs' xs' := by
  intro parts
  induction parts with
  | nil =>
    intro vals cs cs' xs h hl _ hr
    cases vals with
    | nil => simp only [fillC, Option.some.injEq] at h; subst h; exact ⟨xs, rfl, hr⟩
    | cons => simp at hl
  | cons p parts ih =>
    intro vals cs cs' xs h hl hp hr
    obtain ⟨i, v⟩ := p
    cases vals with
    | nil => simp at hl
    | cons q vals =>
      obtain ⟨j, u⟩ := q
      obtain ⟨h1, h2⟩ := hp 0 _ _ rfl rfl
      simp only at h1 h2; subst h1
      simp only [fillC] at h
      split at h
      · rename_i off size vs hpl hv
        split at h
        · rename_i hc
          simp only [Bool.and_eq_true, Nat.beq_eq, Nat.ble_eq, lenL_eq] at hc
          obtain ⟨hus, _⟩ := cellsOfC_r hv h2
          have hlen : u.cells.size = vs.length := by rw [hus.1]; simp
          have hrs := storeC_rels off hr hus
          obtain ⟨xs', hf, hr'⟩ := ih vals _ cs' (storeVs xs off u.cells.toList) h (by simpa using hl) (fun i p q hp' hq' => hp (i + 1) p q (by simpa using hp') (by simpa using hq')) hrs
          refine ⟨xs', ?_, hr'⟩
          have hz := zipIdx_fold off u.cells.toList 0 xs.toArray
          simp only [Instr.fill, hpl]
          have hl1 := hr.1
          rw [if_neg (by
            rw [hlen, hc.1]
            have h3 : ¬ (xs.toArray.size < off + size) := by simp; omega
            simp only [ne_eq, not_true, decide_false, Bool.false_or, decide_eq_true_eq, gt_iff_lt]
            exact h3)]
          have hz' : u.cells.zipIdx.foldl (fun cs (c, j) => cs.setIfInBounds (off + j) c) xs.toArray = (storeVs xs off u.cells.toList).toArray := by
            rw [← Array.foldl_toList, Array.toList_zipIdx]
            simpa using hz
          rw [hz']
          exact hf
        · cases h
      · cases h

end
end Go.Sx
