/-
  The symbolic executor: the operations that read no memory do what it says. No condition.
-/
import Derived.Test.YtnlgfccjohhcmaaGreatDoorSx4
import Derived.ChangeKeysEq
namespace Go.Sx
open Go.RowKit

section
variable {env : Env} {ρ : List Nat} {P : Program}

theorem agg_r {l : C} {x : Value} (h : (C.agg l).r env ρ [x]) : ∃ ys : List Value, x = .agg ys.toArray ∧ l.r env ρ ys := by
  obtain ⟨ys, h1, h2⟩ := h; simp at h2; exact ⟨ys, h2, h1⟩

theorem tup_r {l : C} {x : Value} (h : (C.tup l).r env ρ [x]) : ∃ ys : List Value, x = .tuple ys.toArray ∧ l.r env ρ ys := by
  obtain ⟨ys, h1, h2⟩ := h; simp at h2; exact ⟨ys, h2, h1⟩

theorem ptr_r {b o : Nat} {x : Value} (h : (C.ptr b o).r env ρ [x]) : ∃ g, ρ[b]? = some g ∧ x = .pointer (some ⟨g, o, none⟩) := by
  obtain ⟨g, h1, h2⟩ := h; simp at h2; exact ⟨g, h1, h2⟩

theorem optr_r {i s o : Nat} {e : E} {x : Value} (h : (C.optr i e s o).r env ρ [x]) : ∃ a, (env.sl i).1 = some a ∧ 0 ≤ e.den env ∧ e.den env < (env.sl i).2.1 ∧ x = .pointer (some ⟨a.block, a.off + (e.den env).toNat * s + o, none⟩) := by
  obtain ⟨g, h1, h2, h3, h4⟩ := h; simp at h4; exact ⟨g, h1, h2, h3, h4⟩

theorem sl_r {b o n c : Nat} {x : Value} (h : (C.sl b o n c).r env ρ [x]) : ∃ g k, ρ[b]? = some g ∧ (c ≠ 0 → k = c) ∧ x = .slice (some ⟨g, o, none⟩) n k := by
  obtain ⟨g, k, h1, h2, h3⟩ := h; simp at h3; exact ⟨g, k, h1, h2, h3⟩

theorem map_r {b : Nat} {x : Value} (h : (C.map b).r env ρ [x]) : ∃ g, ρ[b]? = some g ∧ x = .map (some g) := by
  obtain ⟨g, h1, h2⟩ := h; simp at h2; exact ⟨g, h1, h2⟩

theorem fn_r {f : Fn} {a b : C} {x : Value} (h : (C.fn f a b).r env ρ [x]) : ∃ as bs : List Value, a.r env ρ as ∧ b.r env ρ bs ∧ x = .func f as.toArray bs.toArray := by
  obtain ⟨as, bs, h1, h2, h3⟩ := h; simp at h3; exact ⟨as, bs, h1, h2, h3⟩

theorem iface_r {t : TypeId} {v : C} {x : Value} (h : (C.iface t v).r env ρ [x]) : ∃ y, v.r env ρ [y] ∧ x = .iface t y := by
  obtain ⟨y, h1, h2⟩ := h; simp at h2; exact ⟨y, h1, h2⟩

theorem b2i_dec (b : Bool) : decide (b2i b ≠ 0) = b := by cases b <;> rfl

/-! ### '==' -/

theorem andE_tt (a b : E) : (andE a b).tt env = (a.tt env && b.tt env) := by
  unfold andE; rw [mkIteB_tt]; cases a.tt env <;> simp [tt_lit, intBeq_eq]

theorem fields_eq {t : TypeId} {fs : Array Field} (h : P.underlying t = some (.struct fs)) : P.fieldsOf t = fs := by
  simp [Program.fieldsOf, h]

theorem eqFs_ok (rec : TypeId → C → C → Option E) (D : Nat)
    (hrec : ∀ t x y e vx vy, rec t x y = some e → x.r env ρ [vx] → y.r env ρ [vy] → ∀ w, (Op.equalIn D t vx vy).run P w = .ok (e.tt env) w)
    {cs ds : List C} {xs ys : List Value} (hx : Rels env ρ cs xs) (hy : Rels env ρ ds ys) :
    ∀ (fs : List Field) (e : E), eqFs P rec cs ds fs = some e → ∀ w, (Op.eqFields D xs.toArray ys.toArray fs).run P w = .ok (e.tt env) w := by
  intro fs
  induction fs with
  | nil => intro e h w; simp only [eqFs, Option.some.injEq] at h; subst h; simp [Op.eqFields, tt_lit, intBeq_eq]
  | cons f fs ih =>
    intro e h w
    simp only [eqFs] at h
    split at h
    · cases h
    rename_i hn
    have hn' : f.name ≠ "_" := by simpa using hn
    split at h
    · rename_i cx cy h1 h2
      split at h
      · rename_i e1 he1
        split at h
        · rename_i e2 he2
          simp only [Option.some.injEq] at h; subst h
          obtain ⟨vx, r1, p1⟩ := part_part (P := P) h1 hx
          obtain ⟨vy, r2, p2⟩ := part_part (P := P) h2 hy
          have hq := hrec _ _ _ _ _ _ he1 r1 r2 w
          simp only [Op.eqFields, hn', ne_eq, not_false_eq_true, if_true, Sem.run_bind, p1, p2, Result.andThen_ok, hq, andE_tt]
          cases e1.tt env
          · simp
          · simpa using ih e2 he2 w
        · cases h
      · cases h
    · cases h

theorem eqAs_ok (rec : TypeId → C → C → Option E) (D : Nat)
    (hrec : ∀ t x y e vx vy, rec t x y = some e → x.r env ρ [vx] → y.r env ρ [vy] → ∀ w, (Op.equalIn D t vx vy).run P w = .ok (e.tt env) w)
    {cs ds : List C} {xs ys : List Value} (hx : Rels env ρ cs xs) (hy : Rels env ρ ds ys) (elem : TypeId) (size : Nat) :
    ∀ (is : List Nat) (e : E), eqAs P rec cs ds elem size is = some e → ∀ w, (Op.eqItems D elem size xs.toArray ys.toArray is).run P w = .ok (e.tt env) w := by
  intro is
  induction is with
  | nil => intro e h w; simp only [eqAs, Option.some.injEq] at h; subst h; simp [Op.eqItems, tt_lit, intBeq_eq]
  | cons i is ih =>
    intro e h w
    simp only [eqAs] at h
    split at h
    · rename_i cx cy h1 h2
      split at h
      · rename_i e1 he1
        split at h
        · rename_i e2 he2
          simp only [Option.some.injEq] at h; subst h
          obtain ⟨vx, r1, p1⟩ := part_part (P := P) h1 hx
          obtain ⟨vy, r2, p2⟩ := part_part (P := P) h2 hy
          have hq := hrec _ _ _ _ _ _ he1 r1 r2 w
          simp only [Op.eqItems, Sem.run_bind, p1, p2, Result.andThen_ok, hq, andE_tt]
          cases e1.tt env
          · simp
          · simpa using ih e2 he2 w
        · cases h
      · cases h
    · cases h

theorem tt_geq (k : IntKind) (a b : E) : (mkBin .geq k a b).tt env = decide (b.den env ≤ a.den env) := by rw [tt_mkBin]; exact b2i_dec _
theorem tt_lss (k : IntKind) (a b : E) : (mkBin .lss k a b).tt env = decide (a.den env < b.den env) := by rw [tt_mkBin]; exact b2i_dec _
theorem tt_neq (k : IntKind) (a b : E) : (mkBin .neq k a b).tt env = (a.den env != b.den env) := by rw [tt_mkBin]; exact b2i_dec _
theorem tt_eql (k : IntKind) (a b : E) : (mkBin .eql k a b).tt env = (a.den env == b.den env) := by rw [tt_mkBin]; exact b2i_dec _

theorem eqBool_tt (a b : E) : (if a.beq b then E.lit 1 else mkIteB a b (notE b)).tt env = (a.tt env == b.tt env) := by
  split
  · rename_i h; rw [E.beq_eq h]; simp [tt_lit, intBeq_eq]
  · rw [mkIteB_tt, notE_tt]; cases a.tt env <;> cases b.tt env <;> rfl

theorem eqV_ok : ∀ (d : Nat) (t : TypeId) (x y : C) (e : E) (vx vy : Value), eqV P d t x y = some e → x.r env ρ [vx] → y.r env ρ [vy] →
    ∀ (D : Nat), d ≤ D → ∀ w, (Op.equalIn D t vx vy).run P w = .ok (e.tt env) w := by
  intro d
  induction d with
  | zero => intro t x y e vx vy h; simp [eqV] at h
  | succ d ih =>
    intro t x y e vx vy h hx hy D hD w
    obtain ⟨D, rfl⟩ : ∃ D', D = D' + 1 := ⟨D - 1, by omega⟩
    have ih' : ∀ t x y e vx vy, eqV P d t x y = some e → x.r env ρ [vx] → y.r env ρ [vy] → ∀ w, (Op.equalIn D t vx vy).run P w = .ok (e.tt env) w :=
      fun t x y e vx vy h hx hy w => ih t x y e vx vy h hx hy D (by omega) w
    simp only [eqV] at h
    split at h
    · rename_i hu
      split at h
      · have := bool_r hx; have := bool_r hy; subst vx vy
        simp only [Option.some.injEq] at h; subst h
        rw [run_equalIn_bool' w D t _ _ hu, eqBool_tt]
      · cases h
    · rename_i k0 hu
      split at h
      · have := int_r hx; have := int_r hy; subst vx vy
        split at h
        · rename_i hk; have hk := sameKind_iff.1 hk; subst hk
          simp only [Option.some.injEq] at h; subst h
          rw [run_equalIn_int w D t _ _ _ _ hu, tt_mkBin]
          congr 1
          exact (b2i_dec _).symm
        · cases h
      · cases h
    · rename_i fs hu
      split at h
      · rename_i l l'
        obtain ⟨xs, rfl, hxs⟩ := agg_r hx
        obtain ⟨ys, rfl, hys⟩ := agg_r hy
        split at h
        · rename_i cs ds h1 h2
          split at h
          · cases h
          · rename_i hst
            have hst' : P.stoodInHeld t = false := by simpa using hst
            have hf := fields_eq hu
            rw [run_equalIn_struct w D t _ _ (by rw [hf]; exact hu) hst', hf]
            exact eqFs_ok (eqV P d) D ih' (ofC_r h1 hxs) (ofC_r h2 hys) _ _ h w
        · cases h
      · cases h
    · rename_i n el hu
      split at h
      · rename_i l l'
        obtain ⟨xs, rfl, hxs⟩ := agg_r hx
        obtain ⟨ys, rfl, hys⟩ := agg_r hy
        split at h
        · rename_i cs ds i h1 h2 hi
          have hc : P.cellsOf el = i.size := by simp [Program.cellsOf, hi]
          rw [run_equalIn_array w D _ _ hu hi, hc]
          exact eqAs_ok (eqV P d) D ih' (ofC_r h1 hxs) (ofC_r h2 hys) el i.size _ _ h w
        · cases h
      · cases h
    · rename_i el hu
      split at h
      · simp only [C.r, List.cons.injEq, and_true] at hx hy; subst hx hy
        simp only [Option.some.injEq] at h; subst h
        simp [Op.equalIn, run_underlying hu, tt_lit, intBeq_eq]
      · obtain ⟨g, hg, rfl⟩ := ptr_r hy
        simp only [C.r, List.cons.injEq, and_true] at hx; subst hx
        simp only [Option.some.injEq] at h; subst h
        simp [Op.equalIn, run_underlying hu, tt_lit, intBeq_eq]
      · obtain ⟨g, hg, rfl⟩ := ptr_r hx
        simp only [C.r, List.cons.injEq, and_true] at hy; subst hy
        simp only [Option.some.injEq] at h; subst h
        simp [Op.equalIn, run_underlying hu, tt_lit, intBeq_eq]
      · cases h
    · rename_i hu
      split at h
      · simp only [C.r, List.cons.injEq, and_true] at hx hy; subst hx hy
        simp only [Option.some.injEq] at h; subst h
        simp [Op.equalIn, run_underlying hu, tt_lit, intBeq_eq]
      · obtain ⟨as, bs, _, _, rfl⟩ := fn_r hy
        simp only [C.r, List.cons.injEq, and_true] at hx; subst hx
        simp only [Option.some.injEq] at h; subst h
        simp [Op.equalIn, run_underlying hu, tt_lit, intBeq_eq]
      · obtain ⟨as, bs, _, _, rfl⟩ := fn_r hx
        simp only [C.r, List.cons.injEq, and_true] at hy; subst hy
        simp only [Option.some.injEq] at h; subst h
        simp [Op.equalIn, run_underlying hu, tt_lit, intBeq_eq]
      · cases h
    · cases h


theorem evEq_ok {t : TypeId} {x y : C} {e : E} {vx vy : Value} (h : evEq P t x y = some e) (hx : x.r env ρ [vx]) (hy : y.r env ρ [vy]) (ox oy : Operand) (w : World) :
    (∃ n : Unit, (eqGuard .eql t ox oy vx vy).run P w = .ok n w) ∧ (∃ n : Unit, (eqGuard .neq t ox oy vx vy).run P w = .ok n w) ∧ (Op.equal t vx vy).run P w = .ok (e.tt env) w ∧
      (∀ k n, vx ≠ .int k n) ∧ (∀ k n, vx ≠ .float k n) ∧ (∀ k n m, vx ≠ .complex k n m) ∧ (∀ s, vx ≠ .string s) := by
  unfold evEq at h
  split at h
  · rename_i l
    split at h
    · cases h
    rename_i hg
    have hg' : P.eqGuardType P.depth t = false := by simpa using hg
    obtain ⟨xs, rfl, hxs⟩ := agg_r hx
    have he := eqV_ok 100 t _ _ e _ _ h hx hy Op.maxDepth (by unfold Op.maxDepth; omega) w
    refine ⟨?_, ?_, he, by simp, by simp, by simp, by simp⟩
    · cases vy <;> simp [eqGuard, hg']
    · cases vy <;> simp [eqGuard, hg']
  case h_7 =>
    split at h
    · split at h
      · rename_i hu
        simp only [Option.some.injEq] at h; subst h
        obtain ⟨y', _, rfl⟩ := iface_r hx
        simp only [C.r, List.cons.injEq, and_true] at hy; subst hy
        refine ⟨⟨(), by simp [eqGuard]⟩, ⟨(), by simp [eqGuard]⟩, ?_, by simp, by simp, by simp, by simp⟩
        have key : ∀ tx d, (Op.equalIn (d + 1) t (.iface tx y') .nilIface).run P w = .ok false w := fun tx d => by
          simp only [Op.equalIn, Sem.run_bind, run_underlying hu, Result.andThen_ok, Sem.run_pure]
        rw [tt_lit]
        exact key _ 9999
      · cases h
    · cases h
  all_goals
    first
      | cases h
      | (have he := eqV_ok 100 t _ _ e _ _ h hx hy Op.maxDepth (by unfold Op.maxDepth; omega) w
         refine ⟨?_, ?_, he, ?_, ?_, ?_, ?_⟩ <;>
          first
            | (obtain ⟨g, _, rfl⟩ := ptr_r hx; first | (simp [eqGuard]; done) | (intro k n m; simp; done) | (intro k n; simp; done) | (intro k; simp; done))
            | (obtain ⟨as, bs, _, _, rfl⟩ := fn_r hx; first | (simp [eqGuard]; done) | (intro k n m; simp; done) | (intro k n; simp; done) | (intro k; simp; done))
            | (simp only [C.r, List.cons.injEq, and_true] at hx; subst hx; first | (simp [eqGuard]; done) | (intro k n m; simp; done) | (intro k n; simp; done) | (intro k; simp; done)))

/-- '==' and '!=' and the operations on whole numbers, with the guard ahead of them. -/
theorem evBinT_ok {o : BinOp} {t : TypeId} {cx cy v : C} {n : E} {x y : Value} (h : evBinT P o t cx cy = some (v, n)) (hn : n.tt env = true) (hx : cx.r env ρ [x]) (hy : cy.r env ρ [y]) (ox oy : Operand) :
    ∃ z, v.r env ρ [z] ∧ ∀ w, ((do eqGuard o t ox oy x y; binOp o t x y) : Sem Value).run P w = .ok z w := by
  unfold evBinT at h
  split at h
  · rename_i r hb
    simp only [Option.some.injEq] at h; subst h
    obtain ⟨z, hz, hr⟩ := evBin_ok (P := P) hb hn hx hy t
    refine ⟨z, hz, fun w => ?_⟩
    have hg : (eqGuard o t ox oy x y).run P w = .ok () w := by
      unfold evBin at hb
      split at hb
      · have := int_r hx; subst x
        cases o <;> simp [eqGuard]
      · cases hb
    simp only [Sem.run_bind, hg, Result.andThen_ok, hr]
  · split at h
    · cases he : evEq P t cx cy with
      | none => simp [he] at h
      | some e =>
        simp only [he, Option.map_some, Option.some.injEq, Prod.mk.injEq] at h
        obtain ⟨rfl, rfl⟩ := h
        refine ⟨_, rfl, fun w => ?_⟩
        obtain ⟨⟨_, g1⟩, _, g2, n1, n2, n3, n4⟩ := evEq_ok he hx hy ox oy w
        simp only [Sem.run_bind, g1, Result.andThen_ok]
        cases x with
        | int k i => exact absurd rfl (n1 k i)
        | float k i => exact absurd rfl (n2 k i)
        | complex k i j => exact absurd rfl (n3 k i j)
        | string s => exact absurd rfl (n4 s)
        | _ => (simp only [binOp, Sem.run_bind, g2, Result.andThen_ok, Sem.run_pure])
    · cases he : evEq P t cx cy with
      | none => simp [he] at h
      | some e =>
        simp only [he, Option.map_some, Option.some.injEq, Prod.mk.injEq] at h
        obtain ⟨rfl, rfl⟩ := h
        refine ⟨_, rfl, fun w => ?_⟩
        obtain ⟨_, ⟨_, g1⟩, g2, n1, n2, n3, n4⟩ := evEq_ok he hx hy ox oy w
        simp only [Sem.run_bind, g1, Result.andThen_ok]
        cases x with
        | int k i => exact absurd rfl (n1 k i)
        | float k i => exact absurd rfl (n2 k i)
        | complex k i j => exact absurd rfl (n3 k i j)
        | string s => exact absurd rfl (n4 s)
        | _ => (simp only [binOp, Sem.run_bind, g2, Result.andThen_ok, Sem.run_pure, notE_tt])
    · cases h

/-! ### Fields, elements, parts -/

theorem fieldPlace_run {f : Field} {i : TypeInfo} (hi : P.info? f.type = some i) (h0 : i.size ≠ 0) (g o : Nat) (w : World) :
    (fieldPlace ⟨g, o, none⟩ f).run P w = .ok ⟨g, o + f.offset, none⟩ w := by
  simp [fieldPlace, run_size hi, h0, add_block]

theorem evFieldAddr_ok {t : TypeId} {c v : C} {f : Nat} {x : Value} (h : evFieldAddr P t c f = some v) (hx : c.r env ρ [x]) :
    ∃ z, v.r env ρ [z] ∧ ∀ w, (Instr.fieldAt t x f).run P w = .ok z w := by
  unfold evFieldAddr at h
  split at h
  · rename_i fs hu
    split at h
    · rename_i fl hf
      split at h
      · rename_i i hi
        split at h
        · cases h
        rename_i h0
        have h0' : i.size ≠ 0 := by simpa using h0
        have hf' : fs[f]? = some fl := by rw [getL_eq] at hf; simpa using hf
        split at h
        · obtain ⟨g, hg, rfl⟩ := ptr_r hx
          simp only [Option.some.injEq] at h; subst h
          refine ⟨_, ⟨g, hg, rfl⟩, fun w => ?_⟩
          simp [Instr.fieldAt, run_underlying hu, hf', Instr.sureAddr, fieldPlace_run hi h0']
        · obtain ⟨a, ha, h1, h2, rfl⟩ := optr_r hx
          simp only [Option.some.injEq] at h; subst h
          refine ⟨_, ⟨a, ha, h1, h2, rfl⟩, fun w => ?_⟩
          simp [Instr.fieldAt, run_underlying hu, hf', Instr.sureAddr, fieldPlace_run hi h0', Nat.add_assoc]
        · cases h
      · cases h
    · cases h
  · cases h

theorem evIndexAddr_ok {t : TypeId} {c ci v : C} {n : E} {x y : Value} (h : evIndexAddr P t c ci = some (v, n)) (hn : n.tt env = true) (hx : c.r env ρ [x]) (hy : ci.r env ρ [y])
    (hsl : (∀ j, (env.sl j).1 = none → (env.sl j).2.1 = 0) ∧ ∀ j a, (env.sl j).1 = some a → 0 < (env.sl j).2.1 → a.spot = none) :
    ∃ z, v.r env ρ [z] ∧ ∀ w, (Instr.indexAt t x y).run P w = .ok z w := by
  unfold evIndexAddr at h
  split at h
  · rename_i len e hu
    split at h
    · rename_i b o k i
      split at h
      · rename_i inf hi
        split at h
        · rename_i hlt
          have hlt' : i < len := by simpa using hlt
          simp only [Option.some.injEq, Prod.mk.injEq] at h
          obtain ⟨rfl, rfl⟩ := h
          obtain ⟨g, hg, rfl⟩ := ptr_r hx
          have := int_r hy; subst y
          refine ⟨_, ⟨g, hg, rfl⟩, fun w => ?_⟩
          have hd : (E.lit (i : Int)).den env = (i : Int) := rfl
          have hlt'' : (i : Int) < len := by omega
          simp [Instr.indexAt, run_underlying hu, asIntOf, Instr.sureAddr, run_size hi, add_block, hd, hlt']
        · cases h
      · cases h
    · cases h
  · rename_i e hu
    split at h
    · rename_i b o len cap k i
      split at h
      · rename_i inf hi
        split at h
        · rename_i hlt
          have hlt' : i < len := by simpa using hlt
          simp only [Option.some.injEq, Prod.mk.injEq] at h
          obtain ⟨rfl, rfl⟩ := h
          obtain ⟨g, _, hg, _, rfl⟩ := sl_r hx
          have := int_r hy; subst y
          refine ⟨_, ⟨g, hg, rfl⟩, fun w => ?_⟩
          have hd : (E.lit (i : Int)).den env = (i : Int) := rfl
          simp [Instr.indexAt, run_underlying hu, asIntOf, run_size hi, add_block, hd, hlt']
        · cases h
      · cases h
    · rename_i j k e'
      split at h
      · rename_i inf hi
        simp only [Option.some.injEq, Prod.mk.injEq] at h
        obtain ⟨rfl, rfl⟩ := h
        have := int_r hy; subst y
        simp only [C.r, List.cons.injEq, and_true] at hx; subst hx
        rw [andE_tt, Bool.and_eq_true, tt_geq, tt_lss, decide_eq_true_eq, decide_eq_true_eq] at hn
        obtain ⟨h1, h2⟩ := hn
        have h1' : 0 ≤ e'.den env := h1
        have h2' : e'.den env < ((env.sl j).2.1 : Int) := h2
        cases ha : (env.sl j).1 with
        | none => have := hsl.1 j ha; omega
        | some a =>
          refine ⟨_, ⟨a, ha, h1', h2', rfl⟩, fun w => ?_⟩
          have hs := hsl.2 j a ha (by omega)
          have hadd : ∀ n, a.add n = ⟨a.block, a.off + n, none⟩ := fun n => by
            unfold Addr.add
            split
            · rename_i h0; subst h0; cases a; simp at hs; simp [hs]
            · rfl
          simp [Instr.indexAt, run_underlying hu, asIntOf, run_size hi, h1', h2', hadd]
      · cases h
    · cases h
  · cases h

end
end Go.Sx
