/-
  The symbolic executor is right: operations, regions, code, calls. No condition.
-/
import Derived.Test.YtnlgfccjohhcmaaGreatDoorSx10
import Derived.OrdersHeld
namespace Go.Sx
open Go.RowKit

section
variable {env : Env} {w0 : World} {B : Nat} {ρ : List Nat} {s : St} {a : Act} {w : World} {K : Ctx}

theorem putD_ok {ts : Ts} {xs : Array Value} (h : TsOk env ρ ts xs) {v : C} {x : Value} (hv : v.r env ρ [x]) (d : Option Tmp) :
    TsOk env ρ (putD ts d v) (match d with | some d => xs.setIfInBounds d x | none => xs) := by
  cases d with
  | none => exact h
  | some d => exact h.set hv d

theorem Sim.put (h : Sim env w0 B ρ s a w) {v : C} {x : Value} (hv : v.r env ρ [x]) (d : Option Tmp) : Sim env w0 B ρ ⟨putD s.ts d v, s.H⟩ (a.put d x) w := by
  refine ⟨?_, ?_, h.heap, h.below, h.size⟩
  · cases d with
    | none => exact h.ts
    | some d => exact putD_ok h.ts hv (some d)
  · show DfOk env ρ (putD s.ts d v).d (a.put d x).defers
    rw [putD_d]
    cases d <;> exact h.defers

/-- What is asked of the way in which calls are met. -/
def CallOk (env : Env) (K : Ctx) (w0 : World) (B : Nat) (call : FuncId → List C → List Blk → T (C × List Blk)) : Prop :=
  ∀ (f : FuncId) (vs : List C) (H : List Blk) (G : C × List Blk → Prop) (ρ : List Nat) (xs : List Value) (w : World), HeapOk env B ρ H w → Below B w0 w → B ≤ w0.heap.size → Rels env ρ vs xs → (call f vs H).sat env G →
    (∀ w, (callFunc f xs.toArray).run K.P w = .ok (.enter f xs.toArray) w) ∧
    Calls K.P f xs.toArray w fun e w' => ∃ r z ρ', G r ∧ e = .returned z ∧ Pre ρ ρ' ∧ r.1.r env ρ' [z] ∧ HeapOk env B ρ' r.2 w' ∧ Below B w0 w'

theorem Rels.append {cs ds : List C} {xs ys : List Value} (h : Rels env ρ cs xs) (k : Rels env ρ ds ys) : Rels env ρ (cs ++ ds) (xs ++ ys) := by
  refine ⟨by simp [h.1, k.1], fun i c x hc hx => ?_⟩
  rw [List.getElem?_append] at hc hx
  rw [← h.1] at hx
  split at hc
  · rename_i hi; rw [if_pos hi] at hx; exact h.2 i c x hc hx
  · rename_i hi; rw [if_neg hi] at hx; exact k.2 _ c x hc hx

theorem findMeth_eq (name : String) : ∀ l : List Method, findMeth name l = l.find? (·.name == name) := by
  intro l
  induction l with
  | nil => rfl
  | cons m l ih =>
    simp only [findMeth, List.find?_cons]
    by_cases h : m.name = name
    · simp [h]
    · have : (m.name == name) = false := by simpa using h
      simp [h, this, ih]

theorem evMeth_run {P : Program} {t : TypeId} {name : String} {g : FuncId} (h : evMeth P t name = some g) (v : Value) (args : Array Value) (w : World) :
    (callMethod (.iface t v) name args).run P w = (callFunc g (#[v] ++ args)).run P w := by
  unfold evMeth at h
  split at h
  · rename_i e hu
    split at h
    · rename_i inf hi
      split at h
      · rename_i m hm
        split at h
        · rename_i hp
          split at h
          · rename_i f b hf
            split at h
            · rename_i hb
              simp only [Option.some.injEq] at h; subst h
              subst hb
              rw [findMeth_eq, Array.find?_toList] at hm
              have hpa : m.path = #[] := by apply Array.ext'; simpa using hp
              have key : ∀ n, (method (n + 1) t v name).run P w = .ok (f, v) w := fun n => by
                simp only [method, Sem.run_bind, run_info hi, Result.andThen_ok, hm, hp, follow, Sem.run_pure, hf, hpa]
                simp [receiverAt, run_underlying hu, Place.get]
              obtain ⟨n, hn⟩ : ∃ n, P.types.size + Made.depth = n + 1 := ⟨P.types.size + (Made.depth - 1), by unfold Made.depth; omega⟩
              have hpr : (program : Sem Program).run P w = .ok P w := rfl
              simp only [callMethod, Sem.run_bind, hpr, Result.andThen_ok, hn, key]
            · cases h
          · cases h
        · cases h
      · cases h
    · cases h
  · cases h

theorem ext1 (x : Value) (A : Array Value) : (#[x] ++ A).extract 1 (#[x] ++ A).size = A := by
  apply Array.ext'
  simp

theorem evStep0_ok (hE : EnvOk env K w0 B) {call : FuncId → List C → List Blk → T (C × List Blk)} (hcall : CallOk env K w0 B call) {why : Nat} {o : Oper} {k : St → T St} {G : St → Prop} (h : Sim env w0 B ρ s a w)
    (hs : (evStep0 K call why o s k).sat env G) {next : Act → World → Prop} {Q : Exit → Act → World → Prop}
    (hn : ∀ s' ρ' a' w', Pre ρ ρ' → Sim env w0 B ρ' s' a' w' → (k s').sat env G → next a' w') : o.wp K.P a w next Q := by
  unfold evStep0 at hs
  split at hs
  · rename_i v n hv
    obtain ⟨hnn, hk⟩ := needT_sat hs
    obtain ⟨x, hx, hr⟩ := evOpR_ok hE h hv hnn
    unfold Oper.wp
    rw [hr, Oper.upon_value]
    exact hn _ ρ _ _ (Pre.refl _) (h.put hx o.dst) hk
  · split at hs
    · rename_i c ho
      split at hs
      · rename_i f hc
        split at hs
        · rename_i g fa fb hf
          split at hs
          · rename_i first cap h1 h2
            have hof := evO_r h.ts f
            rw [hf] at hof
            obtain ⟨as, bs, ha, hb, he⟩ := fn_r hof
            have hargs : Rels env ρ (first ++ c.args.toList.map (evO s.ts) ++ cap) (as ++ c.args.toList.map a.eval ++ bs) :=
              ((ofC_r h1 ha).append (map_rels h.ts _)).append (ofC_r h2 hb)
            obtain ⟨hen, hcl⟩ := hcall g _ s.H _ ρ _ w h.heap h.below h.size hargs (sat_bind hs)
            have harr : as.toArray ++ c.args.map a.eval ++ bs.toArray = (as ++ c.args.toList.map a.eval ++ bs).toArray := by
              apply Array.ext'; simp
            have hrun : (execOp a.eval o).run K.P w = .ok (.enter g (as ++ c.args.toList.map a.eval ++ bs).toArray) w := by
              simp only [execOp, ho, resolve, hc, Sem.run_bind, he, Deferred.ofValue, Sem.run_pure, Result.andThen_ok, invoke]
              rw [harr]
              exact hen w
            unfold Oper.wp
            rw [hrun, Oper.upon_enter]
            refine hcl.mono ?_
            rintro e w' ⟨r, z, ρ', hG, rfl, hp, hz, hH, hb'⟩
            exact hn ⟨putD s.ts o.dst r.1, r.2⟩ ρ' _ w' hp (Sim.put (s := ⟨s.ts, r.2⟩) ⟨h.ts.mono hp, h.defers.mono hp, hH, hb', h.size⟩ hz o.dst) hG
          · exact hs.elim
        · exact hs.elim
      · rename_i recv name hc
        split at hs
        · rename_i t v hf
          split at hs
          · rename_i g hg
            have hof := evO_r h.ts recv
            rw [hf] at hof
            obtain ⟨y, hy, he⟩ := iface_r hof
            have hargs : Rels env ρ (v :: c.args.toList.map (evO s.ts)) (y :: c.args.toList.map a.eval) := .cons hy (map_rels h.ts _)
            obtain ⟨hen, hcl⟩ := hcall g _ s.H _ ρ _ w h.heap h.below h.size hargs (sat_bind hs)
            have harr : #[y] ++ c.args.map a.eval = (y :: c.args.toList.map a.eval).toArray := by
              apply Array.ext'; simp
            have hres : (resolve a.eval c o.type).run K.P w = .ok { target := .fn (.method name) #[], args := #[Value.iface t y] ++ c.args.map a.eval } w := by
              simp only [resolve, hc, Sem.run_pure, he]
            have hrun : (execOp a.eval o).run K.P w = .ok (.enter g (y :: c.args.toList.map a.eval).toArray) w := by
              unfold execOp
              rw [ho]
              show ((do let d ← resolve a.eval c o.type; invoke d.target d.args) : Sem Next).run K.P w = _
              rw [Sem.run_bind, hres, Result.andThen_ok]
              have h0 : (#[Value.iface t y] ++ c.args.map a.eval)[0]? = some (Value.iface t y) := by rw [Array.getElem?_append_left (by simp)]; rfl
              simp only [invoke, h0, ext1]
              rw [evMeth_run hg, harr]
              exact hen w
            unfold Oper.wp
            rw [hrun, Oper.upon_enter]
            refine hcl.mono ?_
            rintro e w' ⟨r, z, ρ', hG, rfl, hp, hz, hH, hb'⟩
            exact hn ⟨putD s.ts o.dst r.1, r.2⟩ ρ' _ w' hp (Sim.put (s := ⟨s.ts, r.2⟩) ⟨h.ts.mono hp, h.defers.mono hp, hH, hb', h.size⟩ hz o.dst) hG
          · exact hs.elim
        · exact hs.elim
      · split at hs
        · rename_i v H hv
          obtain ⟨x, w', ρ', hr, hp, hx, hS⟩ := evOpW_ok (K := K) h hv
          unfold Oper.wp
          have hnext := hn _ ρ' _ w' hp (Sim.put hS hx o.dst) hs
          rcases hr with hr | ⟨hr, rfl⟩
          · rw [hr, Oper.upon_value]; exact hnext
          · rw [hr, Oper.upon_skip]; exact hnext
        · exact hs.elim
    · rename_i c ho
      split at hs
      · rename_i f hc
        split at hs
        · rename_i g fa fb hf
          split at hs
          · rename_i first cap h1 h2
            have hof := evO_r h.ts f
            rw [hf] at hof
            obtain ⟨as, bs, ha, hb, he⟩ := fn_r hof
            have hargs : Rels env ρ (first ++ c.args.toList.map (evO s.ts) ++ cap) (as ++ c.args.toList.map a.eval ++ bs) :=
              ((ofC_r h1 ha).append (map_rels h.ts _)).append (ofC_r h2 hb)
            have hrun : (execOp a.eval o).run K.P w = .ok (.defer { target := .fn (.func g) bs.toArray, args := as.toArray ++ c.args.map a.eval }) w := by
              simp only [execOp, ho, resolve, hc, Sem.run_bind, he, Deferred.ofValue, Sem.run_pure, Result.andThen_ok]
            unfold Oper.wp
            rw [hrun, Oper.upon_defer]
            refine hn _ ρ _ _ (Pre.refl _) (Sim.put (s := ⟨pushD s.ts g (first ++ c.args.toList.map (evO s.ts) ++ cap), s.H⟩) (a := { a with defers := _ :: a.defers }) ⟨⟨h.ts.n, h.ts.r⟩, ?_, h.heap, h.below, h.size⟩ undef_r o.dst) hs
            exact ⟨_, _, _, rfl, by simpa using hargs, h.defers⟩
          · exact hs.elim
        · exact hs.elim
      · exact hs.elim
    · split at hs
      · rename_i v H hv
        obtain ⟨x, w', ρ', hr, hp, hx, hS⟩ := evOpW_ok (K := K) h hv
        unfold Oper.wp
        have hnext := hn _ ρ' _ w' hp (Sim.put hS hx o.dst) hs
        rcases hr with hr | ⟨hr, rfl⟩
        · rw [hr, Oper.upon_value]; exact hnext
        · rw [hr, Oper.upon_skip]; exact hnext
      · exact hs.elim

/-! ### A way for each key -/

theorem foldEq_snd (env : Env) (o : BinOp) (k : IntKind) (a b : E) : ((foldEq o k a b).d env).2 = [] := by
  unfold foldEq
  split <;> (try split) <;> (try split) <;> rfl

theorem mkBin_snd (env : Env) (o : BinOp) (k : IntKind) (a b : E) : ((mkBin o k a b).d env).2 = [] := by
  unfold mkBin
  split
  · split
    · rfl
    · exact foldEq_snd ..
  · exact foldEq_snd ..

theorem fix_d (env : Env) {p : E} {j : Int} (h : p.den env = j) : ∀ e : E, (E.fix p j e).den env = e.den env ∧ ((E.fix p j e).d env).2 = (e.d env).2 := by
  intro e
  induction e with
  | lit n => exact ⟨rfl, rfl⟩
  | var i =>
    simp only [E.fix_var, E.fix_bin, E.fix_conv, E.fix_ite, E.fix_app]
    split
    · rename_i hb; have := E.beq_eq hb; subst this; exact ⟨h.symm, rfl⟩
    · exact ⟨rfl, rfl⟩
  | slen i => exact ⟨rfl, rfl⟩
  | bin o k a b iha ihb =>
    refine ⟨?_, ?_⟩
    · simp only [E.fix_var, E.fix_bin, E.fix_conv, E.fix_ite, E.fix_app]; rw [mkBin_den, iha.1, ihb.1]; rfl
    · rw [E.fix_bin, mkBin_snd]; rfl
  | conv k a iha =>
    refine ⟨?_, ?_⟩
    · simp only [E.fix_var, E.fix_bin, E.fix_conv, E.fix_ite, E.fix_app]; rw [mkConv_den, iha.1]; rfl
    · simp only [E.fix_conv, mkConv]; split <;> rfl
  | ite c a b ihc iha ihb =>
    have hd : (mkIte (E.fix p j c) (E.fix p j a) (E.fix p j b)).den env = (E.ite c a b).den env := by
      rw [mkIte_den, E.tt, ihc.1, iha.1, ihb.1]
      by_cases hc : (c.d env).1 = 0 <;> simp [E.den, E.d, hc]
    have hd' : (E.ite (E.fix p j c) (E.fix p j a) (E.fix p j b)).den env = (E.ite c a b).den env := by
      have h1 := ihc.1; have h2 := iha.1; have h3 := ihb.1
      simp only [E.den] at h1 h2 h3
      simp only [E.den, E.d, h1, h2, h3]
    simp only [E.fix_var, E.fix_bin, E.fix_conv, E.fix_ite, E.fix_app]
    split
    · exact ⟨hd', rfl⟩
    · rename_i r hne
      refine ⟨hd, ?_⟩
      cases hr : mkIte (E.fix p j c) (E.fix p j a) (E.fix p j b) <;> first | rfl | exact absurd hr (hne _ _)
  | app f as ih =>
    simp only [E.fix_var, E.fix_bin, E.fix_conv, E.fix_ite, E.fix_app]
    split
    · rename_i hb; have := E.beq_eq hb; subst this; exact ⟨h.symm, rfl⟩
    · exact ⟨by simp only [E.den, E.d, ih.2], rfl⟩
  | cons a b iha ihb => exact ⟨rfl, by simp only [E.fix_cons, E.d]; rw [show (( E.fix p j a).d env).1 = (a.d env).1 from iha.1, ihb.2]⟩
  | nil => exact ⟨rfl, rfl⟩

theorem fix_r {p : E} {j : Int} (h : p.den env = j) : ∀ {v : C} {xs : List Value}, v.r env ρ xs → (v.fix p j).r env ρ xs := by
  have hd := fun e => (fix_d env h e).1
  intro v
  induction v with
  | int k e => intro xs h; simp only [C.fix, C.r, hd] at h ⊢; exact h
  | bool e => intro xs h; simp only [C.fix, C.r, E.tt, hd] at h ⊢; exact h
  | optr i e s o => intro xs h; simp only [C.fix, C.r, hd] at h ⊢; exact h
  | fn f a b iha ihb => intro xs h; obtain ⟨as, bs, h1, h2, hx⟩ := h; exact ⟨as, bs, iha h1, ihb h2, hx⟩
  | iface t v ih => intro xs h; obtain ⟨x, h1, hx⟩ := h; exact ⟨x, ih h1, hx⟩
  | agg l ih => intro xs h; obtain ⟨ys, h1, h2⟩ := h; exact ⟨ys, ih h1, h2⟩
  | tup l ih => intro xs h; obtain ⟨ys, h1, h2⟩ := h; exact ⟨ys, ih h1, h2⟩
  | cons a b iha ihb => intro xs h; obtain ⟨y, ys, h1, h2, h3⟩ := h; exact ⟨y, ys, iha h1, ihb h2, h3⟩
  | _ => intro xs h; exact h

theorem fix_such {p : E} {j : Int} {c : C} (h : c.fix p j = .such 0) : c = .such 0 := by
  cases c with
  | such q => exact h
  | _ => cases h

theorem fix_blk {p : E} {j : Int} (h : p.den env = j) {g : Nat} {b : Blk} (hb : BlkOk env B ρ w g b) : BlkOk env B ρ w g (b.fix p j) := by
  cases b with
  | cells cs ty =>
    obtain ⟨xs, tl, hx, hr, hq⟩ := hb
    refine ⟨xs, tl, hx, ⟨by simp [hr.1], fun i c x hc hx' => ?_⟩, fun k v hk hv => ?_⟩
    rotate_left
    · rw [List.getElem?_map] at hk
      cases hi : cs[k]? with
      | none => simp [hi] at hk
      | some c' =>
        simp only [hi, Option.map_some, Option.some.injEq] at hk
        rw [fix_such hk] at hi
        exact hq k v hi hv
    rw [List.getElem?_map] at hc
    cases hi : cs[i]? with
    | none => simp [hi] at hc
    | some c' => simp only [hi, Option.map_some, Option.some.injEq] at hc; subst hc; exact fix_r h (hr.2 i c' x hi hx')
  | mp es clock => exact hb

theorem Sim.fix {p : E} {j : Int} (h : Sim env w0 B ρ s a w) (hp : p.den env = j) : Sim env w0 B ρ (s.fix p j) a w := by
  refine ⟨h.ts.map rfl fun c x hc => fix_r hp hc, h.defers.map fun _ _ c _ x hc => fix_r hp hc, ⟨by simp [St.fix, h.heap.len], h.heap.lo, h.heap.inj, fun i g b hi hb => ?_, h.heap.fz, h.heap.fm⟩, h.below, h.size⟩
  simp only [St.fix, List.getElem?_map] at hb
  cases hi' : s.H[i]? with
  | none => simp [hi'] at hb
  | some b' => simp only [hi', Option.map_some, Option.some.injEq] at hb; subst hb; exact fix_blk hp (h.heap.blk i g b' hi hi')

theorem evKeys_sat {e : E} {k : IntKind} {f : St → T St} {g : T St} {G : St → Prop} : ∀ {l : List Int}, (evKeys s e k f g l).sat env G → (∃ j, e.den env = j ∧ (f (s.fix e j)).sat env G) ∨ ((∀ j ∈ l, e.den env ≠ j) ∧ g.sat env G) := by
  intro l
  induction l with
  | nil => intro h; exact .inr ⟨by simp, h⟩
  | cons j l ih =>
    intro h
    by_cases hj : e.den env = j
    · exact .inl ⟨j, hj, h.1 (by simp [tt_true, E.den, E.d, binDen, b2i]; simpa [E.den] using hj)⟩
    · rcases ih (h.2 (by simp [tt_false, E.den, E.d, binDen, b2i]; simpa [E.den] using hj)) with ⟨j', h1, h2⟩ | ⟨h1, h2⟩
      · exact .inl ⟨j', h1, h2⟩
      · refine .inr ⟨fun j' hj' => ?_, h2⟩
        rcases List.mem_cons.1 hj' with rfl | hj'
        · exact hj
        · exact h1 j' hj'

theorem findC_open {k : IntKind} {e : E} (he : e.atom = true) : ∀ {es : List (C × C × Nat)} {l : List Int} {r : Option C} {nd : E}, keysOf es = some l → findC k e es = some (r, nd) → (∀ j ∈ l, e.den env ≠ j) → nd.tt env = true := by
  intro es
  induction es with
  | nil => intro l r nd _ h _; simp only [findC, Option.some.injEq, Prod.mk.injEq] at h; rw [← h.2]; rfl
  | cons x es ih =>
    obtain ⟨key, v, born⟩ := x
    intro l r nd hk h hne
    simp only [keysOf] at hk
    split at hk
    · rename_i k' n
      split at hk
      · rename_i l' hl'
        simp only [Option.some.injEq] at hk; subst hk
        simp only [findC] at h
        split at h
        · split at h
          · simp [E.atom] at he
          · split at h
            · rename_i nd' hnd'
              simp only [Option.some.injEq, Prod.mk.injEq] at h
              rw [← h.2, andE_tt, ih hl' hnd' (fun j hj => hne j (by simp [hj])), Bool.and_true, tt_true, mkBin_den]
              have := hne n (by simp)
              simp [binDen, b2i, E.den, E.d]
              simpa [E.den] using this
            · cases h
        · cases h
      · cases hk
    · cases hk

theorem openKeys_eq {op : Op} {e : E} {k : IntKind} {l : List Int} (h : openKeys s op = some (e, k, l)) :
    ∃ t m ix ok b es n, op = .lookup t m ix ok ∧ evO s.ts ix = .int k e ∧ e.atom = true ∧ evO s.ts m = .map b ∧ getL s.H b = some (.mp es n) ∧ keysOf es = some l := by
  unfold openKeys at h
  split at h
  · rename_i t m ix ok
    split at h
    · rename_i k' e' hix
      split at h
      · rename_i ha
        split at h
        · rename_i b hm
          split at h
          · rename_i es n hb
            split at h
            · rename_i l' hl
              simp only [Option.some.injEq, Prod.mk.injEq] at h
              obtain ⟨rfl, rfl, rfl⟩ := h
              exact ⟨t, m, ix, ok, b, es, n, rfl, hix, ha, hm, hb, hl⟩
            · cases h
          · cases h
        · cases h
      · cases h
    · cases h
  · cases h

theorem openKeys_need {op : Op} {e : E} {k : IntKind} {l : List Int} {v : C} {n : E} (h : openKeys s op = some (e, k, l)) (hv : evOpR K s op = some (v, n)) (hne : ∀ j ∈ l, e.den env ≠ j) : n.tt env = true := by
  obtain ⟨t, m, ix, ok, b, es, c, rfl, hix, ha, hm, hb, hk⟩ := openKeys_eq h
  rw [evOpR_ld rfl] at hv
  simp only [evOpR0, evLookup, hm, hix, hb] at hv
  split at hv
  · rename_i heq1 heq2 heq3
    cases heq2; cases heq3
    rw [hb] at hv
    split at hv
    · rename_i heq
      simp only [Option.some.injEq, Blk.mp.injEq] at heq
      obtain ⟨rfl, rfl⟩ := heq
      split at hv
      · rename_i nd hf
        simp only [Option.some.injEq, Prod.mk.injEq] at hv
        rw [← hv.2]; exact findC_open ha hk hf hne
      · rename_i nd hf
        split at hv
        · split at hv
          · simp only [Option.some.injEq, Prod.mk.injEq] at hv
            rw [← hv.2]; exact findC_open ha hk hf hne
          · cases hv
        · cases hv
      · cases hv
    · cases hv
  · cases hv

theorem openIdx_eq {op : Op} {e : E} {kd : IntKind} {n : Nat} (h : openIdx K s op = some (e, kd, n)) : e.atom = true := by
  unfold openIdx at h
  split at h
  · split at h
    · split at h
      · rename_i ha
        split at h
        · simp only [Option.some.injEq, Prod.mk.injEq] at h
          rw [← h.1]; exact ha
        · cases h
      · cases h
    · cases h
  · split at h
    · split at h
      · rename_i ha
        split at h
        · simp only [Option.some.injEq, Prod.mk.injEq] at h
          rw [← h.1]; exact ha
        · cases h
      · cases h
    · cases h
  · cases h

theorem idxWays_sat {e : E} {k : IntKind} {f : Int → T St} {G : St → Prop} : ∀ (m j : Nat), (idxWays e k f m j).sat env G → (j : Int) ≤ e.den env → e.den env ≤ ((j + m : Nat) : Int) → ∃ i : Int, e.den env = i ∧ (f i).sat env G := by
  intro m
  induction m with
  | zero => intro j h h1 h2; exact ⟨Int.ofNat j, by show e.den env = (j : Int); omega, h⟩
  | succ m ih =>
    intro j h h1 h2
    by_cases he : e.den env = (j : Int)
    · exact ⟨Int.ofNat j, he, h.1 (by
        show decide (b2i (e.den env == Int.ofNat j) ≠ 0) = true
        rw [he]; simp [b2i])⟩
    · refine ih (j + 1) (h.2 (by
        show decide (b2i (e.den env == Int.ofNat j) ≠ 0) = false
        have : (e.den env == Int.ofNat j) = false := by simpa using he
        rw [this]; rfl)) (by omega) (by omega)

theorem idxIn_ok {e : E} {k : IntKind} {m : Nat} (h : (idxIn e k m).tt env = true) : 0 ≤ e.den env ∧ e.den env ≤ (m : Int) := by
  unfold idxIn at h
  rw [tt_ite, tt_lit] at h
  have e1 : (E.bin .lss k e (.lit 0)).tt env = decide (e.den env < 0) := b2i_dec _
  have e2 : (E.bin .eql .i64 (.bin .lss k (.lit (Int.ofNat m)) e) (.lit 0)).tt env = !(E.bin .lss k (.lit (Int.ofNat m)) e).tt env := unNot_tt rfl
  have e3 : (E.bin .lss k (.lit (Int.ofNat m)) e).tt env = decide ((m : Int) < e.den env) := b2i_dec _
  rw [e1, e2, e3] at h
  by_cases h0 : e.den env < 0
  · rw [decide_eq_true h0] at h; simp [intBeq_eq] at h
  · rw [decide_eq_false h0] at h
    simp only [Bool.false_eq_true, if_false, Bool.not_eq_true', decide_eq_false_iff_not] at h
    omega

theorem evStep_ok (hE : EnvOk env K w0 B) {call : FuncId → List C → List Blk → T (C × List Blk)} (hcall : CallOk env K w0 B call) {why : Nat} {o : Oper} {k : St → T St} {G : St → Prop} (h : Sim env w0 B ρ s a w)
    (hs : (evStep K call why o s k).sat env G) {next : Act → World → Prop} {Q : Exit → Act → World → Prop}
    (hn : ∀ s' ρ' a' w', Pre ρ ρ' → Sim env w0 B ρ' s' a' w' → (k s').sat env G → next a' w') : o.wp K.P a w next Q := by
  unfold evStep at hs
  split at hs
  · rename_i e kd l hk
    rcases evKeys_sat hs with ⟨j, hj, hs⟩ | ⟨hne, hs⟩
    · exact evStep0_ok hE hcall (h.fix hj) hs hn
    · split at hs
      · rename_i v n hv
        obtain ⟨x, hx, hr⟩ := evOpR_ok hE h hv (openKeys_need hk hv hne)
        unfold Oper.wp
        rw [hr, Oper.upon_value]
        exact hn _ ρ _ _ (Pre.refl _) (h.put hx o.dst) hs
      · exact hs.elim
  · split at hs
    · rename_i e kd n hk
      split at hs
      · exact hs.elim
      · rename_i m
        obtain ⟨h1, h2⟩ := hs
        obtain ⟨q1, q2⟩ := idxIn_ok h1
        obtain ⟨i, hi, hs'⟩ := idxWays_sat m 0 h2 (by omega) (by omega)
        split at hs'
        · rename_i v n' hv
          obtain ⟨hn', hs''⟩ := needT_sat hs'
          obtain ⟨x, hx, hr⟩ := evOpR_ok hE (h.fix hi) hv hn'
          unfold Oper.wp
          rw [hr, Oper.upon_value]
          exact hn _ ρ _ _ (Pre.refl _) (h.put hx o.dst) hs''
        · exact hs'.elim
    · exact evStep0_ok hE hcall h hs hn

/-! ### Guards -/

theorem guardTmp_eq {all : Array Oper} {j : Nat} {t : Tmp} (h : guardTmp all j = some t) : (all[j]?).bind (·.dst) = some t := by
  unfold guardTmp at h
  rw [getL_eq] at h
  simpa using h

theorem yielded_of {all : Array Oper} {j : Nat} {t : Tmp} (h : guardTmp all j = some t) (tmps : Array Value) : yielded all tmps j = match tmps[t]? with | some (.bool b) => some b | _ => none := by
  unfold yielded
  rw [guardTmp_eq h]
  rfl

theorem bool_undef {e : E} : ¬ (C.bool e).r env ρ [undef] := fun h => by have := bool_r h; cases this

theorem guard_known {all : Array Oper} {o : Oper} {b : Bool} (h : TsOk env ρ s.ts a.tmps) (hg : evGuard all s.ts o = .known b) : Region.wanted o (yielded all a.tmps) = b := by
  unfold evGuard at hg
  split at hg
  · rename_i ho; cases hg; simp [Region.wanted, ho]
  · rename_i j want ho
    split at hg
    · cases hg
    · rename_i t ht
      split at hg
      · rename_i n hnth
        cases hg
        obtain ⟨x, hx, hr⟩ := h.get hnth bool_undef
        have := bool_r hr; subst x
        simp only [Region.wanted, ho, yielded_of ht, hx, tt_lit]
        cases want <;> cases intBeq n 0 <;> rfl
      · cases hg
      · rename_i l hnth
        cases hg
        simp only [Region.wanted, ho, yielded_of ht]
        have hr := h.r t
        rw [hnth] at hr
        obtain ⟨ys, hy, _⟩ := tup_r hr
        cases hx : a.tmps[t]? with
        | none => simp
        | some x =>
          have hx' : a.tmps.getD t undef = x := by simp [hx]
          rw [hx'] at hy
          subst hy; simp
      · cases hg

theorem guard_open {all : Array Oper} {o : Oper} {t : Tmp} {e : E} (hg : evGuard all s.ts o = .open_ t e) :
    getT s.ts t = .bool e ∧ ∃ j want, o.guard = some (j, want) ∧ guardTmp all j = some t := by
  unfold evGuard at hg
  split at hg
  · cases hg
  · rename_i j want ho
    split at hg
    · cases hg
    · rename_i t' ht
      split at hg <;> cases hg
      rename_i hnth
      exact ⟨hnth, j, want, ho, ht⟩

theorem set_self {xs : Array Value} {t : Nat} {x : Value} (hx : xs[t]? = some x) : xs.setIfInBounds t x = xs := by
  apply Array.ext_getElem?
  intro i
  rw [Array.getElem?_setIfInBounds]
  split
  · rename_i hi; subst hi; rw [if_pos (Array.getElem?_eq_some_iff.1 hx).1]; exact hx.symm
  · rfl

theorem refine_one (h : Sim env w0 B ρ s a w) {t : Tmp} {e : E} (hn : getT s.ts t = .bool e) (ht : e.tt env = true) : Sim env w0 B ρ ⟨setT s.ts t (.bool (.lit 1)), s.H⟩ a w := by
  obtain ⟨x, hx, hr⟩ := h.ts.get hn bool_undef
  have := bool_r hr; subst x
  refine ⟨?_, by show DfOk env ρ (setT s.ts t _).d a.defers; rw [setT_d]; exact h.defers, h.heap, h.below, h.size⟩
  have hs := h.ts.set (v := .bool (.lit 1)) (x := .bool (e.tt env)) (by simp [C.r, tt_lit, intBeq_eq, ht]) t
  rw [set_self hx] at hs
  exact hs

theorem refine_zero (h : Sim env w0 B ρ s a w) {t : Tmp} {e : E} (hn : getT s.ts t = .bool e) (ht : e.tt env = false) : Sim env w0 B ρ ⟨setT s.ts t (.bool (.lit 0)), s.H⟩ a w := by
  obtain ⟨x, hx, hr⟩ := h.ts.get hn bool_undef
  have := bool_r hr; subst x
  refine ⟨?_, by show DfOk env ρ (setT s.ts t _).d a.defers; rw [setT_d]; exact h.defers, h.heap, h.below, h.size⟩
  have hs := h.ts.set (v := .bool (.lit 0)) (x := .bool (e.tt env)) (by simp [C.r, tt_lit, intBeq_eq, ht]) t
  rw [set_self hx] at hs
  exact hs

theorem guard_by {all : Array Oper} {o : Oper} {t : Tmp} {e : E} (h : TsOk env ρ s.ts a.tmps) (hg : evGuard all s.ts o = .open_ t e) :
    ∃ j want, o.guard = some (j, want) ∧ Region.wanted o (yielded all a.tmps) = (e.tt env == want) := by
  obtain ⟨hn, j, want, ho, ht⟩ := guard_open hg
  obtain ⟨x, hx, hr⟩ := h.get hn bool_undef
  have := bool_r hr; subst x
  refine ⟨j, want, ho, ?_⟩
  simp only [Region.wanted, ho, yielded_of ht, hx]
  rfl

/-! ### A region in the order of the text -/

theorem evOps_ok (hE : EnvOk env K w0 B) {call : FuncId → List C → List Blk → T (C × List Blk)} (hcall : CallOk env K w0 B call) {why : Nat} {all : Array Oper} {G : St → Prop} {Q : Exit → Act → World → Prop} :
    ∀ (l : List Oper) (s : St) (ρ : List Nat) (a : Act) (w : World), Sim env w0 B ρ s a w → (evOps K call why all l s).sat env G →
      (∀ s' ρ' a' w', Pre ρ ρ' → Sim env w0 B ρ' s' a' w' → G s' → Q .normal a' w') → wpList K.P all Q l a w := by
  intro l
  induction l with
  | nil => intro s ρ a w h hs hQ; exact hQ s ρ a w (Pre.refl _) h hs
  | cons o l ih =>
    intro s ρ a w h hs hQ
    have step : ∀ s1, Sim env w0 B ρ s1 a w → Region.wanted o (yielded all a.tmps) = true → (evStep K call why o s1 (evOps K call why all l)).sat env G → wpList K.P all Q (o :: l) a w := by
      intro s1 h1 hw hs1
      unfold wpList
      rw [if_pos hw]
      exact .inl (evStep_ok hE hcall h1 hs1 (fun s' ρ' a' w' hp hS hk => ih s' ρ' a' w' hS hk (fun s'' ρ'' a'' w'' hp' hS' hG => hQ s'' ρ'' a'' w'' (hp.trans hp') hS' hG)))
    have skip : ∀ s1, Sim env w0 B ρ s1 a w → Region.wanted o (yielded all a.tmps) = false → (evOps K call why all l ⟨putD s1.ts o.dst C.undef, s1.H⟩).sat env G → wpList K.P all Q (o :: l) a w := by
      intro s1 h1 hw hs1
      unfold wpList
      rw [if_neg (by simp [hw])]
      exact ih _ ρ _ w (h1.put undef_r o.dst) hs1 hQ
    simp only [evOps] at hs
    split at hs
    · rename_i hg; exact step s h (guard_known h.ts hg) hs
    · rename_i hg; exact skip s h (guard_known h.ts hg) hs
    · rename_i t e hg
      obtain ⟨hn, _⟩ := guard_open hg
      obtain ⟨j, want, ho, hw⟩ := guard_by h.ts hg
      rw [ho] at hs
      simp only [] at hs
      cases want with
      | true =>
        simp only [if_true] at hs
        cases ht : e.tt env with
        | true => exact step _ (refine_one h hn ht) (by rw [hw, ht]; rfl) (hs.1 ht)
        | false => exact skip _ (refine_zero h hn ht) (by rw [hw, ht]; rfl) (hs.2 ht)
      | false =>
        simp only [Bool.false_eq_true, if_false] at hs
        cases ht : e.tt env with
        | true => exact skip _ (refine_one h hn ht) (by rw [hw, ht]; rfl) (hs.1 ht)
        | false => exact step _ (refine_zero h hn ht) (by rw [hw, ht]; rfl) (hs.2 ht)
    · exact hs.elim

/-! ### A region that draws its order -/

/-- The world still holds the blocks of the region's beginning. -/
def Keeps (env : Env) (w0 : World) (B : Nat) (ρ : List Nat) (H0 : List Blk) (ld : Bool) (w' : World) : Prop :=
  ld = true → ∃ ρ' H', Pre ρ ρ' ∧ HeapOk env B ρ' (H0 ++ H') w' ∧ Below B w0 w'

theorem pickOpen_ok {all : Array Oper} : ∀ {l : List Nat} {t : Tmp} {e : E}, pickOpen all s l = some (t, e) → getT s.ts t = .bool e := by
  intro l
  induction l with
  | nil => intro t e h; simp [pickOpen] at h
  | cons i l ih =>
    intro t e h
    simp only [pickOpen] at h
    split at h
    · split at h
      · rename_i hg
        simp only [Option.some.injEq, Prod.mk.injEq] at h; obtain ⟨rfl, rfl⟩ := h
        exact (guard_open hg).1
      · exact ih h
    · exact ih h

theorem pickTake_ok {all : Array Oper} {ld : Bool} {H0 : List Blk} {listed : Array Bool} : ∀ {l : List Nat} {i : Nat} {v : C × E}, pickTake K ld H0 all listed s l = some (i, v) →
    i ∈ l ∧ ∃ o, all[i]? = some o ∧ evTake K ld H0 all o s = some v ∧ Region.free .any all listed i = true := by
  intro l
  induction l with
  | nil => intro i v h; simp [pickTake] at h
  | cons i l ih =>
    intro i' v h
    simp only [pickTake] at h
    split at h
    · rename_i o ho
      split at h
      · rename_i v' hv
        split at h
        · rename_i hf
          simp only [Option.some.injEq, Prod.mk.injEq] at h; obtain ⟨rfl, rfl⟩ := h
          exact ⟨by simp, o, by rw [getL_eq] at ho; simpa using ho, hv, hf⟩
        · obtain ⟨h1, h2⟩ := ih h; exact ⟨by simp [h1], h2⟩
      · obtain ⟨h1, h2⟩ := ih h; exact ⟨by simp [h1], h2⟩
    · obtain ⟨h1, h2⟩ := ih h; exact ⟨by simp [h1], h2⟩

theorem isLit1_tt {e : E} (h : isLit1 e = true) : e.tt env = true := by
  unfold isLit1 at h
  split at h
  · rw [tt_lit]; exact h
  · cases h

theorem evOpR_tag {o : Oper} {v : C} {n : E} {s1 s2 : St} (hl : isLd o.op = false) (ht : s1.ts = s2.ts) (h : evOpR K s1 o.op = some (v, n)) : evOpR K s2 o.op = some (v, n) := by
  obtain ⟨ts, H1⟩ := s1
  obtain ⟨ts2, H2⟩ := s2
  simp only at ht; subst ht
  generalize o.op = op at hl h ⊢
  cases op <;> first | (simp [isLd] at hl; done) | exact h

theorem getL_append {α : Type} {l m : List α} {i : Nat} {x : α} (h : getL l i = some x) : getL (l ++ m) i = some x := by
  rw [getL_eq] at h ⊢
  rw [List.getElem?_append_left (List.getElem?_eq_some_iff.1 h).1]; exact h

/-- A read out of the blocks of the beginning is the same with more blocks behind them. -/
theorem evOpR_more {o : Oper} {v : C} {n : E} {ts : Ts} {H0 H' : List Blk} (h : evOpR K ⟨ts, H0⟩ o.op = some (v, n)) : evOpR K ⟨ts, H0 ++ H'⟩ o.op = some (v, n) := by
  by_cases hl : isLd o.op = true
  · cases ho : o.op <;> simp [isLd, ho] at hl
    · rename_i t p
      rw [ho] at h
      simp only [evOpR_ld (op := .load t p) rfl, evOpR0, evLoad] at h ⊢
      split at h
      · rename_i b off hp
        cases hb : getL H0 b with
        | none => simp [hb] at h
        | some bl => rw [getL_append hb]; rw [hb] at h; exact h
      · exact h
      · exact h
    · rename_i t m ix ok
      rw [ho] at h
      simp only [evOpR_ld (op := .lookup t m ix ok) rfl, evOpR0, evLookup] at h ⊢
      split at h
      · rename_i kt et b k e hu hm hix
        cases hb : getL H0 b with
        | none => rw [hb] at h; split at h <;> simp_all
        | some bl => rw [getL_append hb]; rw [hb] at h; exact h
      · cases h
  · exact evOpR_tag (s1 := ⟨ts, H0⟩) (s2 := ⟨ts, H0 ++ H'⟩) (by simpa using hl) rfl h

theorem allOf_sat {α : Type} {f : Nat → T α} {G : α → Prop} : ∀ {l : List Nat}, (allOf f l).sat env G → ∀ i ∈ l, (f i).sat env G := by
  intro l
  induction l with
  | nil => intro h; exact h.elim
  | cons i l ih =>
    intro h j hj
    cases l with
    | nil => simp at hj; subst hj; exact h
    | cons i' l' =>
      simp only [allOf] at h
      obtain ⟨h1, h2⟩ := h
      rcases List.mem_cons.1 hj with rfl | hj
      · exact h1
      · exact ih h2 j hj

theorem wkGo_at (mk : List Nat) : ∀ (H : List Blk) (i j : Nat) (b : Blk), (wkGo mk i H)[j]? = some b → ∃ b', H[j]? = some b' ∧ (b = b' ∨ ∃ cs t, b' = .cells cs t ∧ b = .cells (cs.map fun _ => .bad) t) := by
  intro H
  induction H with
  | nil => intro i j b h; simp [wkGo] at h
  | cons x H ih =>
    intro i j b h
    cases j with
    | zero =>
      simp only [wkGo, List.getElem?_cons_zero, Option.some.injEq] at h
      refine ⟨x, rfl, ?_⟩
      split at h
      · cases x with
        | cells cs t => exact .inr ⟨cs, t, rfl, h.symm⟩
        | mp es n => exact .inl h.symm
      · exact .inl h.symm
    | succ j =>
      simp only [wkGo, List.getElem?_cons_succ] at h
      obtain ⟨b', h1, h2⟩ := ih (i + 1) j b h
      exact ⟨b', by simpa using h1, h2⟩

theorem wkGo_len (mk : List Nat) : ∀ (H : List Blk) (i : Nat), (wkGo mk i H).length = H.length := by
  intro H
  induction H with
  | nil => intro i; rfl
  | cons x H ih => intro i; simp only [wkGo, List.length_cons, ih]

theorem wkH_ok {mk : List Nat} {H : List Blk} (h : HeapOk env B ρ H w) : HeapOk env B ρ (wkH mk H) w := by
  unfold wkH
  split
  · exact h
  · refine ⟨by rw [wkGo_len]; exact h.len, h.lo, h.inj, fun i g b hi hb => ?_, h.fz, h.fm⟩
    obtain ⟨b', h1, h2⟩ := wkGo_at mk H 0 i b hb
    have h3 := h.blk i g b' hi h1
    rcases h2 with rfl | ⟨cs, t, rfl, rfl⟩
    · exact h3
    · obtain ⟨xs, tl, hx, hr, _⟩ := h3
      refine ⟨xs, tl, hx, ⟨by simp [hr.1], fun q c x hc _ => ?_⟩, fun k v hk _ => ?_⟩
      rotate_left
      · rw [List.getElem?_map] at hk
        cases hq : cs[k]? with
        | none => simp [hq] at hk
        | some c' => simp [hq] at hk
      · 
        rw [List.getElem?_map] at hc
        cases hq : cs[q]? with
        | none => simp [hq] at hc
        | some c' => simp only [hq, Option.map_some, Option.some.injEq] at hc; subst hc; exact bad_r x

/-- The value that an operation taken first yields in every world that keeps the blocks of the beginning. -/
theorem take_yields (hE : EnvOk env K w0 B) {ld : Bool} {H0 : List Blk} {ρ0 : List Nat} {all : Array Oper} (hlen0 : ρ0.length = H0.length) {o : Oper} {v : C} {nd : E} (hp0 : Pre ρ0 ρ) (h : Sim env w0 B ρ s a w) (hld : ld = true → ∃ H', HeapOk env B ρ (H0 ++ H') w) (htk : evTake K ld H0 all o s = some (v, nd)) (hnd : nd.tt env = true) :
    ∃ x, v.r env ρ [x] ∧ YieldsIf K.P all (Keeps env w0 B ρ0 H0 ld) o x a := by
    unfold evTake at htk
    split at htk
    · rename_i hg
      simp only [Option.some.injEq, Prod.mk.injEq] at htk; obtain ⟨rfl, _⟩ := htk
      exact ⟨undef, undef_r, .inr ⟨guard_known h.ts hg, rfl⟩⟩
    · rename_i hg
      have hw := guard_known h.ts hg
      split at htk
      · rename_i hisld
        split at htk
        · rename_i hldt
          split at htk
          · rename_i v' nn hv
            split at htk
            · rename_i hc
              simp only [Option.some.injEq, Prod.mk.injEq] at htk; obtain ⟨rfl, _⟩ := htk
              simp only [Bool.and_eq_true] at hc
              obtain ⟨⟨hl1, hex⟩, hcl⟩ := hc
              obtain ⟨H'', hH''⟩ := hld hldt
              have hcut : TsOk env (ρ.take H0.length) (s.ts.mapC (C.cut H0.length)) a.tmps := h.ts.map rfl fun c x hc => cut_r _ hc
              have hcutd : DfOk env (ρ.take H0.length) (s.ts.mapC (C.cut H0.length)).d a.defers := h.defers.map fun _ _ c _ x hc => cut_r _ hc
              have hpt : Pre (ρ.take H0.length) ρ := fun i g hi => by
                rw [List.getElem?_take] at hi; split at hi
                · exact hi
                · cases hi
              have hS1 : Sim env w0 B ρ ⟨s.ts.mapC (C.cut H0.length), H0 ++ H''⟩ a w := ⟨hcut.mono hpt, hcutd.mono hpt, hH'', h.below, h.size⟩
              obtain ⟨x, hx, hrun⟩ := evOpR_ok hE hS1 (evOpR_more hv) (isLit1_tt hl1)
              refine ⟨x, hx, .inl ⟨hw, fun w1 hS => ?_⟩⟩
              obtain ⟨ρ', H', hp', hH', hb'⟩ := hS hldt
              have hpp : Pre (ρ.take H0.length) ρ' := fun i g hi => by
                rw [List.getElem?_take] at hi
                split at hi
                · rename_i hlt
                  rw [← hlen0] at hlt
                  have h0 := List.getElem?_eq_getElem hlt
                  have h1 := hp0 _ _ h0
                  rw [h1] at hi; cases hi
                  exact hp' _ _ h0
                · cases hi
              have hS2 : Sim env w0 B ρ' ⟨s.ts.mapC (C.cut H0.length), H0 ++ H'⟩ a w1 := ⟨hcut.mono hpp, hcutd.mono hpp, hH', hb', h.size⟩
              obtain ⟨x1, hx1, hrun1⟩ := evOpR_ok hE hS2 (evOpR_more hv) (isLit1_tt hl1)
              have hxc := cut_r H0.length hx
              rw [clean_cut hcl] at hxc
              have := exact_eq (fun _ _ h => h) hex (r_mono hpp hxc) hx1
              simp only [List.cons.injEq, and_true] at this
              rw [this]; exact hrun1
            · cases htk
          · cases htk
        · cases htk
      · rename_i hisld
        obtain ⟨x, hx, hrun⟩ := evOpR_pure hE h.ts (by simpa using hisld) htk hnd
        exact ⟨x, hx, .inl ⟨hw, fun w1 _ => hrun w1⟩⟩
    · cases htk

theorem evAny_ok (hE : EnvOk env K w0 B) {call : FuncId → List C → List Blk → T (C × List Blk)} (hcall : CallOk env K w0 B call) {why : Nat} {ld : Bool} {mk : List Nat} {H0 : List Blk} {ρ0 : List Nat} {all : Array Oper} (hsel : Region.noSelect all = true) (hlen0 : ρ0.length = H0.length) {G : St → Prop} {Q : Exit → Act → World → Prop}
    (hQp : ∀ c a w, ¬ Q (.panic c) a w) :
    ∀ (n m : Nat) (listed : Array Bool) (s : St) (ρ : List Nat) (a : Act) (w : World), Pre ρ0 ρ → Sim env w0 B ρ s a w → (ld = true → ∃ H', HeapOk env B ρ (H0 ++ H') w) → (evAny K call why ld mk H0 all n m listed s).sat env G →
      (∀ s' ρ' a' w', Pre ρ0 ρ' → Sim env w0 B ρ' s' a' w' → G s' → Q .normal a' w') → wpAnyH K.P .any all Q (Keeps env w0 B ρ0 H0 ld) m listed a w := by
  intro n
  induction n with
  | zero => intro m listed s ρ a w _ _ _ hs; exact hs.elim
  | succ n ih =>
    intro m listed s ρ a w hp0 h hld hs hQ
    simp only [evAny] at hs
    split at hs
    · rename_i hr; exact wpAnyH_done hr (hQ s ρ a w hp0 h hs) m
    · rename_i r rs hr
      split at hs
      · rename_i t e hpo
        have hnth := pickOpen_ok hpo
        cases ht : e.tt env with
        | true => exact ih m listed _ ρ a w hp0 (refine_one h hnth ht) hld (hs.1 ht) hQ
        | false => exact ih m listed _ ρ a w hp0 (refine_zero h hnth ht) hld (hs.2 ht) hQ
      · split at hs
        · exact hs.elim
        · rename_i m
          have hkeep : Keeps env w0 B ρ0 H0 ld w := fun hl => by
            obtain ⟨H', hH'⟩ := hld hl
            exact ⟨ρ, H', hp0, hH', h.below⟩
          split at hs
          · rename_i i v nd hpt
            obtain ⟨hmem, o, ho, htk, hfree⟩ := pickTake_ok hpt
            split at hs
            · rename_i o' ho'
              have hoo : o' = o := by rw [getL_eq] at ho'; simp at ho'; rw [ho] at ho'; cases ho'; rfl
              subst hoo
              have hready : (Region.ready .any all listed).contains i = true := by rw [hr]; simpa using hmem
              obtain ⟨hnd, hs⟩ := needT_sat hs
              have hy := take_yields hE hlen0 hp0 h hld htk hnd
              obtain ⟨x, hx, hyi⟩ := hy
              refine wpAnyH_take ho hsel hfree hready (fun c a w hq => absurd hq (hQp c _ _)) hyi hkeep ?_
              exact ih m _ _ ρ _ w hp0 (h.put hx o'.dst) hld hs hQ
            · exact hs.elim
          · refine wpAnyH_all hr (by simp) (fun i hi => ?_)
            have hsi := allOf_sat hs i hi
            split at hsi
            · rename_i o ho
              have ho' : all[i]? = some o := by rw [getL_eq] at ho; simpa using ho
              split at hsi
              · rename_i hg
                have hw := guard_known h.ts hg
                unfold wpOp
                rw [ho']
                simp only [hw, if_true]
                refine .inl (evStep_ok hE hcall h hsi (fun s' ρ' a' w' hp hS hk => ?_))
                split at hk
                · rename_i hc
                  have hld' : ld = true → ∃ H', HeapOk env B ρ' (H0 ++ H') w' := fun hl => by
                    have : preH H0 (wkH mk s'.H) = true := by simpa [hl] using hc
                    obtain ⟨H', hH'⟩ := preH_eq this
                    exact ⟨H', by rw [← hH']; exact wkH_ok hS.heap⟩
                  refine ⟨fun hl => ?_, ih m _ s' ρ' a' w' (hp0.trans hp) hS hld' hk hQ⟩
                  obtain ⟨H', hH'⟩ := hld' hl
                  exact ⟨ρ', H', hp0.trans hp, hH', hS.below⟩
                · exact hk.elim
              · exact hsi.elim
            · exact hsi.elim

/-! ### Calm regions leave memory as it is -/

theorem evStep_calm {call : FuncId → List C → List Blk → T (C × List Blk)} {why : Nat} {o : Oper} {s : St} {k : St → T St} {p : St → Prop} (hc : calmOp o.op = true) (hk : ∀ v, allL p (k ⟨putD s.ts o.dst v, s.H⟩)) : allL p (evStep K call why o s k) := by
  have hkeys : openKeys s o.op = none := by
    unfold openKeys
    split
    · rename_i h; rw [h] at hc; cases hc
    · rfl
  have hidx : openIdx K s o.op = none := by
    unfold openIdx
    split
    · rename_i h; rw [h] at hc; cases hc
    · rename_i h; rw [h] at hc; cases hc
    · rfl
  have hneed : ∀ (n : E) (t : T St), allL p t → allL p (needT n t) := fun n t h => by
    unfold needT
    split
    · split
      · exact h
      · exact h
    · exact h
  unfold evStep
  rw [hkeys]
  simp only [hidx]
  unfold evStep0
  split
  · exact hneed _ _ (hk _)
  · split
    · rename_i c h; rw [h] at hc; cases hc
    · rename_i c h; rw [h] at hc; cases hc
    · rename_i op hop
      have : evOpW K.P s o.op = none := by
        generalize o.op = q at hc
        cases q <;> first | rfl | cases hc
      rw [this]
      exact trivial

theorem evOps_calm {call : FuncId → List C → List Blk → T (C × List Blk)} {why : Nat} {all : Array Oper} {H : List Blk} : ∀ (l : List Oper) (s : St), (∀ o ∈ l, calmOp o.op = true) → s.H = H → allL (fun s' => s'.H = H) (evOps K call why all l s) := by
  intro l
  induction l with
  | nil => intro s _ h; exact h
  | cons o l ih =>
    intro s hl h
    have hc := hl o (by simp)
    have hr := fun o ho => hl o (List.mem_cons_of_mem _ ho)
    simp only [evOps]
    split
    · exact evStep_calm hc fun v => ih _ hr h
    · exact ih _ hr h
    · rename_i t e hg
      have step : ∀ s1 : St, s1.H = H → allL (fun s' => s'.H = H) (evStep K call why o s1 (evOps K call why all l)) := fun s1 h1 => evStep_calm hc fun v => ih _ hr h1
      have skip : ∀ ts1 : Ts, allL (fun s' => s'.H = H) (evOps K call why all l ⟨ts1, s.H⟩) := fun ts1 => ih _ hr h
      split
      · split
        · exact ⟨step _ h, skip _⟩
        · exact ⟨skip _, step _ h⟩
      · split
        · exact ⟨step _ h, skip _⟩
        · exact ⟨skip _, step _ h⟩
    · exact trivial

end
end Go.Sx
