/-
  The symbolic executor is right: what it answers of a call holds of the model's call. No condition but those in the statements.
-/
import Derived.Test.YtnlgfccjohhcmaaGreatDoorSxU
import Derived.LoopN
namespace Go.Sx
open Go.RowKit

section
variable {env : Env} {w0 : World} {B : Nat} {K : Ctx}

theorem evRegion_ok (hE : EnvOk env K w0 B) {call : FuncId → List C → List Blk → T (C × List Blk)} (hcallz : ∀ z, CallOk (env.fr z) K w0 B call) {why id : Nat} {ops : Array Oper} {draw : Bool} {s : St} {ρ : List Nat} {a : Act} {w : World} {G : St → Prop} {Q : Exit → Act → World → Prop}
    (h : Sim env w0 B ρ s a w) (hs : (evRegion K call why ops draw s).sat env G) (hQ : ∀ s' ρ' a' w', Pre ρ ρ' → Sim env w0 B ρ' s' a' w' → G s' → Q .normal a' w') : (Code.region id ops draw).wp K.P Q a w := by
  have hcall : CallOk env K w0 B call := hcallz env.fz
  unfold evRegion at hs
  split at hs
  · rename_i hd; subst hd
    split at hs
    · rename_i hc
      simp only [Bool.and_eq_true] at hc
      have hw : Sim env w0 B ρ s a { w with drawn := w.drawn + 1 } := h.drew
      refine Code.wp_mono (Q := fun e a w => e = .normal ∧ Q .normal a w) (fun e a w q => by rw [q.1]; exact q.2) ?_
      split at hs
      · rename_i t ht
        exact wp_region_held hc.2 (evMap_ok hE hcallz hc.1 (fun c a w q => by cases q.1) ht hw hs (fun s' ρ' a' w' hp hS hG => ⟨rfl, hQ s' ρ' a' w' hp hS hG⟩))
      split at hs
      · rename_i hwb
        have hwell := wellB_of hwb
        rw [forceN_eq] at hs
        split at hs
        case isFalse => exact wp_region_held hc.2 (evQ_ok hE hcall hc.1 hwell h.heap.len (G := G) (fun c a w q => by cases q.1) _ _ _ s ρ a _ (by simp) (Bits.zero _) (Pre.refl _) hw (fun h => by cases h) hs (fun s' ρ' a' w' hp hS hG => ⟨rfl, hQ s' ρ' a' w' hp hS hG⟩))
        refine wp_region_any hc.2 (wpAny_of_F _ _ _ _ (evF_ok hE hcall hc.1 hwell (wkH_ok (mk := K.wm why ops.size s.H.length ++ (storeMask ops s.ts ops.toList).getD []) hw.heap).len (G := G) (fun c a w q => by cases q.1) _ _ _ s ρ a _ (by simp) (Bits.zero _) (fun k ok _ hl => by have := Bits.zero ops.size k; rw [this] at hl; simp at hl) (Pre.refl _) hw ⟨[], by rw [List.append_nil]; exact wkH_ok hw.heap⟩ hs (fun s' ρ' a' w' hp hS hG => ⟨rfl, hQ s' ρ' a' w' hp hS hG⟩)))
      split at hs
      · rename_i mk hmk
        exact wp_region_held hc.2 (evAny_ok hE hcall hc.1 (wkH_ok (mk := K.wm why ops.size s.H.length ++ mk) hw.heap).len (G := G) (fun c a w q => by cases q.1) _ _ _ s ρ a _ (Pre.refl _) hw (fun _ => ⟨[], by rw [List.append_nil]; exact wkH_ok hw.heap⟩) hs (fun s' ρ' a' w' hp hS hG => ⟨rfl, hQ s' ρ' a' w' hp hS hG⟩))
      · exact wp_region_held hc.2 (evAny_ok hE hcall hc.1 h.heap.len (G := G) (fun c a w q => by cases q.1) _ _ _ s ρ a _ (Pre.refl _) hw (fun h => by cases h) hs (fun s' ρ' a' w' hp hS hG => ⟨rfl, hQ s' ρ' a' w' hp hS hG⟩))
    · exact hs.elim
  · rename_i hd
    have hd : draw = false := by simpa using hd
    subst hd
    exact wp_region_list (evOps_ok hE hcall _ s ρ a w h hs hQ)

/-! ### Results -/

def res1 (tmps : Array Value) (x : ResultVar) : Sem Value :=
  match x with
  | .tmp t => pure (tmps.getD t undef)
  | .cell p t => do loadVar t (← asAddr (tmps.getD p undef))

theorem results_eq (fn : Func) (tmps : Array Value) : results fn tmps = (do
    let vs ← fn.results.mapM (res1 tmps)
    pure (if h : vs.size = 1 then vs[0] else .tuple vs)) := by
  unfold results
  congr 1

theorem evRes1_ok {s : St} {ρ : List Nat} {a : Act} {w : World} (h : Sim env w0 B ρ s a w) {x : ResultVar} {v : C} (hv : evRes1 K.P s x = some v) :
    ∃ z, v.r env ρ [z] ∧ (res1 a.tmps x).run K.P w = .ok z w := by
  unfold evRes1 at hv
  cases x with
  | tmp t =>
    simp only [Option.some.injEq] at hv; subst hv
    refine ⟨_, h.ts.r t, ?_⟩
    simp [res1]
  | cell p t =>
    simp only [] at hv
    split at hv
    · rename_i b o hp
      split at hv
      · rename_i cs ty hb
        rw [getL_eq] at hb
        have hr := h.ts.r p
        rw [hp] at hr
        obtain ⟨g, hg, he⟩ := ptr_r hr
        obtain ⟨xs, tl, hxs, hrr, _⟩ := h.heap.blk b g _ hg hb
        obtain ⟨z, hz, hl⟩ := loadVar_part (P := K.P) hv hrr
        refine ⟨z, hz, ?_⟩
        have he' : a.tmps.getD p undef = .pointer (some ⟨g, o, none⟩) := by
          rw [he]
        simp only [res1, he', asAddr, Sem.run_bind, Sem.run_pure, Result.andThen_ok]
        exact hl w g tl ty _ hxs
      · cases hv
    · cases hv

theorem evResL_ok {s : St} {ρ : List Nat} {a : Act} {w : World} (h : Sim env w0 B ρ s a w) : ∀ (rs : List ResultVar) (vs : List C), evResL K.P s rs = some vs →
    ∃ zs, Rels env ρ vs zs ∧ (rs.mapM (res1 a.tmps)).run K.P w = .ok zs w := by
  intro rs
  induction rs with
  | nil => intro vs hv; simp only [evResL, Option.some.injEq] at hv; subst hv; exact ⟨[], .nil, rfl⟩
  | cons x rs ih =>
    intro vs hv
    simp only [evResL] at hv
    split at hv
    · rename_i v vs' h1 h2
      simp only [Option.some.injEq] at hv; subst hv
      obtain ⟨z, hz, hr⟩ := evRes1_ok h h1
      obtain ⟨zs, hzs, hrs⟩ := ih vs' h2
      refine ⟨z :: zs, .cons hz hzs, ?_⟩
      simp only [List.mapM_cons, Sem.run_bind, hr, Result.andThen_ok, hrs, Sem.run_pure]
    · cases hv

theorem evResults_ok {s : St} {ρ : List Nat} {a : Act} {w : World} (h : Sim env w0 B ρ s a w) {fn : Func} {v : C} (hv : evResults K.P fn.results.toList s = some v) :
    ∃ z, v.r env ρ [z] ∧ (results fn a.tmps).run K.P w = .ok z w := by
  unfold evResults at hv
  split at hv
  · rename_i vs hvs
    obtain ⟨zs, hzs, hr⟩ := evResL_ok h _ vs hvs
    have hrun : (fn.results.mapM (res1 a.tmps)).run K.P w = .ok zs.toArray w := by
      rw [Array.mapM_eq_mapM_toList, Sem.run_map, hr]
      rfl
    split at hv
    · rename_i v1
      simp only [Option.some.injEq] at hv; subst hv
      obtain ⟨z, zs', rfl, hz, hzs'⟩ := hzs.uncons
      have : zs' = [] := by have := hzs'.1; cases zs' with
        | nil => rfl
        | cons => simp at this
      subst this
      refine ⟨z, hz, ?_⟩
      rw [results_eq, Sem.run_bind, hrun]
      rfl
    · rename_i hne
      simp only [Option.some.injEq] at hv; subst hv
      refine ⟨.tuple zs.toArray, ⟨zs, toC_r.2 hzs, rfl⟩, ?_⟩
      rw [results_eq, Sem.run_bind, hrun]
      have hl : zs.toArray.size ≠ 1 := by
        intro hl
        have h1 : vs.length = 1 := by rw [hzs.1]; simpa using hl
        obtain ⟨u, hu⟩ := List.length_eq_one_iff.1 h1
        exact hne u hu
      simp only [Result.andThen_ok, Sem.run_pure]
      rw [dif_neg hl]
  · cases hv

/-! ### The temporaries as a call begins; those that are kept -/

theorem getA_args : ∀ (l : List C) (i t : Nat), getA (ofArgs l i) t = .bad ∨ (i ≤ t ∧ l[t - i]? = some (getA (ofArgs l i) t)) := by
  intro l
  induction l with
  | nil => intro i t; exact .inl rfl
  | cons c l ih =>
    intro i t
    show getA ((i, c) :: ofArgs l (i + 1)) t = .bad ∨ (i ≤ t ∧ (c :: l)[t - i]? = some (getA ((i, c) :: ofArgs l (i + 1)) t))
    rw [getA_cons]
    by_cases h : i = t
    · subst h; rw [if_pos rfl]; exact .inr ⟨Nat.le_refl _, by simp⟩
    · rw [if_neg h]
      rcases ih (i + 1) t with h1 | ⟨h1, h2⟩
      · exact .inl h1
      · refine .inr ⟨by omega, ?_⟩
        rw [show t - i = (t - (i + 1)) + 1 by omega, List.getElem?_cons_succ]; exact h2

theorem start_ok {ρ : List Nat} {vs : List C} {xs : List Value} (h : Rels env ρ vs xs) (n : Nat) : TsOk env ρ (Ts.start vs n) (xs.toArray ++ Array.replicate (n - xs.toArray.size) undef) := by
  refine ⟨by simp [Ts.start, h.1], fun t => ?_⟩
  show (getA (ofArgs vs 0) t).r env ρ _
  rcases getA_args vs 0 t with hb | ⟨_, hc⟩
  · rw [hb]; exact bad_r _
  · rw [Nat.sub_zero] at hc
    have hlt : t < xs.length := by rw [← h.1]; exact (List.getElem?_eq_some_iff.1 hc).1
    have hx : xs[t]? = some xs[t] := List.getElem?_eq_getElem hlt
    have : (xs.toArray ++ Array.replicate (n - xs.toArray.size) undef).getD t undef = xs[t] := by
      rw [Array.getD_eq_getD_getElem?, Array.getElem?_append_left (by simpa using hlt)]; simp [hlt]
    rw [this]
    exact h.2 t _ _ hc hx

theorem trimL_bad (lv t : Nat) : ∀ (l : List (Nat × C)) (seen : Nat), bitAt lv t = false ∨ bitAt seen t = true → getA (trimL lv l seen) t = .bad := by
  intro l
  induction l with
  | nil => intro seen _; rfl
  | cons p l ih =>
    intro seen h
    show getA (cond (bitAt lv p.1 && !bitAt seen p.1) (p :: forceN (trimL lv l) (Nat.lor seen (Nat.shiftLeft 1 p.1))) (trimL lv l seen)) t = .bad
    cases hc : (bitAt lv p.1 && !bitAt seen p.1) with
    | false => exact ih seen h
    | true =>
      show getA (p :: forceN (trimL lv l) (Nat.lor seen (Nat.shiftLeft 1 p.1))) t = .bad
      rw [forceN_eq, getA_cons]
      have hne : p.1 ≠ t := fun e => by rw [e] at hc; rcases h with h | h <;> rw [h] at hc <;> simp at hc
      rw [if_neg hne]
      refine ih _ (h.imp id fun h => ?_)
      rw [bitAt_eq] at h ⊢
      rw [bit_set, h]; rfl

theorem trimL_get (lv t : Nat) : ∀ (l : List (Nat × C)) (seen : Nat), getA (trimL lv l seen) t = getA l t ∨ getA (trimL lv l seen) t = .bad := by
  intro l
  induction l with
  | nil => intro seen; exact .inl rfl
  | cons p l ih =>
    intro seen
    show getA (cond (bitAt lv p.1 && !bitAt seen p.1) (p :: forceN (trimL lv l) (Nat.lor seen (Nat.shiftLeft 1 p.1))) (trimL lv l seen)) t = _ ∨ getA (cond (bitAt lv p.1 && !bitAt seen p.1) (p :: forceN (trimL lv l) (Nat.lor seen (Nat.shiftLeft 1 p.1))) (trimL lv l seen)) t = .bad
    rw [getA_cons]
    cases hc : (bitAt lv p.1 && !bitAt seen p.1) with
    | false =>
      show getA (trimL lv l seen) t = _ ∨ getA (trimL lv l seen) t = .bad
      by_cases he : p.1 = t
      · right
        apply trimL_bad
        rw [he] at hc
        cases h1 : bitAt lv t with
        | false => exact .inl rfl
        | true => cases h2 : bitAt seen t with
          | true => exact .inr rfl
          | false => rw [h1, h2] at hc; cases hc
      · rw [if_neg he]; exact ih seen
    | true =>
      show getA (p :: forceN (trimL lv l) (Nat.lor seen (Nat.shiftLeft 1 p.1))) t = _ ∨ getA (p :: forceN (trimL lv l) (Nat.lor seen (Nat.shiftLeft 1 p.1))) t = .bad
      rw [forceN_eq, getA_cons]
      by_cases he : p.1 = t
      · rw [if_pos he]; exact .inl (by simp [he])
      · rw [if_neg he, if_neg he]; exact ih _

theorem trimT_ok {ρ : List Nat} {ts : Ts} {xs : Array Value} (h : TsOk env ρ ts xs) (lv : Nat) : TsOk env ρ (trimT lv ts) xs := by
  refine ⟨h.n, fun t => ?_⟩
  show (getA (trimL lv ts.l 0) t).r env ρ _
  rcases trimL_get lv t ts.l 0 with e | e <;> rw [e]
  · exact h.r t
  · exact bad_r _

/-! ### Behind a call -/

theorem clean_take {m : Nat} {ρ : List Nat} {c : C} {xs : List Value} (h : c.clean m = true) (hr : c.r env ρ xs) : c.r env (ρ.take m) xs := by
  have := cut_r m hr
  rwa [clean_cut h] at this

theorem blkClean_take {m : Nat} {ρ : List Nat} {w : World} {g : Nat} {b : Blk} (h : blkClean m b = true) (hb : BlkOk env B ρ w g b) : BlkOk env B (ρ.take m) w g b := by
  cases b with
  | cells cs ty =>
    obtain ⟨xs, tl, hx, hr, hq⟩ := hb
    refine ⟨xs, tl, hx, ⟨hr.1, fun i c x hc hx' => clean_take (List.all_eq_true.1 h c (List.mem_of_getElem? hc)) (hr.2 i c x hc hx')⟩, fun k v hk hv => (hq k v hk hv).take m⟩
  | mp es clock =>
    obtain ⟨ms, c, hx, hm⟩ := hb
    have hcl := List.all_eq_true.1 h
    simp only [Bool.and_eq_true] at hcl
    have := hm.map (env' := env) (ρ' := ρ.take m) (f := fun c => c) (fun _ _ => rfl) (fun e he _ => clean_take (hcl e he).1) (fun e he _ => clean_take (hcl e he).2)
    exact ⟨ms, c, hx, by simpa using this⟩

theorem dropNew_ok {ρ ρ' : List Nat} {m : Nat} {v : C} {H : List Blk} {z : Value} {w : World} (hp : Pre ρ ρ') (hm : ρ.length = m) (hv : v.r env ρ' [z]) (hH : HeapOk env B ρ' H w) :
    ∃ ρ'', Pre ρ ρ'' ∧ (dropNew m v H).1.r env ρ'' [z] ∧ HeapOk env B ρ'' (dropNew m v H).2 w := by
  unfold dropNew
  split
  · exact ⟨ρ', hp, hv, hH⟩
  split
  · rename_i hc
    simp only [Bool.and_eq_true] at hc
    have tk : ∀ (i g : Nat), (ρ'.take m)[i]? = some g → ρ'[i]? = some g := fun i g hi => by
      rw [List.getElem?_take] at hi
      split at hi
      · exact hi
      · cases hi
    refine ⟨ρ'.take m, fun i g hi => ?_, clean_take hc.1 hv, ⟨by simp [hH.len], fun i g hi => hH.lo i g (tk i g hi), fun i j g hi hj => hH.inj i j g (tk i g hi) (tk j g hj), fun i g b hi hb => ?_, fun g o ho => ⟨(hH.fz g o ho).1, fun i hi => (hH.fz g o ho).2 i (tk i g hi)⟩, hH.fm⟩⟩
    · rw [List.getElem?_take_of_lt (by rw [← hm]; exact (List.getElem?_eq_some_iff.1 hi).1)]; exact hp i g hi
    · have hb0 := List.all_eq_true.1 hc.2 b (List.mem_of_getElem? hb)
      rw [List.getElem?_take] at hb
      split at hb
      · exact blkClean_take hb0 (hH.blk i g b (tk i g hi) hb)
      · cases hb
  · exact ⟨ρ', hp, hv, hH⟩

/-! ### Code -/

def liftQ (Q : X → Act → World → Prop) : Exit → Act → World → Prop
  | .normal, a, w => Q .normal a w
  | .exit id, a, w => Q (.exit id) a w
  | .ret, a, w => Q .ret a w
  | _, _, _ => False

def CodeOk (env : Env) (K : Ctx) (w0 : World) (B : Nat) (n : Nat) : Prop :=
  ∀ (f : FuncId) (c : Code) (s : St) (ρ : List Nat) (a : Act) (w : World) (Q : X → Act → World → Prop), Sim env w0 B ρ s a w → (evCode K n f c s).sat env (After env w0 B ρ Q) → c.wp K.P (liftQ Q) a w

def LoopOk (env : Env) (K : Ctx) (w0 : World) (B : Nat) (n : Nat) : Prop :=
  ∀ (f : FuncId) (c : Code) (s : St) (ρ : List Nat) (a : Act) (w : World) (Q : X → Act → World → Prop), Sim env w0 B ρ s a w → (evCode K n f (.loop c) s).sat env (After env w0 B ρ Q) → Code.rounds K.P c (liftQ Q) n a w

/-- The summaries hold: those out of the arguments alone, those with memory, those of deferred calls. -/
structure SgOk (env : Env) (K : Ctx) : Prop where
  sg : ∀ (f : FuncId) (vs : List C) (v : C), K.sg f vs = some v → ∀ (ρ : List Nat) (xs : List Value) (w : World), EnvOk env K w w.heap.size → Rels env ρ vs xs →
    (∀ w, (callFunc f xs.toArray).run K.P w = .ok (.enter f xs.toArray) w) ∧ Calls K.P f xs.toArray w fun e w' => ∃ z, e = .returned z ∧ v.r env ρ [z] ∧ Below w.heap.size w w'
  sm : ∀ (z : Nat → Option Obj) (w0 : World) (B : Nat), EnvOk (env.fr z) K w0 B → ∀ (f : FuncId) (vs : List C) (H : List Blk) (t : T (C × List Blk)), K.sm f vs H = some t →
    ∀ (G : C × List Blk → Prop) (ρ : List Nat) (xs : List Value) (w : World), HeapOk (env.fr z) B ρ H w → Below B w0 w → B ≤ w0.heap.size → Rels env ρ vs xs → t.sat env G →
    (∀ w, (callFunc f xs.toArray).run K.P w = .ok (.enter f xs.toArray) w) ∧
    Calls K.P f xs.toArray w fun e w' => ∃ r y ρ', G r ∧ e = .returned y ∧ Pre ρ ρ' ∧ r.1.r env ρ' [y] ∧ HeapOk (env.fr z) B ρ' r.2 w' ∧ Below B w0 w'
  dg : ∀ (z : Nat → Option Obj) (w0 : World) (B : Nat), EnvOk (env.fr z) K w0 B → ∀ (f : FuncId) (vs : List C) (H H' : List Blk), K.dg f vs H = some H' →
    ∀ (ρ : List Nat) (xs : List Value) (w : World), HeapOk (env.fr z) B ρ H w → Below B w0 w → B ≤ w0.heap.size → Rels env ρ vs xs →
    (∀ w, (callFunc f xs.toArray).run K.P w = .ok (.enter f xs.toArray) w) ∧
    CallsD K.P f xs.toArray .returning w fun e u' w' => u' = .returning ∧ ∃ y ρ', e = .returned y ∧ Pre ρ ρ' ∧ HeapOk (env.fr z) B ρ' H' w' ∧ Below B w0 w'

/-- The deferred calls of a function that returns. -/
theorem evD_ok (hsg : SgOk env K) (hE : EnvOk env K w0 B) (hsz : B ≤ w0.heap.size) {fn : Func} {tmps : Array Value} {R : Ending → World → Prop} : ∀ (d : List (Nat × List C)) (es : List Deferred) (H H1 : List Blk) (ρ : List Nat) (w : World),
    DfOk env ρ d es → evD K d H = some H1 → HeapOk env B ρ H w → Below B w0 w →
    (∀ ρ' w', Pre ρ ρ' → HeapOk env B ρ' H1 w' → Below B w0 w' → ∃ v, (results fn tmps).run K.P w' = .ok v w' ∧ R (.returned v) w') → Leaves K.P fn tmps R es .returning w := by
  intro d
  induction d with
  | nil =>
    intro es H H1 ρ w hd he hH hb hR
    have hd : es = [] := hd
    subst hd
    have he : some H = some H1 := he
    cases he
    exact hR ρ w (Pre.refl _) hH hb
  | cons p d ih =>
    intro es H H1 ρ w hd he hH hb hR
    obtain ⟨cap, args, es', rfl, hr, hd'⟩ := hd
    simp only [evD] at he
    split at he
    · rename_i H' hdg
      obtain ⟨h1, h2⟩ := hsg.dg env.fz w0 B hE p.1 p.2 H H' hdg ρ _ w hH hb hsz hr
      have harr : args ++ cap = (args.toList ++ cap.toList).toArray := by apply Array.ext'; simp
      refine leaves_cons (f := p.1) (args := (args.toList ++ cap.toList).toArray) (by simp) ?_ (h2.mono ?_)
      · show (callFunc p.1 (args ++ cap)).run K.P w = _
        rw [harr]; exact h1 w
      · rintro e u' w' ⟨rfl, y, ρ', rfl, hp, hH', hb'⟩
        exact ih es' H' H1 ρ' w' (hd'.mono hp) he hH' hb' (fun ρ'' w'' hp' => hR ρ'' w'' (hp.trans hp'))
    · cases he

theorem After.pre {ρ ρ' : List Nat} {Q : X → Act → World → Prop} (hp : Pre ρ ρ') {r : X × St} (h : After env w0 B ρ Q r) : After env w0 B ρ' Q r :=
  fun ρ'' a w hp' hS => h ρ'' a w (hp.trans hp') hS

theorem callFunc_run {P : Program} {f : FuncId} {fn : Func} {c : Code} (hf : P.funcs[f]? = some fn) (hb : fn.body = some c) (hn : okName fn = true) (args : Array Value) (w : World) : (callFunc f args).run P w = .ok (.enter f args) w := by
  have hn' : ¬ fn.name = "runtime.NumGoroutine" := by simpa [okName] using hn
  simp [callFunc, hf, hb, hn']

theorem one_ok {ρ : List Nat} {c : C} {z : Value} (h : c.r env ρ [z]) : TsOk env ρ ⟨1, [(0, c)], []⟩ #[z] := by
  refine ⟨rfl, fun t => ?_⟩
  show (getA [(0, c)] t).r env ρ _
  rw [getA_cons]
  by_cases ht : 0 = t
  · subst ht; rw [if_pos rfl]; exact h
  · rw [if_neg ht]; exact bad_r _

theorem evFnBy_ok (hsg : SgOk env K) (hE : EnvOk env K w0 B) {n : Nat} (hcode : CodeOk env K w0 B n) (f : FuncId) (vs : List C) (H : List Blk) (G : C × List Blk → Prop) (ρ : List Nat) (xs : List Value) (w : World) (hH : HeapOk env B ρ H w) (hb0 : Below B w0 w) (hsz : B ≤ w0.heap.size)
    (hvs : Rels env ρ vs xs) (hs : (evFnBy K (fun c s => evCode K n f c s) f vs H).sat env G) :
    (∀ w, (callFunc f xs.toArray).run K.P w = .ok (.enter f xs.toArray) w) ∧
    Calls K.P f xs.toArray w fun e w' => ∃ r z ρ', G r ∧ e = .returned z ∧ Pre ρ ρ' ∧ r.1.r env ρ' [z] ∧ HeapOk env B ρ' r.2 w' ∧ Below B w0 w' := by
  unfold evFnBy at hs
  split at hs
  · rename_i fn hf
    split at hs
    · rename_i c hc
      split at hs
      · rename_i hn
        have hnrm := hE.nrm
        refine ⟨fun w => callFunc_run hf hc hn _ w, calls_of_wp_defers hf hc ?_⟩
        have hlen : ρ.length ≤ H.length := Nat.le_of_eq hH.len
        have hstart : Sim env w0 B ρ ⟨Ts.start vs fn.ntmps, H⟩ { tmps := xs.toArray ++ Array.replicate (fn.ntmps - xs.toArray.size) undef, defers := [] } w := by
          exact ⟨start_ok hvs _, rfl, hH, hb0, hsz⟩
        let Qr : X → Act → World → Prop := fun _ a1 w' => ∃ r ρ'', G r ∧ Pre ρ ρ'' ∧ r.1.r env ρ'' [a1.tmps.getD 0 undef] ∧ HeapOk env B ρ'' r.2 w' ∧ Below B w0 w'
        let R : Ending → World → Prop := fun e w' => ∃ r z' ρ', G r ∧ e = .returned z' ∧ Pre ρ ρ' ∧ r.1.r env ρ' [z'] ∧ HeapOk env B ρ' r.2 w' ∧ Below B w0 w'
        let Q : X → Act → World → Prop := fun _ a' w' => Leaves K.P fn a'.tmps R a'.defers .returning w'
        have h1 : (joinAt (K.sp f) H.length _).sat env (After env w0 B ρ Qr) := sat_mono (fun r hr ρ' a1 w' hp hS => ⟨_, ρ', hr, hp, hS.ts.r 0, hS.heap, hS.below⟩) (sat_bind hs)
        have h2 := sat_bind (joinAt_sat hlen h1)
        have h3 : (evCode K n f c ⟨Ts.start vs fn.ntmps, H⟩).sat env (fun r => (∀ id, r.1 ≠ .exit id) ∧ After env w0 B ρ Q r) := by
          refine sat_mono (fun r hr => ?_) h2
          obtain ⟨x, s'⟩ := r
          have key : (∀ id, x ≠ .exit id) → (match evD K s'.ts.d s'.H with
            | some H1 => match evResults K.P fn.results.toList ⟨s'.ts, H1⟩ with
              | some v => T.leaf (X.ret, (⟨⟨1, [(0, (dropNew H.length (if K.nf f then v.deep K.nrm else v) H1).1)], []⟩, (dropNew H.length (if K.nf f then v.deep K.nrm else v) H1).2⟩ : St))
              | none => .fail (100 * f + 91)
            | none => .fail (100 * f + 96)).sat env (After env w0 B ρ Qr) → (∀ id, x ≠ .exit id) ∧ After env w0 B ρ Q (x, s') := by
            intro hx hr
            refine ⟨hx, fun ρ' a' w' hp hS => ?_⟩
            split at hr
            · rename_i H1 hD
              split at hr
              · rename_i v hv
                refine evD_ok hsg hE hsz s'.ts.d a'.defers s'.H H1 ρ' w' hS.defers hD hS.heap hS.below (fun ρ1 w1 hp1 hH1 hb1 => ?_)
                have hS1 : Sim env w0 B ρ1 ⟨s'.ts, H1⟩ a' w1 := ⟨hS.ts.mono hp1, hS.defers.mono hp1, hH1, hb1, hsz⟩
                obtain ⟨z, hz, hres⟩ := evResults_ok hS1 hv
                have hz' : (if K.nf f then v.deep K.nrm else v).r env ρ1 [z] := by
                  split
                  · exact deep_r hnrm hz
                  · exact hz
                obtain ⟨ρ'', hp'', hz'', hH''⟩ := dropNew_ok (m := H.length) (hp.trans hp1) hH.len hz' hH1
                obtain ⟨r', ρ3, hG, hp3, hz3, hH3, hb3⟩ := hr ρ'' { tmps := #[z], defers := [] } w1 hp'' ⟨one_ok hz'', rfl, hH'', hb1, hsz⟩
                exact ⟨z, hres, r', z, ρ3, hG, rfl, hp3, by simpa using hz3, hH3, hb3⟩
              · exact hr.elim
            · exact hr.elim
          cases x with
          | normal => exact key (by simp) hr
          | exit id => exact hr.elim
          | ret => exact key (by simp) hr
        refine Code.wp_mono ?_ (hcode f c _ ρ _ w (fun x a' w' => (∀ id, x ≠ .exit id) ∧ Q x a' w') hstart (sat_mono (fun r hr ρ' a' w' hp hS => ⟨hr.1, hr.2 ρ' a' w' hp hS⟩) h3))
        intro e a' w' hq
        cases e with
        | normal => exact hq.2
        | ret => exact hq.2
        | exit id => exact absurd rfl (hq.1 id)
        | goto l => exact hq.elim
        | panic c => exact hq.elim
        | outgrown => exact hq.elim
      · exact hs.elim
    · exact hs.elim
  · exact hs.elim

theorem EnvOk.later {w : World} (hE : EnvOk env K w0 B) (hb : Below B w0 w) (hsz : B ≤ w.heap.size) : EnvOk env K w w.heap.size :=
  ⟨hE.sl, hE.len, fun j kinds a i n k h1 h2 h3 h4 h5 => by
    obtain ⟨k1, k2⟩ := hE.cell j kinds a i n k h1 h2 h3 h4 h5
    exact ⟨by omega, by rw [hb.cell (p := ⟨a.block, _, none⟩) k1]; exact k2⟩, fun v hv => by
    obtain ⟨a, len, cap, h1, h2, h3, h4, h5⟩ := hE.inp v hv
    refine ⟨a, len, cap, h1, h2, h3, h4, fun ad had i hi => ?_⟩
    obtain ⟨k1, k2, k3⟩ := h5 ad had i hi
    exact ⟨k1, by omega, by rw [hb.cell (p := ⟨ad.block, _, none⟩) k2]; exact k3⟩, hE.nrm⟩

theorem sgOk_fr {z : Nat → Option Obj} (h : SgOk env K) : SgOk (env.fr z) K := by
  refine ⟨fun f vs v hv ρ xs w hE hr => ?_, fun z' w0 B hE f vs H t ht G ρ xs w hH hb hsz hr hs => ?_, fun z' w0 B hE f vs H H' ht ρ xs w hH hb hsz hr => h.dg z' w0 B hE f vs H H' ht ρ xs w hH hb hsz (rels_fr.1 hr)⟩
  · obtain ⟨h1, h2⟩ := h.sg f vs v hv ρ xs w (envOk_fr (env := env.fr z) (z := env.fz) hE) (rels_fr.1 hr)
    refine ⟨h1, h2.mono ?_⟩
    rintro e w' ⟨y, he, hy, hb⟩
    exact ⟨y, he, (r_fr env z ρ v _).2 hy, hb⟩
  · obtain ⟨h1, h2⟩ := h.sm z' w0 B hE f vs H t ht G ρ xs w hH hb hsz (rels_fr.1 hr) (sat_fr.1 hs)
    refine ⟨h1, h2.mono ?_⟩
    rintro e w' ⟨r, y, ρ', hG, he, hp, hy, hH', hb'⟩
    exact ⟨r, y, ρ', hG, he, hp, (r_fr env z ρ' r.1 _).2 hy, hH', hb'⟩

theorem callOk_of0 (hE : EnvOk env K w0 B) {n : Nat} (hall : ∀ w0 B, EnvOk env K w0 B → CodeOk env K w0 B n) (hsg : SgOk env K) : CallOk env K w0 B (evCall0 K (fun g c s => evCode K n g c s)) := by
  intro f vs H G ρ xs w hH hb hsz hvs hs
  unfold evCall0 at hs
  split at hs
  · rename_i v hv
    obtain ⟨h1, h2⟩ := hsg.sg f vs v hv ρ xs w (hE.later hb (by have := hb.size; omega)) hvs
    refine ⟨h1, h2.mono ?_⟩
    rintro e w' ⟨z, rfl, hz, hbw⟩
    exact ⟨(v, H), z, ρ, hs, rfl, Pre.refl _, hz, ⟨hH.len, hH.lo, hH.inj, fun i g b hi hb' => (hH.blk i g b hi hb').mono (fun _ _ h => h) (hbw.block g (hH.lt hi)) (fun g _ hlt hno => ⟨hbw.block g hlt, hno⟩), fun g o ho => ⟨by rw [hbw.block g (Array.getElem?_eq_some_iff.1 (hH.fz g o ho).1).1]; exact (hH.fz g o ho).1, (hH.fz g o ho).2⟩, hH.fm⟩, hb.trans (hbw.mono (by have := hb.size; omega))⟩
  split at hs
  · rename_i t ht
    exact hsg.sm env.fz w0 B hE f vs H t ht G ρ xs w hH hb hsz hvs hs
  · split at hs
    · rename_i hc
      simp only [Bool.and_eq_true, List.all_eq_true] at hc
      have hB := hb.size
      have hvs0 : Rels env [] vs xs := ⟨hvs.1, fun i c x h1 h2 => by
        have := clean_take (hc.2 c (List.mem_of_getElem? h1)) (hvs.2 i c x h1 h2)
        simpa using this⟩
      obtain ⟨h1, h2⟩ := evFnBy_ok hsg (hE.later hb (by omega)) (hall w w.heap.size (hE.later hb (by omega))) f vs [] _ [] xs w ⟨rfl, by simp, by simp, by simp, fun g o ho => ⟨(hH.fz g o ho).1, by simp⟩, hH.fm⟩ (Below.refl _ _) (Nat.le_refl _) hvs0 (sat_bind hs)
      refine ⟨h1, h2.mono ?_⟩
      rintro e w' ⟨r, z, ρ', hG, rfl, _, hz, hH', hbw⟩
      split at hG
      · rename_i hnil
        have hl := hH'.len
        rw [hnil] at hl
        have hρ : ρ' = [] := List.length_eq_zero_iff.1 hl
        subst hρ
        exact ⟨(r.1, H), z, ρ, hG, rfl, Pre.refl _, r_mono (by simp) hz, ⟨hH.len, hH.lo, hH.inj, fun i g b hi hb' => (hH.blk i g b hi hb').mono (fun _ _ h => h) (hbw.block g (hH.lt hi)) (fun g _ hlt hno => ⟨hbw.block g hlt, hno⟩), fun g o ho => ⟨by rw [hbw.block g (Array.getElem?_eq_some_iff.1 (hH.fz g o ho).1).1]; exact (hH.fz g o ho).1, (hH.fz g o ho).2⟩, hH.fm⟩, hb.trans (hbw.mono (by omega))⟩
      · exact hG.elim
    · exact evFnBy_ok hsg hE (hall w0 B hE) f vs H G ρ xs w hH hb hsz hvs hs

theorem blkNoQ_such {cs : List C} {t : TypeId} (h : blkNoQ (.cells cs t) = true) {k : Nat} (hk : cs[k]? = some (.such 0)) : False := noQ_such h hk

theorem callOk_of (hE : EnvOk env K w0 B) {n : Nat} (hall : ∀ (z : Nat → Option Obj) w0 B, EnvOk (env.fr z) K w0 B → CodeOk (env.fr z) K w0 B n) (hsg : SgOk env K) : CallOk env K w0 B (evCallBy K (fun g c s => evCode K n g c s)) := by
  intro f vs H G ρ xs w hH hb hsz hvs hs
  unfold evCallBy at hs
  split at hs
  · exact callOk_of0 hE (hall env.fz) hsg f vs H G ρ xs w hH hb hsz hvs hs
  · rename_i m hm
    split at hs
    · rename_i hc
      simp only [Bool.and_eq_true, takeL_eq, dropL_eq, lenL_eq, Nat.ble_eq] at hc
      obtain ⟨hc1, hc2, hc3, hc4⟩ := hc
      classical
      let z : Nat → Option Obj := fun g => if ∃ i, m ≤ i ∧ ρ[i]? = some g then w.heap[g]? else env.fz g
      have tk : ∀ (i g : Nat), (ρ.take m)[i]? = some g → i < m ∧ ρ[i]? = some g := fun i g hi => by
        rw [List.getElem?_take] at hi
        split at hi
        · exact ⟨by assumption, hi⟩
        · cases hi
      have zin : ∀ {g : Nat}, (∃ i, m ≤ i ∧ ρ[i]? = some g) → z g = w.heap[g]? := fun {g} h => if_pos h
      have zout : ∀ {g : Nat}, (¬ ∃ i, m ≤ i ∧ ρ[i]? = some g) → z g = env.fz g := fun {g} h => if_neg h
      have zkeep : ∀ (g : Nat) (o : Obj), env.fz g = some o → z g = some o := fun g o ho => by
        rw [zout (fun ⟨i, _, hi⟩ => (hH.fz g o ho).2 i hi)]; exact ho
      have hH1 : HeapOk (env.fr z) B (ρ.take m) (H.take m) w := by
        refine ⟨by simp [hH.len], fun i g hi => hH.lo i g (tk i g hi).2, fun i j g hi hj => hH.inj i j g (tk i g hi).2 (tk j g hj).2, fun i g b hi hbb => ?_, fun g o ho => ?_, trivial⟩
        · obtain ⟨him, hi⟩ := tk i g hi
          rw [List.getElem?_take_of_lt him] at hbb
          have hcl := List.all_eq_true.1 hc2 b (List.mem_of_getElem? (by rw [List.getElem?_take_of_lt him]; exact hbb))
          have hk := blkClean_take hcl (hH.blk i g b hi hbb)
          cases b with
          | cells cs ty =>
            obtain ⟨ys, tl, h1, h2, h3⟩ := hk
            refine ⟨ys, tl, h1, rels_fr.2 h2, fun k v hk hv => ?_⟩
            obtain ⟨ys0, tl0, k1, k2, k3⟩ := hH.blk i g _ hi hbb
            have hv0 : ys0[k]? = some v := by
              rw [h1] at k1
              simp only [Option.some.injEq, Obj.cells.injEq] at k1
              have e := congrArg Array.toList k1.1
              have hlen : ys.length = ys0.length := by rw [← h2.1, ← k2.1]
              have e2 : ys = ys0 := (List.append_inj e hlen).1
              rw [← e2]; exact hv
            rcases k3 k v hk hv0 with h0 | ⟨g', n', c', zs, q1, q2, q3, q4, q5, q6⟩
            · exact .inl h0
            · refine .inr ⟨g', n', c', zs, q1, q2, ?_, fun i hi => q4 i (tk i g' hi).2, q5, q6⟩
              show z g' = none
              rw [zout (fun ⟨i, _, hi⟩ => q4 i hi)]; exact q3
          | mp es clock =>
            obtain ⟨ms, c, h1, h2⟩ := hk
            exact ⟨ms, c, h1, mpOk_fr.2 h2⟩
        · have ho : z g = some o := ho
          by_cases hex : ∃ i, m ≤ i ∧ ρ[i]? = some g
          · rw [zin hex] at ho
            refine ⟨ho, fun i hi => ?_⟩
            obtain ⟨j, hj, hjg⟩ := hex
            obtain ⟨him, hi⟩ := tk i g hi
            have := hH.inj i j g hi hjg
            omega
          · rw [zout hex] at ho
            exact ⟨(hH.fz g o ho).1, fun i hi => (hH.fz g o ho).2 i (tk i g hi).2⟩
      have hvs1 : Rels (env.fr z) (ρ.take m) vs xs := rels_fr.2 ⟨hvs.1, fun i c x h1 h2 => clean_take (List.all_eq_true.1 hc1 c (List.mem_of_getElem? h1)) (hvs.2 i c x h1 h2)⟩
      rw [takeL_eq] at hs
      obtain ⟨h1, h2⟩ := callOk_of0 (envOk_fr (z := z) hE) (hall z) (sgOk_fr hsg) f vs (H.take m) _ (ρ.take m) xs w hH1 hb hsz hvs1 (sat_fr.2 (sat_bind hs))
      refine ⟨h1, h2.mono ?_⟩
      rintro e w' ⟨r, y, ρ', hG, rfl, hp, hy, hH', hb'⟩
      split at hG
      · rename_i hlen
        have hlen : r.2.length = m := by rw [lenL_eq] at hlen; exact Nat.eq_of_beq_eq_true hlen
        have hml : m ≤ ρ.length := by rw [hH.len]; exact hc4
        have hρ : ρ' = ρ.take m := by
          apply List.ext_getElem?
          intro i
          by_cases hi : i < m
          · have h3 : (ρ.take m)[i]? = some ρ[i] := by rw [List.getElem?_take_of_lt hi]; exact List.getElem?_eq_getElem (by omega)
            rw [h3, hp i _ h3]
          · rw [List.getElem?_eq_none (by rw [hH'.len, hlen]; omega), List.getElem?_eq_none (by rw [List.length_take]; omega)]
        subst hρ
        have pre : Pre (ρ.take m) ρ := fun i g hi => (tk i g hi).2
        refine ⟨(r.1, r.2 ++ dropL H m), y, ρ, hG, rfl, Pre.refl _, r_mono pre ((r_fr env z _ r.1 _).1 hy), ?_, hb'⟩
        rw [dropL_eq]
        refine ⟨by simp [hlen, hH.len]; omega, hH.lo, hH.inj, fun i g b hi hbb => ?_, fun g o ho => ⟨(hH'.fz g o (zkeep g o ho)).1, (hH.fz g o ho).2⟩, trivial⟩
        rw [List.getElem?_append] at hbb
        split at hbb
        · rename_i hlt
          rw [hlen] at hlt
          have hk := hH'.blk i g b (by rw [List.getElem?_take_of_lt hlt]; exact hi) hbb
          cases b with
          | cells cs ty =>
            obtain ⟨ys, tl, h3, h4, h5⟩ := hk
            refine ⟨ys, tl, h3, (rels_fr.1 h4).mono pre, fun k v hk hv => ?_⟩
            rcases h5 k v hk hv with h0 | ⟨g', n', c', zs, q1, q2, q3, q4, q5, q6⟩
            · exact .inl h0
            · have q3 : z g' = none := q3
              have hno : ¬ ∃ i, m ≤ i ∧ ρ[i]? = some g' := fun hex => by
                rw [zin hex] at q3
                obtain ⟨j, _, hj⟩ := hex
                have := hH.lt hj
                rw [Array.getElem?_eq_getElem this] at q3; cases q3
              refine .inr ⟨g', n', c', zs, q1, q2, by rw [← zout hno]; exact q3, fun i hi => ?_, q5, q6⟩
              by_cases him : i < m
              · exact q4 i (by rw [List.getElem?_take_of_lt him]; exact hi)
              · exact hno ⟨i, by omega, hi⟩
          | mp es clock =>
            obtain ⟨ms, c, h3, h4⟩ := hk
            exact ⟨ms, c, h3, (mpOk_fr.1 h4).mono' fun _ _ => r_mono pre⟩
        · rename_i hge
          rw [hlen] at hge hbb
          rw [List.getElem?_drop, show m + (i - m) = i by omega] at hbb
          have hk := hH.blk i g b hi hbb
          have hgl := hH.lt hi
          have hz : z g = some w.heap[g] := by rw [zin ⟨i, by omega, hi⟩]; exact Array.getElem?_eq_getElem hgl
          have hsame : w'.heap[g]? = w.heap[g]? := by rw [(hH'.fz g _ hz).1, Array.getElem?_eq_getElem hgl]
          have hnq := List.all_eq_true.1 hc3 b (List.mem_of_getElem? (i := i - m) (by rw [List.getElem?_drop, show m + (i - m) = i by omega]; exact hbb))
          cases b with
          | cells cs ty =>
            obtain ⟨ys, tl, h3, h4, _⟩ := hk
            exact ⟨ys, tl, by rw [hsame]; exact h3, h4, fun k v hk _ => (blkNoQ_such hnq hk).elim⟩
          | mp es clock =>
            obtain ⟨ms, c, h3, h4⟩ := hk
            exact ⟨ms, c, by rw [hsame]; exact h3, h4⟩
      · exact hG.elim
    · exact hs.elim

theorem code_ok' : ∀ n (env : Env), SgOk env K → ∀ w0 B, EnvOk env K w0 B → CodeOk env K w0 B n ∧ LoopOk env K w0 B n := by
  intro n
  induction n with
  | zero => exact fun env _ w0 B _ => ⟨fun f c s ρ a w Q _ hs => hs.elim, fun f c s ρ a w Q _ hs => hs.elim⟩
  | succ n ih =>
    intro env hsg w0 B hE
    obtain ⟨ihc, ihl⟩ := ih env hsg w0 B hE
    have hL : LoopOk env K w0 B (n + 1) := by
      intro f c s ρ a w Q h hs
      simp only [evCode] at hs
      have h1 := sat_bind hs
      rw [rounds_succ]
      let Q1 : X → Act → World → Prop := fun x a' w' => match x with | .normal => Code.rounds K.P c (liftQ Q) n a' w' | x => Q x a' w'
      have h2 : (evCode K n f c s).sat env (After env w0 B ρ Q1) := sat_mono (fun r hr => by
        obtain ⟨x, s'⟩ := r
        intro ρ' a' w' hp hS
        cases x with
        | normal => exact ihl f c s' ρ' a' w' Q hS (sat_mono (fun _ k => k.pre hp) hr)
        | exit id => exact hr ρ' a' w' hp hS
        | ret => exact hr ρ' a' w' hp hS) h1
      refine Code.wp_mono ?_ (ihc f c s ρ a w Q1 h h2)
      intro e a' w' hq
      cases e <;> exact hq
    refine ⟨?_, hL⟩
    intro f c s ρ a w Q h hs
    have hlen : ρ.length ≤ s.H.length := Nat.le_of_eq h.heap.len
    cases c with
    | skip => exact wp_skip (hs ρ a w (Pre.refl _) h)
    | label l => exact wp_label (hs ρ a w (Pre.refl _) h)
    | ret => exact wp_ret (hs ρ a w (Pre.refl _) h)
    | exit id => exact wp_exit (hs ρ a w (Pre.refl _) h)
    | seq x y =>
      simp only [evCode] at hs
      have h1 := sat_bind hs
      refine wp_seq ?_
      let Q1 : X → Act → World → Prop := fun x a' w' => match x with | .normal => y.wp K.P (liftQ Q) a' w' | x => Q x a' w'
      have h2 : (evCode K n f x s).sat env (After env w0 B ρ Q1) := sat_mono (fun r hr => by
        obtain ⟨x, s'⟩ := r
        intro ρ' a' w' hp hS
        cases x with
        | normal => exact ihc f y s' ρ' a' w' Q hS (sat_mono (fun _ k => k.pre hp) hr)
        | exit id => exact hr ρ' a' w' hp hS
        | ret => exact hr ρ' a' w' hp hS) h1
      refine Code.wp_mono ?_ (ihc f x s ρ a w Q1 h h2)
      intro e a' w' hq
      cases e <;> exact hq
    | block id b =>
      simp only [evCode] at hs
      have h1 := sat_bind (joinAt_sat hlen hs)
      refine wp_block ?_
      let Q1 : X → Act → World → Prop := fun x a' w' => match x with | .exit id' => if id' = id then Q .normal a' w' else Q (.exit id') a' w' | x => Q x a' w'
      have h2 : (evCode K n f b s).sat env (After env w0 B ρ Q1) := sat_mono (fun r hr => by
        obtain ⟨x, s'⟩ := r
        intro ρ' a' w' hp hS
        cases x with
        | normal => exact hr ρ' a' w' hp hS
        | exit id' =>
          simp only [] at hr
          show if id' = id then Q .normal a' w' else Q (.exit id') a' w'
          by_cases he : id' = id
          · rw [if_pos (by simpa using he)] at hr
            rw [if_pos he]; exact hr ρ' a' w' hp hS
          · rw [if_neg (by simpa using he)] at hr
            rw [if_neg he]; exact hr ρ' a' w' hp hS
        | ret => exact hr ρ' a' w' hp hS) h1
      refine Code.wp_mono ?_ (ihc f b s ρ a w Q1 h h2)
      intro e a' w' hq
      cases e <;> exact hq
    | loop b => exact wp_loop_rounds (n + 1) (hL f b s ρ a w Q h hs)
    | scope b =>
      simp only [evCode] at hs
      refine wp_scope_straight (Code.wp_mono ?_ (ihc f b s ρ a w Q h hs))
      intro e a' w' hq
      cases e <;> first | exact hq | exact hq.elim
    | cond c x y =>
      simp only [evCode] at hs
      split at hs
      · rename_i e he
        have hv := evO_r h.ts c
        rw [he] at hv
        have hv := bool_r hv
        split at hs
        · rename_i v
          rw [tt_lit] at hv
          split at hs
          · rename_i h0
            refine wp_cond hv ?_
            simp only [h0, Bool.not_true, Bool.false_eq_true, if_false]
            exact ihc f y s ρ a w Q h hs
          · rename_i h0
            refine wp_cond hv ?_
            simp only [h0, Bool.not_false, if_true]
            exact ihc f x s ρ a w Q h hs
        · have h1 := joinAt_sat hlen hs
          refine wp_cond_split hv (fun ht => ihc f x s ρ a w Q h (h1.1 ht)) (fun ht => ihc f y s ρ a w Q h (h1.2 ht))
      · exact hs.elim
    | region id ops draw =>
      simp only [evCode] at hs
      have h1 : (evRegion K (evCallBy K (fun g c s => evCode K n g c s)) (100 * f) ops draw s).sat env (fun s' => T.sat env (After env w0 B ρ Q) (.leaf (X.normal, ⟨trimT (liveF K.P f) s'.ts, s'.H⟩))) := by
        split at hs
        · rename_i hc
          simp only [Bool.and_eq_true, Bool.not_eq_true'] at hc
          obtain ⟨hd, hcalm⟩ := hc
          subst hd
          have h0 : allL (fun s' : St => s'.H = s.H) (evRegion K (evCallBy K (fun g c s => evCode K n g c s)) (100 * f) ops false s) := evOps_calm _ s (fun o ho => List.all_eq_true.1 hcalm o ho) rfl
          have h2 : allL (fun r : X × St => r.2.H = s.H) ((evRegion K (evCallBy K (fun g c s => evCode K n g c s)) (100 * f) ops false s).bind fun s' => .leaf (X.normal, (⟨trimT (liveF K.P f) s'.ts, s'.H⟩ : St))) := allL_bind (q := fun r : X × St => r.2.H = s.H) (fun s' h => h) h0
          exact sat_bind (joinTs_sat h2 hs)
        · exact sat_bind (joinAt_sat hlen hs)
      exact evRegion_ok hE (fun z => callOk_of (envOk_fr hE) (fun z' w1 B1 hE1 => (ih (env.fr z') (sgOk_fr hsg) w1 B1 hE1).1) (sgOk_fr hsg)) h h1 (fun s' ρ' a' w' hp hS hG => hG ρ' a' w' hp ⟨trimT_ok hS.ts _, hS.defers, hS.heap, hS.below, hS.size⟩)
    | _ => exact hs.elim

theorem code_ok (hsg : SgOk env K) : ∀ n w0 B, EnvOk env K w0 B → CodeOk env K w0 B n ∧ LoopOk env K w0 B n := fun n => code_ok' n env hsg

/-- **What the executor answers of a call holds of the model's call**, in whatever world. -/
theorem evFn_calls (hE : EnvOk env K w0 w0.heap.size) (hsg : SgOk env K) {n : Nat} {f : FuncId} {vs : List C} {xs : List Value} {G : C × List Blk → Prop} (hvs : Rels env [] vs xs) (hs : (evFn K n f vs []).sat env G) :
    (∀ w, (callFunc f xs.toArray).run K.P w = .ok (.enter f xs.toArray) w) ∧
    Calls K.P f xs.toArray w0 fun e w' => ∃ r z ρ', G r ∧ e = .returned z ∧ r.1.r env ρ' [z] ∧ Below w0.heap.size w0 w' := by
  have hE' : EnvOk (env.fr fun _ => none) K w0 w0.heap.size := envOk_fr hE
  obtain ⟨h1, h2⟩ := evFnBy_ok (B := w0.heap.size) (sgOk_fr hsg) hE' (code_ok (sgOk_fr hsg) n _ _ hE').1 f vs [] G [] xs w0 ⟨rfl, by simp, by simp, by simp, by simp [Env.fr], trivial⟩ (Below.refl _ _) (Nat.le_refl _) (rels_fr.2 hvs) (sat_fr.2 hs)
  refine ⟨h1, h2.mono ?_⟩
  rintro e w' ⟨r, y, ρ', hG, he, _, hz, _, hb⟩
  exact ⟨r, y, ρ', hG, he, (r_fr env _ ρ' r.1 _).1 hz, hb⟩

end
end Go.Sx
