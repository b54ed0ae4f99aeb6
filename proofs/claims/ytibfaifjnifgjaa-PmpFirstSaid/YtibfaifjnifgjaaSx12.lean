/-
  The symbolic executor is right: what it answers of a call holds of the model's call. No condition but those in the statements.
-/
import Derived.Test.YtibfaifjnifgjaaSxR
import Derived.LoopN
namespace Go.Sx
open Go.RowKit

section
variable {env : Env} {w0 : World} {B : Nat} {K : Ctx}

theorem evRegion_ok (hE : EnvOk env K w0 B) {call : FuncId → List C → List Blk → T (C × List Blk)} (hcallz : ∀ z, CallOk (env.fr z) K w0 B call) {why id : Nat} {ops : Array Oper} {draw : Bool} {s : St} {ρ : List Nat} {a : Act} {w : World} {G : St → Prop} {Q : Exit → Act → World → Prop}
    (h : Sim env w0 B ρ s a w) (hs : (evRegion K call why ops draw s).sat env G) (hQ : ∀ s' ρ' a' w', Pre ρ ρ' → Sim env w0 B ρ' s' a' w' → G s' → Q .normal a' w') : (Code.region id ops draw).wp K.P Q a w := by
  have hcall : CallOk env K w0 B call := hcallz env.fz
  unfold evRegion at hs
  split at hs
  · rename_i hd; subst hd
    split at hs
    · rename_i hc
      simp only [Bool.and_eq_true] at hc
      have hw : Sim env w0 B ρ s a { w with drawn := w.drawn + 1 } := ⟨h.ts, h.defers, ⟨h.heap.len, h.heap.lo, h.heap.inj, fun i g b hi hb => (h.heap.blk i g b hi hb).mono (fun _ _ h => h) rfl, h.heap.fz⟩, h.below.drew, h.size⟩
      refine Code.wp_mono (Q := fun e a w => e = .normal ∧ Q .normal a w) (fun e a w q => by rw [q.1]; exact q.2) ?_
      split at hs
      · rename_i t ht
        exact wp_region_held hc.2 (evMap_ok hE hcallz hc.1 (fun c a w q => by cases q.1) ht hw hs (fun s' ρ' a' w' hp hS hG => ⟨rfl, hQ s' ρ' a' w' hp hS hG⟩))
      split at hs
      · rename_i mk hmk
        exact wp_region_held hc.2 (evAny_ok hE hcall hc.1 (wkH_ok (mk := mk) hw.heap).len (G := G) (fun c a w q => by cases q.1) _ _ _ s ρ a _ (Pre.refl _) hw (fun _ => ⟨[], by rw [List.append_nil]; exact wkH_ok hw.heap⟩) hs (fun s' ρ' a' w' hp hS hG => ⟨rfl, hQ s' ρ' a' w' hp hS hG⟩))
      · exact wp_region_held hc.2 (evAny_ok hE hcall hc.1 h.heap.len (G := G) (fun c a w q => by cases q.1) _ _ _ s ρ a _ (Pre.refl _) hw (fun h => by cases h) hs (fun s' ρ' a' w' hp hS hG => ⟨rfl, hQ s' ρ' a' w' hp hS hG⟩))
    · exact hs.elim
  · rename_i hd
    have hd : draw = false := by simpa using hd
    subst hd
    exact wp_region_list (evOps_ok hE hcall _ s ρ a w h hs hQ)

/-! ### Results -/

def res1 (tmps : Array Value) (x : ResultVar) : Sem Value :=
  match x with
  | .tmp t => pure (tmps.getD t undef)
  | .cell p t => do loadVar t (← asAddr (tmps.getD p undef))

theorem results_eq (fn : Func) (tmps : Array Value) : results fn tmps = (do
    let vs ← fn.results.mapM (res1 tmps)
    pure (if h : vs.size = 1 then vs[0] else .tuple vs)) := by
  unfold results
  congr 1

theorem evRes1_ok {s : St} {ρ : List Nat} {a : Act} {w : World} (h : Sim env w0 B ρ s a w) {x : ResultVar} {v : C} (hv : evRes1 K.P s x = some v) :
    ∃ z, v.r env ρ [z] ∧ (res1 a.tmps x).run K.P w = .ok z w := by
  unfold evRes1 at hv
  cases x with
  | tmp t =>
    simp only [Option.some.injEq] at hv; subst hv
    refine ⟨_, h.ts.r t, ?_⟩
    simp [res1]
  | cell p t =>
    simp only [] at hv
    split at hv
    · rename_i b o hp
      split at hv
      · rename_i cs ty hb
        rw [getL_eq] at hb
        have hr := h.ts.r p
        rw [hp] at hr
        obtain ⟨g, hg, he⟩ := ptr_r hr
        obtain ⟨xs, hxs, hrr⟩ := h.heap.blk b g _ hg hb
        obtain ⟨z, hz, hl⟩ := loadVar_part (P := K.P) hv hrr
        refine ⟨z, hz, ?_⟩
        have he' : a.tmps.getD p undef = .pointer (some ⟨g, o, none⟩) := by
          rw [he]
        simp only [res1, he', asAddr, Sem.run_bind, Sem.run_pure, Result.andThen_ok]
        exact hl w g ty _ hxs
      · cases hv
    · cases hv

theorem evResL_ok {s : St} {ρ : List Nat} {a : Act} {w : World} (h : Sim env w0 B ρ s a w) : ∀ (rs : List ResultVar) (vs : List C), evResL K.P s rs = some vs →
    ∃ zs, Rels env ρ vs zs ∧ (rs.mapM (res1 a.tmps)).run K.P w = .ok zs w := by
  intro rs
  induction rs with
  | nil => intro vs hv; simp only [evResL, Option.some.injEq] at hv; subst hv; exact ⟨[], .nil, rfl⟩
  | cons x rs ih =>
    intro vs hv
    simp only [evResL] at hv
    split at hv
    · rename_i v vs' h1 h2
      simp only [Option.some.injEq] at hv; subst hv
      obtain ⟨z, hz, hr⟩ := evRes1_ok h h1
      obtain ⟨zs, hzs, hrs⟩ := ih vs' h2
      refine ⟨z :: zs, .cons hz hzs, ?_⟩
      simp only [List.mapM_cons, Sem.run_bind, hr, Result.andThen_ok, hrs, Sem.run_pure]
    · cases hv

theorem evResults_ok {s : St} {ρ : List Nat} {a : Act} {w : World} (h : Sim env w0 B ρ s a w) {fn : Func} {v : C} (hv : evResults K.P fn.results.toList s = some v) :
    ∃ z, v.r env ρ [z] ∧ (results fn a.tmps).run K.P w = .ok z w := by
  unfold evResults at hv
  split at hv
  · rename_i vs hvs
    obtain ⟨zs, hzs, hr⟩ := evResL_ok h _ vs hvs
    have hrun : (fn.results.mapM (res1 a.tmps)).run K.P w = .ok zs.toArray w := by
      rw [Array.mapM_eq_mapM_toList, Sem.run_map, hr]
      rfl
    split at hv
    · rename_i v1
      simp only [Option.some.injEq] at hv; subst hv
      obtain ⟨z, zs', rfl, hz, hzs'⟩ := hzs.uncons
      have : zs' = [] := by have := hzs'.1; cases zs' with
        | nil => rfl
        | cons => simp at this
      subst this
      refine ⟨z, hz, ?_⟩
      rw [results_eq, Sem.run_bind, hrun]
      rfl
    · rename_i hne
      simp only [Option.some.injEq] at hv; subst hv
      refine ⟨.tuple zs.toArray, ⟨zs, toC_r.2 hzs, rfl⟩, ?_⟩
      rw [results_eq, Sem.run_bind, hrun]
      have hl : zs.toArray.size ≠ 1 := by
        intro hl
        have h1 : vs.length = 1 := by rw [hzs.1]; simpa using hl
        obtain ⟨u, hu⟩ := List.length_eq_one_iff.1 h1
        exact hne u hu
      simp only [Result.andThen_ok, Sem.run_pure]
      rw [dif_neg hl]
  · cases hv

/-! ### The temporaries as a call begins; those that are kept -/

theorem getA_args : ∀ (l : List C) (i t : Nat), getA (ofArgs l i) t = .bad ∨ (i ≤ t ∧ l[t - i]? = some (getA (ofArgs l i) t)) := by
  intro l
  induction l with
  | nil => intro i t; exact .inl rfl
  | cons c l ih =>
    intro i t
    show getA ((i, c) :: ofArgs l (i + 1)) t = .bad ∨ (i ≤ t ∧ (c :: l)[t - i]? = some (getA ((i, c) :: ofArgs l (i + 1)) t))
    rw [getA_cons]
    by_cases h : i = t
    · subst h; rw [if_pos rfl]; exact .inr ⟨Nat.le_refl _, by simp⟩
    · rw [if_neg h]
      rcases ih (i + 1) t with h1 | ⟨h1, h2⟩
      · exact .inl h1
      · refine .inr ⟨by omega, ?_⟩
        rw [show t - i = (t - (i + 1)) + 1 by omega, List.getElem?_cons_succ]; exact h2

theorem start_ok {ρ : List Nat} {vs : List C} {xs : List Value} (h : Rels env ρ vs xs) (n : Nat) : TsOk env ρ (Ts.start vs n) (xs.toArray ++ Array.replicate (n - xs.toArray.size) undef) := by
  refine ⟨by simp [Ts.start, h.1], fun t => ?_⟩
  show (getA (ofArgs vs 0) t).r env ρ _
  rcases getA_args vs 0 t with hb | ⟨_, hc⟩
  · rw [hb]; exact bad_r _
  · rw [Nat.sub_zero] at hc
    have hlt : t < xs.length := by rw [← h.1]; exact (List.getElem?_eq_some_iff.1 hc).1
    have hx : xs[t]? = some xs[t] := List.getElem?_eq_getElem hlt
    have : (xs.toArray ++ Array.replicate (n - xs.toArray.size) undef).getD t undef = xs[t] := by
      rw [Array.getD_eq_getD_getElem?, Array.getElem?_append_left (by simpa using hlt)]; simp [hlt]
    rw [this]
    exact h.2 t _ _ hc hx

theorem trimL_bad (lv t : Nat) : ∀ (l : List (Nat × C)) (seen : Nat), bitAt lv t = false ∨ bitAt seen t = true → getA (trimL lv l seen) t = .bad := by
  intro l
  induction l with
  | nil => intro seen _; rfl
  | cons p l ih =>
    intro seen h
    show getA (cond (bitAt lv p.1 && !bitAt seen p.1) (p :: forceN (trimL lv l) (Nat.lor seen (Nat.shiftLeft 1 p.1))) (trimL lv l seen)) t = .bad
    cases hc : (bitAt lv p.1 && !bitAt seen p.1) with
    | false => exact ih seen h
    | true =>
      show getA (p :: forceN (trimL lv l) (Nat.lor seen (Nat.shiftLeft 1 p.1))) t = .bad
      rw [forceN_eq, getA_cons]
      have hne : p.1 ≠ t := fun e => by rw [e] at hc; rcases h with h | h <;> rw [h] at hc <;> simp at hc
      rw [if_neg hne]
      refine ih _ (h.imp id fun h => ?_)
      rw [bitAt_eq] at h ⊢
      rw [bit_set, h]; rfl

theorem trimL_get (lv t : Nat) : ∀ (l : List (Nat × C)) (seen : Nat), getA (trimL lv l seen) t = getA l t ∨ getA (trimL lv l seen) t = .bad := by
  intro l
  induction l with
  | nil => intro seen; exact .inl rfl
  | cons p l ih =>
    intro seen
    show getA (cond (bitAt lv p.1 && !bitAt seen p.1) (p :: forceN (trimL lv l) (Nat.lor seen (Nat.shiftLeft 1 p.1))) (trimL lv l seen)) t = _ ∨ getA (cond (bitAt lv p.1 && !bitAt seen p.1) (p :: forceN (trimL lv l) (Nat.lor seen (Nat.shiftLeft 1 p.1))) (trimL lv l seen)) t = .bad
    rw [getA_cons]
    cases hc : (bitAt lv p.1 && !bitAt seen p.1) with
    | false =>
      show getA (trimL lv l seen) t = _ ∨ getA (trimL lv l seen) t = .bad
      by_cases he : p.1 = t
      · right
        apply trimL_bad
        rw [he] at hc
        cases h1 : bitAt lv t with
        | false => exact .inl rfl
        | true => cases h2 : bitAt seen t with
          | true => exact .inr rfl
          | false => rw [h1, h2] at hc; cases hc
      · rw [if_neg he]; exact ih seen
    | true =>
      show getA (p :: forceN (trimL lv l) (Nat.lor seen (Nat.shiftLeft 1 p.1))) t = _ ∨ getA (p :: forceN (trimL lv l) (Nat.lor seen (Nat.shiftLeft 1 p.1))) t = .bad
      rw [forceN_eq, getA_cons]
      by_cases he : p.1 = t
      · rw [if_pos he]; exact .inl (by simp [he])
      · rw [if_neg he, if_neg he]; exact ih _

theorem trimT_ok {ρ : List Nat} {ts : Ts} {xs : Array Value} (h : TsOk env ρ ts xs) (lv : Nat) : TsOk env ρ (trimT lv ts) xs := by
  refine ⟨h.n, fun t => ?_⟩
  show (getA (trimL lv ts.l 0) t).r env ρ _
  rcases trimL_get lv t ts.l 0 with e | e <;> rw [e]
  · exact h.r t
  · exact bad_r _

/-! ### Behind a call -/

theorem clean_take {m : Nat} {ρ : List Nat} {c : C} {xs : List Value} (h : c.clean m = true) (hr : c.r env ρ xs) : c.r env (ρ.take m) xs := by
  have := cut_r m hr
  rwa [clean_cut h] at this

theorem blkClean_take {m : Nat} {ρ : List Nat} {w : World} {g : Nat} {b : Blk} (h : blkClean m b = true) (hb : BlkOk env ρ w g b) : BlkOk env (ρ.take m) w g b := by
  cases b with
  | cells cs ty =>
    obtain ⟨xs, hx, hr⟩ := hb
    refine ⟨xs, hx, hr.1, fun i c x hc hx' => clean_take (List.all_eq_true.1 h c (List.mem_of_getElem? hc)) (hr.2 i c x hc hx')⟩
  | mp es clock =>
    obtain ⟨ms, c, hx, hm⟩ := hb
    have hcl := List.all_eq_true.1 h
    simp only [Bool.and_eq_true] at hcl
    have := hm.map (env' := env) (ρ' := ρ.take m) (f := fun c => c) (fun _ _ => rfl) (fun e he _ => clean_take (hcl e he).1) (fun e he _ => clean_take (hcl e he).2)
    exact ⟨ms, c, hx, by simpa using this⟩

theorem dropNew_ok {ρ ρ' : List Nat} {m : Nat} {v : C} {H : List Blk} {z : Value} {w : World} (hp : Pre ρ ρ') (hm : ρ.length = m) (hv : v.r env ρ' [z]) (hH : HeapOk env B ρ' H w) :
    ∃ ρ'', Pre ρ ρ'' ∧ (dropNew m v H).1.r env ρ'' [z] ∧ HeapOk env B ρ'' (dropNew m v H).2 w := by
  unfold dropNew
  split
  · exact ⟨ρ', hp, hv, hH⟩
  split
  · rename_i hc
    simp only [Bool.and_eq_true] at hc
    have tk : ∀ (i g : Nat), (ρ'.take m)[i]? = some g → ρ'[i]? = some g := fun i g hi => by
      rw [List.getElem?_take] at hi
      split at hi
      · exact hi
      · cases hi
    refine ⟨ρ'.take m, fun i g hi => ?_, clean_take hc.1 hv, ⟨by simp [hH.len], fun i g hi => hH.lo i g (tk i g hi), fun i j g hi hj => hH.inj i j g (tk i g hi) (tk j g hj), fun i g b hi hb => ?_, fun g o ho => ⟨(hH.fz g o ho).1, fun i hi => (hH.fz g o ho).2 i (tk i g hi)⟩⟩⟩
    · rw [List.getElem?_take_of_lt (by rw [← hm]; exact (List.getElem?_eq_some_iff.1 hi).1)]; exact hp i g hi
    · have hb0 := List.all_eq_true.1 hc.2 b (List.mem_of_getElem? hb)
      rw [List.getElem?_take] at hb
      split at hb
      · exact blkClean_take hb0 (hH.blk i g b (tk i g hi) hb)
      · cases hb
  · exact ⟨ρ', hp, hv, hH⟩

/-! ### Code -/

def liftQ (Q : X → Act → World → Prop) : Exit → Act → World → Prop
  | .normal, a, w => Q .normal a w
  | .exit id, a, w => Q (.exit id) a w
  | .ret, a, w => Q .ret a w
  | _, _, _ => False

def CodeOk (env : Env) (K : Ctx) (w0 : World) (B : Nat) (n : Nat) : Prop :=
  ∀ (f : FuncId) (c : Code) (s : St) (ρ : List Nat) (a : Act) (w : World) (Q : X → Act → World → Prop), Sim env w0 B ρ s a w → (evCode K n f c s).sat env (After env w0 B ρ Q) → c.wp K.P (liftQ Q) a w

def LoopOk (env : Env) (K : Ctx) (w0 : World) (B : Nat) (n : Nat) : Prop :=
  ∀ (f : FuncId) (c : Code) (s : St) (ρ : List Nat) (a : Act) (w : World) (Q : X → Act → World → Prop), Sim env w0 B ρ s a w → (evCode K n f (.loop c) s).sat env (After env w0 B ρ Q) → Code.rounds K.P c (liftQ Q) n a w

/-- The summaries hold. -/
def SgOk (env : Env) (K : Ctx) : Prop :=
  ∀ (f : FuncId) (vs : List C) (v : C), K.sg f vs = some v → ∀ (ρ : List Nat) (xs : List Value) (w : World), Rels env ρ vs xs →
    (∀ w, (callFunc f xs.toArray).run K.P w = .ok (.enter f xs.toArray) w) ∧ Calls K.P f xs.toArray w fun e w' => ∃ z, e = .returned z ∧ v.r env ρ [z] ∧ Below w.heap.size w w'

theorem After.pre {ρ ρ' : List Nat} {Q : X → Act → World → Prop} (hp : Pre ρ ρ') {r : X × St} (h : After env w0 B ρ Q r) : After env w0 B ρ' Q r :=
  fun ρ'' a w hp' hS => h ρ'' a w (hp.trans hp') hS

theorem callFunc_run {P : Program} {f : FuncId} {fn : Func} {c : Code} (hf : P.funcs[f]? = some fn) (hb : fn.body = some c) (hn : okName fn = true) (args : Array Value) (w : World) : (callFunc f args).run P w = .ok (.enter f args) w := by
  have hn' : ¬ fn.name = "runtime.NumGoroutine" := by simpa [okName] using hn
  simp [callFunc, hf, hb, hn']

theorem one_ok {ρ : List Nat} {c : C} {z : Value} (h : c.r env ρ [z]) : TsOk env ρ ⟨1, [(0, c)]⟩ #[z] := by
  refine ⟨rfl, fun t => ?_⟩
  show (getA [(0, c)] t).r env ρ _
  rw [getA_cons]
  by_cases ht : 0 = t
  · subst ht; rw [if_pos rfl]; exact h
  · rw [if_neg ht]; exact bad_r _

theorem evFnBy_ok (hnrm : ∀ e, (K.nrm e).den env = e.den env) {n : Nat} (hcode : CodeOk env K w0 B n) (f : FuncId) (vs : List C) (H : List Blk) (G : C × List Blk → Prop) (ρ : List Nat) (xs : List Value) (w : World) (hH : HeapOk env B ρ H w) (hb0 : Below B w0 w) (hsz : B ≤ w0.heap.size)
    (hvs : Rels env ρ vs xs) (hs : (evFnBy K (fun c s => evCode K n f c s) f vs H).sat env G) :
    (∀ w, (callFunc f xs.toArray).run K.P w = .ok (.enter f xs.toArray) w) ∧
    Calls K.P f xs.toArray w fun e w' => ∃ r z ρ', G r ∧ e = .returned z ∧ Pre ρ ρ' ∧ r.1.r env ρ' [z] ∧ HeapOk env B ρ' r.2 w' ∧ Below B w0 w' := by
  unfold evFnBy at hs
  split at hs
  · rename_i fn hf
    split at hs
    · rename_i c hc
      split at hs
      · rename_i hn
        refine ⟨fun w => callFunc_run hf hc hn _ w, calls_of_wp hf hc ?_⟩
        have hlen : ρ.length ≤ H.length := Nat.le_of_eq hH.len
        have hstart : Sim env w0 B ρ ⟨Ts.start vs fn.ntmps, H⟩ { tmps := xs.toArray ++ Array.replicate (fn.ntmps - xs.toArray.size) undef, defers := [] } w := by
          exact ⟨start_ok hvs _, rfl, hH, hb0, hsz⟩
        let Qr : X → Act → World → Prop := fun _ a1 w' => ∃ r ρ'', G r ∧ Pre ρ ρ'' ∧ r.1.r env ρ'' [a1.tmps.getD 0 undef] ∧ HeapOk env B ρ'' r.2 w' ∧ Below B w0 w'
        let Q : X → Act → World → Prop := fun _ a' w' => a'.defers = [] ∧ ∃ z, (results fn a'.tmps).run K.P w' = .ok z w' ∧ ∃ r z' ρ', G r ∧ (Ending.returned z = .returned z') ∧ Pre ρ ρ' ∧ r.1.r env ρ' [z'] ∧ HeapOk env B ρ' r.2 w' ∧ Below B w0 w'
        have h1 : (joinAt (K.sp f) H.length _).sat env (After env w0 B ρ Qr) := sat_mono (fun r hr ρ' a1 w' hp hS => ⟨_, ρ', hr, hp, hS.ts.r 0, hS.heap, hS.below⟩) (sat_bind hs)
        have h2 := sat_bind (joinAt_sat hlen h1)
        have h3 : (evCode K n f c ⟨Ts.start vs fn.ntmps, H⟩).sat env (fun r => (∀ id, r.1 ≠ .exit id) ∧ After env w0 B ρ Q r) := by
          refine sat_mono (fun r hr => ?_) h2
          obtain ⟨x, s'⟩ := r
          have key : (∀ id, x ≠ .exit id) → (match evResults K.P fn.results.toList s' with
            | some v => T.leaf (X.ret, (⟨⟨1, [(0, (dropNew H.length (if K.nf f then v.deep K.nrm else v) s'.H).1)]⟩, (dropNew H.length (if K.nf f then v.deep K.nrm else v) s'.H).2⟩ : St))
            | none => .fail (100 * f + 91)).sat env (After env w0 B ρ Qr) → (∀ id, x ≠ .exit id) ∧ After env w0 B ρ Q (x, s') := by
            intro hx hr
            refine ⟨hx, fun ρ' a' w' hp hS => ?_⟩
            split at hr
            · rename_i v hv
              obtain ⟨z, hz, hres⟩ := evResults_ok hS hv
              have hz' : (if K.nf f then v.deep K.nrm else v).r env ρ' [z] := by
                split
                · exact deep_r hnrm hz
                · exact hz
              obtain ⟨ρ'', hp'', hz'', hH''⟩ := dropNew_ok (m := H.length) hp hH.len hz' hS.heap
              obtain ⟨r', ρ3, hG, hp3, hz3, hH3, hb3⟩ := hr ρ'' { tmps := #[z], defers := [] } w' hp'' ⟨one_ok hz'', rfl, hH'', hS.below, hS.size⟩
              exact ⟨hS.defers, z, hres, r', z, ρ3, hG, rfl, hp3, by simpa using hz3, hH3, hb3⟩
            · exact hr.elim
          cases x with
          | normal => exact key (by simp) hr
          | exit id => exact hr.elim
          | ret => exact key (by simp) hr
        refine Code.wp_mono ?_ (hcode f c _ ρ _ w (fun x a' w' => (∀ id, x ≠ .exit id) ∧ Q x a' w') hstart (sat_mono (fun r hr ρ' a' w' hp hS => ⟨hr.1, hr.2 ρ' a' w' hp hS⟩) h3))
        intro e a' w' hq
        cases e with
        | normal => exact hq.2
        | ret => exact hq.2
        | exit id => exact absurd rfl (hq.1 id)
        | goto l => exact hq.elim
        | panic c => exact hq.elim
        | outgrown => exact hq.elim
      · exact hs.elim
    · exact hs.elim
  · exact hs.elim

theorem EnvOk.later {w : World} (hE : EnvOk env K w0 B) (hb : Below B w0 w) (hsz : B ≤ w.heap.size) : EnvOk env K w w.heap.size :=
  ⟨hE.sl, hE.len, fun j kinds a i n k h1 h2 h3 h4 h5 => by
    obtain ⟨k1, k2, k3⟩ := hE.cell j kinds a i n k h1 h2 h3 h4 h5
    exact ⟨by omega, by rw [hb.cell (p := ⟨a.block, _, none⟩) k1]; exact k2, k3⟩, hE.nrm⟩

theorem callOk_of (hE : EnvOk env K w0 B) {n : Nat} (hall : ∀ w0 B, EnvOk env K w0 B → CodeOk env K w0 B n) (hsg : SgOk env K) : CallOk env K w0 B (evCallBy K (fun g c s => evCode K n g c s)) := by
  intro f vs H G ρ xs w hH hb hsz hvs hs
  unfold evCallBy at hs
  split at hs
  · rename_i v hv
    obtain ⟨h1, h2⟩ := hsg f vs v hv ρ xs w hvs
    refine ⟨h1, h2.mono ?_⟩
    rintro e w' ⟨z, rfl, hz, hbw⟩
    exact ⟨(v, H), z, ρ, hs, rfl, Pre.refl _, hz, ⟨hH.len, hH.lo, hH.inj, fun i g b hi hb' => (hH.blk i g b hi hb').mono (fun _ _ h => h) (hbw.block g (hH.lt hi)), fun g o ho => ⟨by rw [hbw.block g (Array.getElem?_eq_some_iff.1 (hH.fz g o ho).1).1]; exact (hH.fz g o ho).1, (hH.fz g o ho).2⟩⟩, hb.trans (hbw.mono (by have := hb.size; omega))⟩
  · split at hs
    · rename_i hc
      simp only [Bool.and_eq_true, List.all_eq_true] at hc
      have hB := hb.size
      have hvs0 : Rels env [] vs xs := ⟨hvs.1, fun i c x h1 h2 => by
        have := clean_take (hc.2 c (List.mem_of_getElem? h1)) (hvs.2 i c x h1 h2)
        simpa using this⟩
      obtain ⟨h1, h2⟩ := evFnBy_ok hE.nrm (hall w w.heap.size (hE.later hb (by omega))) f vs [] _ [] xs w ⟨rfl, by simp, by simp, by simp, fun g o ho => ⟨(hH.fz g o ho).1, by simp⟩⟩ (Below.refl _ _) (Nat.le_refl _) hvs0 (sat_bind hs)
      refine ⟨h1, h2.mono ?_⟩
      rintro e w' ⟨r, z, ρ', hG, rfl, _, hz, hH', hbw⟩
      split at hG
      · rename_i hnil
        have hl := hH'.len
        rw [hnil] at hl
        have hρ : ρ' = [] := List.length_eq_zero_iff.1 hl
        subst hρ
        exact ⟨(r.1, H), z, ρ, hG, rfl, Pre.refl _, r_mono (by simp) hz, ⟨hH.len, hH.lo, hH.inj, fun i g b hi hb' => (hH.blk i g b hi hb').mono (fun _ _ h => h) (hbw.block g (hH.lt hi)), fun g o ho => ⟨by rw [hbw.block g (Array.getElem?_eq_some_iff.1 (hH.fz g o ho).1).1]; exact (hH.fz g o ho).1, (hH.fz g o ho).2⟩⟩, hb.trans (hbw.mono (by omega))⟩
      · exact hG.elim
    · exact evFnBy_ok hE.nrm (hall w0 B hE) f vs H G ρ xs w hH hb hsz hvs hs

theorem sgOk_fr {z : Nat → Option Obj} (h : SgOk env K) : SgOk (env.fr z) K := fun f vs v hv ρ xs w hr => by
  obtain ⟨h1, h2⟩ := h f vs v hv ρ xs w (rels_fr.1 hr)
  refine ⟨h1, h2.mono ?_⟩
  rintro e w' ⟨y, he, hy, hb⟩
  exact ⟨y, he, (r_fr env z ρ v _).2 hy, hb⟩

theorem code_ok' : ∀ n (env : Env), SgOk env K → ∀ w0 B, EnvOk env K w0 B → CodeOk env K w0 B n ∧ LoopOk env K w0 B n := by
  intro n
  induction n with
  | zero => exact fun env _ w0 B _ => ⟨fun f c s ρ a w Q _ hs => hs.elim, fun f c s ρ a w Q _ hs => hs.elim⟩
  | succ n ih =>
    intro env hsg w0 B hE
    obtain ⟨ihc, ihl⟩ := ih env hsg w0 B hE
    have hL : LoopOk env K w0 B (n + 1) := by
      intro f c s ρ a w Q h hs
      simp only [evCode] at hs
      have h1 := sat_bind hs
      rw [rounds_succ]
      let Q1 : X → Act → World → Prop := fun x a' w' => match x with | .normal => Code.rounds K.P c (liftQ Q) n a' w' | x => Q x a' w'
      have h2 : (evCode K n f c s).sat env (After env w0 B ρ Q1) := sat_mono (fun r hr => by
        obtain ⟨x, s'⟩ := r
        intro ρ' a' w' hp hS
        cases x with
        | normal => exact ihl f c s' ρ' a' w' Q hS (sat_mono (fun _ k => k.pre hp) hr)
        | exit id => exact hr ρ' a' w' hp hS
        | ret => exact hr ρ' a' w' hp hS) h1
      refine Code.wp_mono ?_ (ihc f c s ρ a w Q1 h h2)
      intro e a' w' hq
      cases e <;> exact hq
    refine ⟨?_, hL⟩
    intro f c s ρ a w Q h hs
    have hlen : ρ.length ≤ s.H.length := Nat.le_of_eq h.heap.len
    cases c with
    | skip => exact wp_skip (hs ρ a w (Pre.refl _) h)
    | label l => exact wp_label (hs ρ a w (Pre.refl _) h)
    | ret => exact wp_ret (hs ρ a w (Pre.refl _) h)
    | exit id => exact wp_exit (hs ρ a w (Pre.refl _) h)
    | seq x y =>
      simp only [evCode] at hs
      have h1 := sat_bind hs
      refine wp_seq ?_
      let Q1 : X → Act → World → Prop := fun x a' w' => match x with | .normal => y.wp K.P (liftQ Q) a' w' | x => Q x a' w'
      have h2 : (evCode K n f x s).sat env (After env w0 B ρ Q1) := sat_mono (fun r hr => by
        obtain ⟨x, s'⟩ := r
        intro ρ' a' w' hp hS
        cases x with
        | normal => exact ihc f y s' ρ' a' w' Q hS (sat_mono (fun _ k => k.pre hp) hr)
        | exit id => exact hr ρ' a' w' hp hS
        | ret => exact hr ρ' a' w' hp hS) h1
      refine Code.wp_mono ?_ (ihc f x s ρ a w Q1 h h2)
      intro e a' w' hq
      cases e <;> exact hq
    | block id b =>
      simp only [evCode] at hs
      have h1 := sat_bind (joinAt_sat hlen hs)
      refine wp_block ?_
      let Q1 : X → Act → World → Prop := fun x a' w' => match x with | .exit id' => if id' = id then Q .normal a' w' else Q (.exit id') a' w' | x => Q x a' w'
      have h2 : (evCode K n f b s).sat env (After env w0 B ρ Q1) := sat_mono (fun r hr => by
        obtain ⟨x, s'⟩ := r
        intro ρ' a' w' hp hS
        cases x with
        | normal => exact hr ρ' a' w' hp hS
        | exit id' =>
          simp only [] at hr
          show if id' = id then Q .normal a' w' else Q (.exit id') a' w'
          by_cases he : id' = id
          · rw [if_pos (by simpa using he)] at hr
            rw [if_pos he]; exact hr ρ' a' w' hp hS
          · rw [if_neg (by simpa using he)] at hr
            rw [if_neg he]; exact hr ρ' a' w' hp hS
        | ret => exact hr ρ' a' w' hp hS) h1
      refine Code.wp_mono ?_ (ihc f b s ρ a w Q1 h h2)
      intro e a' w' hq
      cases e <;> exact hq
    | loop b => exact wp_loop_rounds (n + 1) (hL f b s ρ a w Q h hs)
    | cond c x y =>
      simp only [evCode] at hs
      split at hs
      · rename_i e he
        have hv := evO_r h.ts c
        rw [he] at hv
        have hv := bool_r hv
        split at hs
        · rename_i v
          rw [tt_lit] at hv
          split at hs
          · rename_i h0
            refine wp_cond hv ?_
            simp only [h0, Bool.not_true, Bool.false_eq_true, if_false]
            exact ihc f y s ρ a w Q h hs
          · rename_i h0
            refine wp_cond hv ?_
            simp only [h0, Bool.not_false, if_true]
            exact ihc f x s ρ a w Q h hs
        · have h1 := joinAt_sat hlen hs
          refine wp_cond_split hv (fun ht => ihc f x s ρ a w Q h (h1.1 ht)) (fun ht => ihc f y s ρ a w Q h (h1.2 ht))
      · exact hs.elim
    | region id ops draw =>
      simp only [evCode] at hs
      have h1 : (evRegion K (evCallBy K (fun g c s => evCode K n g c s)) (100 * f) ops draw s).sat env (fun s' => T.sat env (After env w0 B ρ Q) (.leaf (X.normal, ⟨trimT (liveF K.P f) s'.ts, s'.H⟩))) := by
        split at hs
        · rename_i hc
          simp only [Bool.and_eq_true, Bool.not_eq_true'] at hc
          obtain ⟨hd, hcalm⟩ := hc
          subst hd
          have h0 : allL (fun s' : St => s'.H = s.H) (evRegion K (evCallBy K (fun g c s => evCode K n g c s)) (100 * f) ops false s) := evOps_calm _ s (fun o ho => List.all_eq_true.1 hcalm o ho) rfl
          have h2 : allL (fun r : X × St => r.2.H = s.H) ((evRegion K (evCallBy K (fun g c s => evCode K n g c s)) (100 * f) ops false s).bind fun s' => .leaf (X.normal, (⟨trimT (liveF K.P f) s'.ts, s'.H⟩ : St))) := allL_bind (q := fun r : X × St => r.2.H = s.H) (fun s' h => h) h0
          exact sat_bind (joinTs_sat h2 hs)
        · exact sat_bind (joinAt_sat hlen hs)
      exact evRegion_ok hE (fun z => callOk_of (envOk_fr hE) (fun w1 B1 hE1 => (ih (env.fr z) (sgOk_fr hsg) w1 B1 hE1).1) (sgOk_fr hsg)) h h1 (fun s' ρ' a' w' hp hS hG => hG ρ' a' w' hp ⟨trimT_ok hS.ts _, hS.defers, hS.heap, hS.below, hS.size⟩)
    | _ => exact hs.elim

theorem code_ok (hsg : SgOk env K) : ∀ n w0 B, EnvOk env K w0 B → CodeOk env K w0 B n ∧ LoopOk env K w0 B n := fun n => code_ok' n env hsg

/-- **What the executor answers of a call holds of the model's call**, in whatever world. -/
theorem evFn_calls (hE : EnvOk env K w0 w0.heap.size) (hsg : SgOk env K) {n : Nat} {f : FuncId} {vs : List C} {xs : List Value} {G : C × List Blk → Prop} (hvs : Rels env [] vs xs) (hs : (evFn K n f vs []).sat env G) :
    (∀ w, (callFunc f xs.toArray).run K.P w = .ok (.enter f xs.toArray) w) ∧
    Calls K.P f xs.toArray w0 fun e w' => ∃ r z ρ', G r ∧ e = .returned z ∧ r.1.r env ρ' [z] ∧ Below w0.heap.size w0 w' := by
  have hE' : EnvOk (env.fr fun _ => none) K w0 w0.heap.size := envOk_fr hE
  obtain ⟨h1, h2⟩ := evFnBy_ok (B := w0.heap.size) hE'.nrm (code_ok (sgOk_fr hsg) n _ _ hE').1 f vs [] G [] xs w0 ⟨rfl, by simp, by simp, by simp, by simp [Env.fr]⟩ (Below.refl _ _) (Nat.le_refl _) (rels_fr.2 hvs) (sat_fr.2 hs)
  refine ⟨h1, h2.mono ?_⟩
  rintro e w' ⟨r, y, ρ', hG, he, _, hz, _, hb⟩
  exact ⟨r, y, ρ', hG, he, (r_fr env _ ρ' r.1 _).1 hz, hb⟩

end
end Go.Sx
