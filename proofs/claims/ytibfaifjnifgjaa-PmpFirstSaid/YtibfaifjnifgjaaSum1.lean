/-
  What the functions answer that make bytes, entries and a Cpu proper. No condition.
-/
import Derived.Test.YtibfaifjnifgjaaRows
import Derived.Test.YtibfaifjnifgjaaNamed
import Derived.Test.YtibfaifjnifgjaaSeat
namespace Go.Proofs.Ytibfaifjnifgjaa
open Go.Sx Go.RowKit

/-! ### What summaries are asked -/

def SgF (env : Env) (P : Program) (sg : FuncId → List C → Option C) : Prop :=
  ∀ (f : FuncId) (vs : List C) (v : C), sg f vs = some v → ∀ (ρ : List Nat) (xs : List Value) (w : World), Rels env ρ vs xs →
    (∀ w, (callFunc f xs.toArray).run P w = .ok (.enter f xs.toArray) w) ∧ Calls P f xs.toArray w fun e w' => ∃ z, e = .returned z ∧ v.r env ρ [z] ∧ Below w.heap.size w w'

def sgOr (a b : FuncId → List C → Option C) (f : FuncId) (vs : List C) : Option C :=
  match a f vs with
  | some v => some v
  | none => b f vs

theorem SgF.or {env : Env} {P : Program} {a b : FuncId → List C → Option C} (ha : SgF env P a) (hb : SgF env P b) : SgF env P (sgOr a b) := by
  intro f vs v h
  unfold sgOr at h
  split at h
  · rename_i v' hv; cases h; exact ha f vs _ hv
  · exact hb f vs v h

def sg0 : FuncId → List C → Option C := fun _ _ => none
theorem sg0_ok (env : Env) (P : Program) : SgF env P sg0 := fun _ _ _ h => by cases h

/-! ### Bytes -/

theorem byteE_den (env : Env) (e : E) : (byteE e).den env = byteF (e.den env) := rfl

theorem and_u8 (x y : Int) : binDen .and .u8 x y = ((BitVec.ofInt 8 x &&& BitVec.ofInt 8 y).toNat : Int) := by
  have h := (BitVec.ofInt 8 x &&& BitVec.ofInt 8 y).isLt
  show IntKind.u8.wrap ((BitVec.ofInt 8 x &&& BitVec.ofInt 8 y).toNat : Int) = _
  generalize BitVec.ofInt 8 x &&& BitVec.ofInt 8 y = z at h
  simp only [IntKind.wrap, IntKind.signed, IntKind.bits]
  simp
  omega

theorem byteF_low (x : Int) : byteF x = byteF ((BitVec.ofInt 8 x).toNat : Int) := by
  show (if b2i (binDen .and .u8 x 1 == 0) ≠ 0 then binDen .and .u8 x 157 else binDen .and .u8 x 159) = (if b2i (binDen .and .u8 _ 1 == 0) ≠ 0 then binDen .and .u8 _ 157 else binDen .and .u8 _ 159)
  rw [and_u8, and_u8, and_u8, and_u8, and_u8, and_u8]
  have : BitVec.ofInt 8 ((envL [((BitVec.ofInt 8 x).toNat : Int)]).v 0) = BitVec.ofInt 8 x := ofInt_toNat _
  rw [show (E.d (envL [((BitVec.ofInt 8 x).toNat : Int)]) (.var 0)).1 = (envL [((BitVec.ofInt 8 x).toNat : Int)]).v 0 from rfl, this]

theorem byteF_all : (List.range 256).all (fun n => decide (byteF (byteF n) = byteF n)) = true := by decide +kernel

theorem byteF_twice (x : Int) : byteF (byteF x) = byteF x := by
  rw [byteF_low x]
  have := List.all_eq_true.1 byteF_all ((BitVec.ofInt 8 x).toNat) (by have := (BitVec.ofInt 8 x).isLt; simp; omega)
  exact of_decide_eq_true this

/-! ### The named functions -/

theorem f20 {env : Env} (h : EnvF Phi env) (l : List Int) : env.f 20 l = stat (l.headD 0) := h.1 20 l (by decide)
theorem f21 {env : Env} (h : EnvF Phi env) (l : List Int) : env.f 21 l = byteF (l.headD 0) := h.1 21 l (by decide)
theorem f22 {env : Env} (h : EnvF Phi env) (l : List Int) : env.f 22 l = resV l := h.1 22 l (by decide)

noncomputable def pushB : E → E
  | .lit n => .lit (byteF n)
  | .ite c a b => mgL c (pushB a) (pushB b)
  | .app f l => if Nat.beq f 21 then .app f l else .app 21 (.cons (.app f l) .nil)
  | e => .app 21 (.cons e .nil)

theorem app1_den (env : Env) (g : Nat) (e : E) : (E.app g (.cons e .nil)).den env = env.f g [e.den env] := rfl

theorem pushB_den {env : Env} (h : EnvF Phi env) : ∀ e, (pushB e).den env = byteF (e.den env) := by
  intro e
  induction e with
  | lit n => rfl
  | ite c a b _ iha ihb => simp only [pushB]; rw [mgL_den, den_ite, iha, ihb]; cases c.tt env <;> rfl
  | app f l _ =>
    simp only [pushB]
    split
    · rename_i hf; have hf : f = 21 := by simpa using hf
      subst hf
      show env.f 21 _ = byteF (env.f 21 _)
      rw [f21 h, byteF_twice]
    · rw [app1_den, f21 h]; rfl
  | _ => simp only [pushB]; rw [app1_den, f21 h]; rfl

/-! ### What is done to each cell -/

noncomputable def Fo.ap (nrm : E → E) (o : Fo) (e : E) : E :=
  match o with
  | .id => e
  | .zero => .lit 0
  | .off m => nrm (mkBin .andNot .u64 e (.lit m))
  | .on m => nrm (mkBin .and .u64 e (.lit m))
  | .mode => match mapL modeF e with
    | some r => r
    | none => mkIte (nrm (mkBin .eql .i64 e (.lit 3))) (.lit 3) (.lit 0)
  | .stat => match mapL Go.Sx.stat e with
    | some r => r
    | none => nrm (.app 20 (.cons e .nil))
  | .byte => pushB e

theorem Fo.ap_den {env : Env} (h : EnvF Phi env) {nrm : E → E} (hn : ∀ e, (nrm e).den env = e.den env) (o : Fo) (e : E) : (o.ap nrm e).den env = o.sem (e.den env) := by
  cases o with
  | id => rfl
  | zero => rfl
  | off m => simp only [Fo.ap, Fo.sem]; rw [hn, mkBin_den]; rfl
  | on m => simp only [Fo.ap, Fo.sem]; rw [hn, mkBin_den]; rfl
  | mode =>
    simp only [Fo.ap, Fo.sem]
    split
    · rename_i r hr; exact mapL_den hr
    · rw [mkIte_den, E.tt, hn, mkBin_den]
      by_cases h3 : e.den env = 3 <;> simp [binDen, b2i, den_lit, modeF, h3]
  | stat =>
    simp only [Fo.ap, Fo.sem]
    split
    · rename_i r hr; exact mapL_den hr
    · rw [hn, app1_den, f20 h]; rfl
  | byte => exact pushB_den h e

/-- The reservation's three cells. -/
noncomputable def resG (nrm : E → E) (a b c : E) : List E :=
  let v := nrm (.app 22 (.cons a (.cons b (.cons c .nil))))
  [v, mkIte v b (.lit 0), mkIte v c (.lit 0)]

noncomputable def resE (nrm : E → E) (a b c : E) : List E :=
  match a with
  | .lit n => if intBeq n 0 then [.lit 0, .lit 0, .lit 0] else resG nrm a b c
  | .app g l => match l with
    | .cons _ r => match r with
      | .cons y r => match r with
        | .cons z r => match r with
          | .nil => if Nat.beq g 22 && (b.beq (.ite a y (.lit 0)) && c.beq (.ite a z (.lit 0))) then [a, b, c] else resG nrm a b c
          | _ => resG nrm a b c
        | _ => resG nrm a b c
      | _ => resG nrm a b c
    | _ => resG nrm a b c
  | _ => resG nrm a b c

theorem resG_den {env : Env} (h : EnvF Phi env) {nrm : E → E} (hn : ∀ e, (nrm e).den env = e.den env) (a b c : E) : (resG nrm a b c).map (E.den env) = resS (a.den env) (b.den env) (c.den env) := by
  have hv : (nrm (.app 22 (.cons a (.cons b (.cons c .nil))))).den env = resV [a.den env, b.den env, c.den env] := by
    rw [hn]; exact f22 h _
  simp only [resG, List.map_cons, List.map_nil, mkIte_den, E.tt, hv, den_lit, resS, ne_eq, decide_not, Bool.not_eq_true', decide_eq_false_iff_not]

theorem resV_zero (b c : Int) : resV [0, b, c] = 0 := rfl

theorem resV_fix (x y z : Int) (h : resV [x, y, z] ≠ 0) : resV [x, y, z] = x := by
  unfold resV at h ⊢
  rw [den_ite] at h ⊢
  split
  · rename_i h1; rw [if_pos h1] at h; exact absurd rfl h
  · rfl

theorem resS_twice (x y z : Int) : [resV [x, y, z], if resV [x, y, z] ≠ 0 then y else 0, if resV [x, y, z] ≠ 0 then z else 0] =
    resS (resV [x, y, z]) (if resV [x, y, z] ≠ 0 then y else 0) (if resV [x, y, z] ≠ 0 then z else 0) := by
  unfold resS
  by_cases h0 : resV [x, y, z] = 0
  · simp only [h0, ne_eq, not_true, if_false, resV_zero]
  · have hf := resV_fix _ _ _ h0
    simp only [h0, ne_eq, not_false_eq_true, if_true]
    rw [hf, hf]
    rw [hf] at h0
    simp [h0]

theorem den_ite2 (env : Env) (c a b : E) : (E.ite c a b).den env = if c.den env ≠ 0 then a.den env else b.den env := rfl

theorem resE_den {env : Env} (h : EnvF Phi env) {nrm : E → E} (hn : ∀ e, (nrm e).den env = e.den env) (a b c : E) : (resE nrm a b c).map (E.den env) = resS (a.den env) (b.den env) (c.den env) := by
  unfold resE
  split
  · split
    · rename_i n hz; rw [intBeq_iff.1 hz]; simp only [List.map_cons, List.map_nil, den_lit, resS, resV_zero]; rfl
    · exact resG_den h hn ..
  · rename_i g l
    split
    · split
      · split
        · split
          · split
            · rename_i _ _ x _ y _ z _ hc
              simp only [Bool.and_eq_true] at hc
              obtain ⟨hg, hb, hc⟩ := hc
              have hg : g = 22 := by simpa using hg
              subst hg
              have hb := E.beq_eq hb
              have hc := E.beq_eq hc
              have ha : (E.app 22 (.cons x (.cons y (.cons z .nil)))).den env = resV [x.den env, y.den env, z.den env] := f22 h _
              subst hb hc
              simp only [List.map_cons, List.map_nil]
              rw [den_ite2, den_ite2, ha]
              exact resS_twice _ _ _
            · exact resG_den h hn ..
          · exact resG_den h hn ..
        · exact resG_den h hn ..
      · exact resG_den h hn ..
    · exact resG_den h hn ..
  · exact resG_den h hn ..

/-- All cells. -/
noncomputable def opsE (nrm : E → E) (os : List Fo) : List E → List E :=
  @List.rec Fo (fun _ => List E → List E)
    (fun es => match es with
      | [a, b, c] => resE nrm a b c
      | _ => [])
    (fun o _ ih es => match es with
      | [] => []
      | e :: es => o.ap nrm e :: ih es) os

theorem opsE_den {env : Env} (h : EnvF Phi env) {nrm : E → E} (hn : ∀ e, (nrm e).den env = e.den env) : ∀ (os : List Fo) (es : List E), (opsE nrm os es).map (E.den env) = opsS os (es.map (E.den env)) := by
  intro os
  induction os with
  | nil =>
    intro es
    match es with
    | [] => rfl
    | [_] => rfl
    | [_, _] => rfl
    | [a, b, c] => exact resE_den h hn a b c
    | _ :: _ :: _ :: _ :: _ => rfl
  | cons o os ih =>
    intro es
    cases es with
    | nil => rfl
    | cons e es =>
      show (o.ap nrm e).den env :: (opsE nrm os es).map (E.den env) = o.sem (e.den env) :: opsS os (es.map (E.den env))
      rw [o.ap_den h hn, ih]

/-! ### Summaries of that form -/

noncomputable def sgOps (fs : FuncId → Bool) (ks : List (Option IntKind)) (os : List Fo) (nrm : E → E) (f : FuncId) (vs : List C) : Option C :=
  if fs f then match parseA [.agg ks] vs with
    | some es => some (.agg (.toC (flatE ks (opsE nrm os es))))
    | none => none
  else none

theorem vars_den {env : Env} {all : List Int} : ∀ (n o : Nat), o + n = all.length → (vars n o).map (E.den (withV env all)) = all.drop o := by
  intro n
  induction n with
  | zero => intro o h; simp [vars]; omega
  | succ n ih =>
    intro o h
    simp only [vars, List.map_cons]
    rw [ih (o + 1) (by omega), List.drop_eq_getElem_cons (show o < all.length by omega)]
    congr 1
    show (all[o]?).getD 0 = _
    rw [List.getElem?_eq_getElem (by omega)]; rfl

theorem parse_len {ks : List (Option IntKind)} {vs : List C} {es : List E} (h : parseA [.agg ks] vs = some es) : es.length = ks.length := by
  match vs, h with
  | c :: cs, h =>
    unfold parseA at h
    split at h
    · split at h
      · split at h
        · rename_i he
          split at h
          · rename_i r hr
            simp only [Option.some.injEq] at h
            have : r = [] := by cases cs with
              | nil => simp [parseA] at hr; exact hr
              | cons => simp [parseA] at hr
            rw [← h, this, List.append_nil]; exact unflat_len _ _ _ he
          · cases h
        · cases h
      · cases h
    · cases h

/-- The run of such a function, over variables, comes to what the summary says. -/
theorem sgOps_ok {P : Program} {ks : List (Option IntKind)} {os : List Fo} {nrm : E → E} {fs : FuncId → Bool} {env : Env} (hF : EnvF Phi env) (hn : ∀ e, (nrm e).den env = e.den env)
    (hrun : ∀ f, fs f = true → ∃ (K : Ctx) (n : Nat) (R : List E), K.P = P ∧ (K.osz = fun _ => none) ∧ leafIs (.agg (.toC (flatE ks R))) (evFn K n f (varsA [.agg ks] 0) []) = true ∧
      (∀ env, EnvF Phi env → VarsIn (shKs [.agg ks]) 0 env → ∀ e, (K.nrm e).den env = e.den env) ∧ (∀ env, EnvF Phi env → (∀ e, (K.nrm e).den env = e.den env) → SgOk env K) ∧
      ∀ env, EnvF Phi env → R.map (E.den env) = opsS os ((vars ks.length 0).map (E.den env))) :
    SgF env P (sgOps fs ks os nrm) := by
  intro f vs v hv ρ xs w hr
  unfold sgOps at hv
  split at hv
  · rename_i hf
    split at hv
    · rename_i es hes
      simp only [Option.some.injEq] at hv; subst hv
      obtain ⟨K, n, R, rfl, hosz, hrun', hKn, hsg, hR⟩ := hrun f hf
      obtain ⟨h1, h2⟩ := sum_calls hosz hrun' hF hKn hsg hes hr w
      refine ⟨h1, h2.mono ?_⟩
      rintro e w' ⟨z, ρ', rfl, hz, hb⟩
      refine ⟨z, rfl, same_r ?_ hz, hb⟩
      have hlen : es.length = ks.length := parse_len hes
      have he : R.map (E.den (withV env (es.map (E.den env)))) = (opsE nrm os es).map (E.den env) := by
        rw [hR _ (hF.withV _), opsE_den hF hn, vars_den ks.length 0 (by simp [hlen])]; rfl
      refine same_flat ks _ _ (by simpa using congrArg List.length he) (fun i a b ha hb => ?_)
      have := congrArg (fun l => l[i]?) he
      simp only [List.getElem?_map, ha, hb, Option.map_some, Option.some.injEq] at this
      exact this
    · cases hv
  · cases hv

end Go.Proofs.Ytibfaifjnifgjaa
