/-
  More rules: a comparison of two ways; a named function of numbers alone. No condition.
-/
import Derived.Test.YtibfaifjnifgjaaPmpLoop
namespace Go.Proofs.Ytibfaifjnifgjaa
open Go.Sx Go.RowKit

/-- The numbers of a list of terms, if all are known. -/
noncomputable def litsOf (e : E) : Option (List Int) :=
  @E.rec (fun _ => Option (List Int)) (fun _ => none) (fun _ => none) (fun _ => none) (fun _ _ _ _ _ _ => none) (fun _ _ _ => none) (fun _ _ _ _ _ _ => none) (fun _ _ _ => none)
    (fun a _ _ ih => match a with
      | .lit n => match ih with
        | some l => some (n :: l)
        | none => none
      | _ => none) (some []) e

noncomputable def litApp (e : E) : E :=
  match e with
  | .app g l => if Nat.blt g 1000 then match litsOf l with
      | some xs => .lit (Phi g xs)
      | none => e
    else e
  | _ => e

/-- 'if c then x else y' held against 'z'. -/
noncomputable def distE (eqs : List (E × E)) (k : IntKind) (c x y z : E) : E :=
  match z with
  | .ite d u v => if c.beq d then mkIteB c (rw1 eqs (mkBin .eql k x u)) (rw1 eqs (mkBin .eql k y v)) else mkIteB c (rw1 eqs (mkBin .eql k x z)) (rw1 eqs (mkBin .eql k y z))
  | _ => mkIteB c (rw1 eqs (mkBin .eql k x z)) (rw1 eqs (mkBin .eql k y z))

/-- Where the answer is 0 or 1 as it was. -/
noncomputable def distT (eqs : List (E × E)) (e : E) : Option E :=
  match e with
  | .bin o k a z => match o with
    | .eql => match a with
      | .ite c x y => match z with
        | .lit _ => none
        | _ => some (distE eqs k c x y z)
      | _ => none
    | _ => none
  | _ => none

noncomputable def distN (eqs : List (E × E)) (e : E) : E :=
  match distT eqs e with
  | some r => if isB r then r else e
  | none => match unNot e with
    | some c => match distT eqs c with
      | some r => match r with
        | .ite d x y => if isB (mkIteB d (notE x) (notE y)) then mkIteB d (notE x) (notE y) else e
        | _ => if isB (notE r) then notE r else e
      | none => e
    | none => e

section
variable {env : Env}

theorem litsOf_d : ∀ {e : E} {l : List Int}, litsOf e = some l → (e.d env).2 = l := by
  intro e
  induction e with
  | cons a b _ ihb =>
    intro l h
    cases a with
    | lit m =>
      replace h : (match litsOf b with
        | some l => some (m :: l)
        | none => none) = some l := h
      split at h
      · rename_i l' hl
        simp only [Option.some.injEq] at h; subst h
        show m :: (b.d env).2 = _
        rw [ihb hl]
      · cases h
    | _ => cases h
  | nil => intro l h; cases h; rfl
  | _ => intro l h; cases h

theorem litApp_den (hF : EnvF Phi env) (e : E) : (litApp e).den env = e.den env := by
  unfold litApp
  split
  · rename_i g l
    split
    · rename_i hg
      have hg : g < 1000 := Nat.le_of_ble_eq_true hg
      split
      · rename_i xs hx
        show Phi g xs = env.f g (l.d env).2
        rw [litsOf_d hx, hF.1 g xs hg]
      · rfl
    · rfl
  · rfl

theorem tt_eql (env : Env) (k : IntKind) (a b : E) : (mkBin .eql k a b).tt env = (a.den env == b.den env) := by rw [tt_mkBin]; exact b2i_dec _

theorem distE_tt {eqs : List (E × E)} (he : ∀ p ∈ eqs, p.1.den env = p.2.den env) (k : IntKind) (c x y z : E) : (distE eqs k c x y z).tt env = ((E.ite c x y).den env == z.den env) := by
  have r : ∀ a b : E, (rw1 eqs (mkBin .eql k a b)).tt env = (a.den env == b.den env) := fun a b => by
    unfold E.tt; rw [rw1_den he]; exact tt_eql env k a b
  unfold distE
  split
  · rename_i d u v
    split
    · rename_i hb
      rw [E.beq_eq hb, mkIteB_tt, r, r, den_ite, den_ite]
      cases d.tt env <;> rfl
    · rw [mkIteB_tt, r, r, den_ite env c x y]
      cases c.tt env <;> rfl
  · rw [mkIteB_tt, r, r, den_ite env c x y]
    cases c.tt env <;> rfl

theorem distT_tt {eqs : List (E × E)} (he : ∀ p ∈ eqs, p.1.den env = p.2.den env) {e r : E} (h : distT eqs e = some r) : r.tt env = e.tt env ∧ isTest e = true := by
  unfold distT at h
  split at h
  · split at h
    · split at h
      · split at h
        · cases h
        · simp only [Option.some.injEq] at h
          rw [← h, distE_tt he]
          exact ⟨(eql_tt env _ _ _).symm ▸ (beq_dec _ _), rfl⟩
      · cases h
    · cases h
  · cases h

theorem distN_den {eqs : List (E × E)} (he : ∀ p ∈ eqs, p.1.den env = p.2.den env) (e : E) : (distN eqs e).den env = e.den env := by
  unfold distN
  split
  · rename_i r hr
    obtain ⟨h1, h2⟩ := distT_tt he hr
    split
    · rename_i hb
      rw [isB_den hb, h1, isTest_den h2]
    · rfl
  · split
    · rename_i c hc
      split
      · rename_i r hr
        obtain ⟨h1, h2⟩ := distT_tt he hr
        have hden := unNot_den (env := env) hc
        split
        · rename_i d x y
          split
          · rename_i hb
            rw [isB_den hb, mkIteB_tt, notE_tt, notE_tt, hden, ← h1, tt_ite]
            cases d.tt env <;> rfl
          · rfl
        · split
          · rename_i hb
            rw [isB_den hb, notE_tt, hden, h1]
          · rfl
      · rfl
    · rfl

noncomputable def nrmW (eqs : List (E × E)) (e : E) : E := rw1 eqs (litApp (distN eqs (nrmT (nrmP (nrmG e)))))
theorem nrmW_den (hF : EnvF Phi env) {eqs : List (E × E)} (h : ∀ p ∈ eqs, p.1.den env = p.2.den env) (e : E) : (nrmW eqs e).den env = e.den env := by
  unfold nrmW; rw [rw1_den h, litApp_den hF, distN_den h, nrmT_den, nrmP_den hF, nrmG_den]

end

/-- A law's run: 's': with summaries of SetAddr, SetCfg and Cfg. -/
noncomputable def lawW (s : Bool) (osz : Nat → Option (List (Option IntKind))) (eqs : List (E × E)) (sp : FuncId → Bool) : Ctx :=
  { P := Try.prog, sg := if s then sgS (nrmW eqs) else sgQ (nrmW eqs), sp := sp, osz := osz, nrm := nrmW eqs, nf := fun _ => false, fr := fun _ => true }

theorem lawW_sg {s : Bool} {osz : Nat → Option (List (Option IntKind))} {env : Env} (hF : EnvF Phi env) {eqs : List (E × E)} (sp : FuncId → Bool) (he : ∀ p ∈ eqs, p.1.den env = p.2.den env) : SgOk env (lawW s osz eqs sp) := by
  cases s
  · exact sgQ_ok hF (nrmW_den hF he)
  · exact sgS_ok hF (nrmW_den hF he)

theorem lawW_ok {s : Bool} {osz : Nat → Option (List (Option IntKind))} {env : Env} (hF : EnvF Phi env) {eqs : List (E × E)} (sp : FuncId → Bool) (he : ∀ p ∈ eqs, p.1.den env = p.2.den env) : CtxOk Try.prog osz env (lawW s osz eqs sp) :=
  ⟨rfl, rfl, nrmW_den hF he, lawW_sg hF sp he⟩

/-- Every way of the run, where some tests are known, comes to the constant true. -/
noncomputable def isTrueK (kn : List (E × Bool)) : T (C × List Blk) → Bool
  | .leaf r => match r.1 with
    | .bool e => match under kn e with
      | .lit n => !intBeq n 0
      | _ => false
    | _ => false
  | .br c a b => match under kn c with
    | .lit n => if intBeq n 0 then isTrueK kn b else isTrueK kn a
    | c' => isTrueK (learn c' true kn) a && isTrueK (learn c' false kn) b
  | .both a b => isTrueK kn a && isTrueK kn b
  | .need d t => (match under kn d with
    | .lit n => !intBeq n 0
    | _ => false) && isTrueK kn t
  | .fail _ => false

theorem isTrueK_sat {env : Env} : ∀ {t : T (C × List Blk)} {kn : List (E × Bool)}, KnownOk env kn → isTrueK kn t = true → t.sat env (Says env) := by
  intro t
  induction t with
  | leaf r =>
    intro kn hk h
    obtain ⟨v, H⟩ := r
    cases v <;> simp only [isTrueK, Bool.false_eq_true] at h
    rename_i e
    split at h
    · rename_i n hn
      refine ⟨e, rfl, ?_⟩
      rw [← under_tt e hk, hn, tt_lit]; exact h
    · cases h
  | br c a b iha ihb =>
    intro kn hk h
    have hu := under_tt c hk
    simp only [isTrueK] at h
    split at h
    · rename_i n hn
      rw [hn, tt_lit] at hu
      split at h
      · rename_i hz
        rw [hz] at hu
        exact ⟨fun hc => by rw [hc] at hu; simp at hu, fun _ => ihb hk h⟩
      · rename_i hz
        have hz : intBeq n 0 = false := by simpa using hz
        rw [hz] at hu
        exact ⟨fun _ => iha hk h, fun hc => by rw [hc] at hu; simp at hu⟩
    · simp only [Bool.and_eq_true] at h
      refine ⟨fun hc => iha (learn_ok hk ?_) h.1, fun hc => ihb (learn_ok hk ?_) h.2⟩
      · rw [hu, hc]
      · rw [hu, hc]
  | both a b iha ihb => intro kn hk h; simp only [isTrueK, Bool.and_eq_true] at h; exact ⟨iha hk h.1, ihb hk h.2⟩
  | need d t ih =>
    intro kn hk h
    simp only [isTrueK, Bool.and_eq_true] at h
    obtain ⟨h1, h2⟩ := h
    refine ⟨?_, ih hk h2⟩
    split at h1
    · rename_i n hn
      rw [← under_tt d hk, hn, tt_lit]; exact h1
    · cases h1
  | fail n => intro kn _ h; cases h

set_option maxRecDepth 100000 in
theorem case_lawW {f : FuncId} {kds : List Kd} {cs : List C} {env : Env} (hF : EnvF Phi env) (s : Bool) (n : Nat) (eqs : List (E × E)) (sp : FuncId → Bool) (kn : List (E × Bool)) (he : ∀ p ∈ eqs, p.1.den env = p.2.den env) (hk : KnownOk env kn)
    (h : isTrueK kn (evFn (lawW s (oszOf kds) eqs sp) n f cs []) = true) : Case Try.prog f kds cs env :=
  ⟨lawW s (oszOf kds) eqs sp, cs, n, rfl, rfl, nrmW_den hF he, lawW_sg hF sp he, fun _ h => h, isTrueK_sat hk h⟩

theorem KnownOk.nil {env : Env} : KnownOk env [] := fun p hp => by cases hp

end Go.Proofs.Ytibfaifjnifgjaa
