/-
  Terms over one number of 32 values (mstatus): as tables. No condition.
-/
import Derived.Test.YtibfaifjnifgjaaCases
namespace Go.Proofs.Ytibfaifjnifgjaa
open Go.Sx Go.RowKit

/-- The number that the term is over: mstatus as Proper makes it. -/
noncomputable def findX (e : E) : Option E :=
  @E.rec (fun _ => Option E) (fun _ => none) (fun _ => none) (fun _ => none)
    (fun _ _ _ _ iha ihb => match iha with
      | some x => some x
      | none => ihb)
    (fun _ _ ih => ih)
    (fun _ _ _ ihc iha ihb => match ihc with
      | some x => some x
      | none => match iha with
        | some x => some x
        | none => ihb)
    (fun f l _ => if Nat.beq f 20 then some (.app f l) else if Nat.beq f 26 then match l with
        | .cons x _ => some x
        | _ => none
      else none)
    (fun _ _ _ _ => none) none e

noncomputable def litsT (e : E) : Option (List Int) :=
  @E.rec (fun _ => Option (List Int)) (fun _ => none) (fun _ => none) (fun _ => none) (fun _ _ _ _ _ _ => none) (fun _ _ _ => none) (fun _ _ _ _ _ _ => none) (fun _ _ _ => none)
    (fun a _ _ ih => match a with
      | .lit n => match ih with
        | some l => some (n :: l)
        | none => none
      | _ => none) (some []) e

noncomputable def zip2 (f : Int → Int → Int) (a : List Int) : List Int → List Int :=
  @List.rec Int (fun _ => List Int → List Int) (fun _ => []) (fun x _ ih bs => match bs with
    | [] => []
    | y :: bs => f x y :: ih bs) a

noncomputable def zip3 (c a b : List Int) : List Int := zip2 (fun (p : Int) (q : Int) => p + q) (zip2 (fun p q => if intBeq p 0 then 0 else q) c a) (zip2 (fun p q => if intBeq p 0 then q else 0) c b)

/-- The term's numbers, for each of X's. -/
noncomputable def tabOf (X : E) (e : E) : Option (List Int) :=
  @E.rec (fun _ => Option (List Int)) (fun n => some (List.replicate 32 n)) (fun _ => none) (fun _ => none)
    (fun o k _ _ iha ihb => match iha with
      | some la => match ihb with
        | some lb => some (zip2 (binDen o k) la lb)
        | none => none
      | none => none)
    (fun k _ ih => match ih with
      | some l => some (l.map k.wrap)
      | none => none)
    (fun _ _ _ ihc iha ihb => match ihc with
      | some lc => match iha with
        | some la => match ihb with
          | some lb => some (zip3 lc la lb)
          | none => none
        | none => none
      | none => none)
    (fun f l _ => if (E.app f l).beq X then some statVals else if Nat.beq f 26 then match l with
        | .cons x r => if x.beq X then (match litsT r with
          | some l => if Nat.beq (lenL l) 32 then some l else none
          | none => none) else none
        | _ => none
      else none)
    (fun _ _ _ _ => none) none e

noncomputable def allEq (n : Int) (l : List Int) : Bool := @List.rec Int (fun _ => Bool) true (fun x _ ih => intBeq x n && ih) l

noncomputable def listT (l : List Int) : E := @List.rec Int (fun _ => E) .nil (fun n _ ih => .cons (.lit n) ih) l

noncomputable def mkTab (X : E) (l : List Int) : E :=
  match l with
  | [] => .lit 0
  | n :: r => if allEq n r then .lit n else .app 26 (.cons X (listT l))

noncomputable def stX (X : E) : Bool :=
  match X with
  | .app f l => match l with
    | .cons _ r => match r with
      | .nil => Nat.beq f 20
      | _ => false
    | _ => false
  | _ => false

noncomputable def tabE (e : E) : E :=
  match findX e with
  | some X => if stX X then (match tabOf X e with
    | some l => mkTab X l
    | none => e) else e
  | none => e

/-- Terms that are made: as a table where they are over one number. -/
noncomputable def nrmTab (e : E) : E :=
  match e with
  | .bin _ _ _ _ => tabE e
  | .conv _ _ => tabE e
  | .ite _ _ _ => tabE e
  | _ => e

noncomputable def nrmTabR (e : E) : E :=
  @E.rec (fun _ => E) .lit .var .slen (fun o k a b _ _ => nrmTab (.bin o k a b)) (fun k a _ => nrmTab (.conv k a))
    (fun c a b ihc iha ihb => match nrmTab (.ite c a b) with
      | .ite _ _ _ => mkIte ihc iha ihb
      | r => r)
    (fun f l _ => .app f l) (fun a b _ _ => .cons a b) .nil e

/-! ### They are right -/

theorem f26 {env : Env} (h : EnvF Phi env) (l : List Int) : env.f 26 l = selF l := h.1 26 l (by decide)

section
variable {env : Env}

/-- A table holds the term's number: 'x' is X's number. -/
def TabOk (x : Int) (l : List Int) (v : Int) : Prop := l.length = 32 ∧ (l[statVals.idxOf x]?).getD 0 = v

theorem idx_lt {x : Int} (hx : x ∈ statVals) : statVals.idxOf x < 32 := by
  have := List.idxOf_lt_length_of_mem hx
  have e : statVals.length = 32 := by decide
  omega

theorem litsT_d : ∀ {e : E} {l : List Int}, litsT e = some l → (e.d env).2 = l := by
  intro e
  induction e with
  | cons a b _ ihb =>
    intro l h
    cases a with
    | lit m =>
      replace h : (match litsT b with
        | some l => some (m :: l)
        | none => none) = some l := h
      split at h
      · rename_i l' hl
        simp only [Option.some.injEq] at h; subst h
        show m :: (b.d env).2 = _
        rw [ihb hl]
      · cases h
    | _ => cases h
  | nil => intro l h; cases h; rfl
  | _ => intro l h; cases h

theorem zip2_get (f : Int → Int → Int) : ∀ (a b : List Int) (i : Nat), i < a.length → i < b.length → (zip2 f a b).length = min a.length b.length ∧ ((zip2 f a b)[i]?).getD 0 = f ((a[i]?).getD 0) ((b[i]?).getD 0) := by
  intro a
  induction a with
  | nil => intro b i h; simp at h
  | cons x a ih =>
    intro b i ha hb
    cases b with
    | nil => simp at hb
    | cons y b =>
      have e : zip2 f (x :: a) (y :: b) = f x y :: zip2 f a b := rfl
      rw [e]
      have hl : (zip2 f a b).length = min a.length b.length := by
        cases a with
        | nil => show (0 : Nat) = _; simp
        | cons x' a' => cases b with
          | nil => show (0 : Nat) = _; simp
          | cons y' b' => exact (ih (y' :: b') 0 (by simp) (by simp)).1
      refine ⟨by simp [hl], ?_⟩
      cases i with
      | zero => rfl
      | succ i => exact (ih b i (by simpa using ha) (by simpa using hb)).2

theorem zip2_ok {x : Int} (hx : x ∈ statVals) (f : Int → Int → Int) {a b : List Int} {u v : Int} (ha : TabOk x a u) (hb : TabOk x b v) : TabOk x (zip2 f a b) (f u v) := by
  have hi := idx_lt hx
  obtain ⟨h1, h2⟩ := zip2_get f a b (statVals.idxOf x) (by rw [ha.1]; exact hi) (by rw [hb.1]; exact hi)
  exact ⟨by rw [h1, ha.1, hb.1]; rfl, by rw [h2, ha.2, hb.2]⟩

theorem tab_self : ∀ x ∈ statVals, (statVals[statVals.idxOf x]?).getD 0 = x := by
  have h : statVals.all (fun x => decide ((statVals[statVals.idxOf x]?).getD 0 = x)) = true := by decide +kernel
  intro x hx
  exact of_decide_eq_true (List.all_eq_true.1 h x hx)

theorem tabOf_ok (hF : EnvF Phi env) {X : E} {x : Int} (hX : X.den env = x) (hx : x ∈ statVals) : ∀ {e : E} {l : List Int}, tabOf X e = some l → TabOk x l (e.den env) := by
  intro e
  induction e with
  | lit n =>
    intro l h
    cases h
    refine ⟨by simp, ?_⟩
    rw [List.getElem?_replicate, if_pos (idx_lt hx)]; rfl
  | bin o k a b iha ihb =>
    intro l h
    replace h : (match tabOf X a with
      | some la => match tabOf X b with
        | some lb => some (zip2 (binDen o k) la lb)
        | none => none
      | none => none) = some l := h
    split at h
    · rename_i la ha
      split at h
      · rename_i lb hb
        simp only [Option.some.injEq] at h; subst h
        exact zip2_ok hx _ (iha ha) (ihb hb)
      · cases h
    · cases h
  | conv k a iha =>
    intro l h
    replace h : (match tabOf X a with
      | some l => some (l.map k.wrap)
      | none => none) = some l := h
    split at h
    · rename_i la ha
      simp only [Option.some.injEq] at h; subst h
      obtain ⟨h1, h2⟩ := iha ha
      refine ⟨by simp [h1], ?_⟩
      have hi : statVals.idxOf x < la.length := by rw [h1]; exact idx_lt hx
      rw [List.getElem?_map, List.getElem?_eq_getElem hi]
      rw [List.getElem?_eq_getElem hi] at h2
      show k.wrap (la[statVals.idxOf x]) = k.wrap (a.den env)
      rw [← h2]; rfl
    · cases h
  | ite c a b ihc iha ihb =>
    intro l h
    replace h : (match tabOf X c with
      | some lc => match tabOf X a with
        | some la => match tabOf X b with
          | some lb => some (zip3 lc la lb)
          | none => none
        | none => none
      | none => none) = some l := h
    split at h
    · rename_i lc hc
      split at h
      · rename_i la ha
        split at h
        · rename_i lb hb
          simp only [Option.some.injEq] at h; subst h
          have h1 := zip2_ok hx (fun p q => if intBeq p 0 then 0 else q) (ihc hc) (iha ha)
          have h2 := zip2_ok hx (fun p q => if intBeq p 0 then q else 0) (ihc hc) (ihb hb)
          have h3 := zip2_ok hx (fun p q => p + q) h1 h2
          rw [den_ite]
          unfold zip3
          have e : (if intBeq (c.den env) 0 then 0 else a.den env) + (if intBeq (c.den env) 0 then b.den env else 0) = if c.tt env = true then a.den env else b.den env := by
            by_cases h0 : c.den env = 0
            · rw [intBeq_iff.2 h0, tt_false.2 h0]; simp
            · have : intBeq (c.den env) 0 = false := by rw [intBeq_eq]; simpa using h0
              rw [this, tt_true.2 h0]; simp
          rw [← e]; exact h3
        · cases h
      · cases h
    · cases h
  | app f args _ =>
    intro l h
    replace h : (if (E.app f args).beq X then some statVals else if Nat.beq f 26 then match (generalizing := false) args with
        | .cons x r => if x.beq X then (match litsT r with
          | some l => if Nat.beq (lenL l) 32 then some l else none
          | none => none) else none
        | _ => none
      else none) = some l := h
    split at h
    · rename_i hb
      simp only [Option.some.injEq] at h; subst h
      rw [E.beq_eq hb, hX]
      exact ⟨by decide, tab_self x hx⟩
    · split at h
      · rename_i hf
        have hf := Nat.eq_of_beq_eq_true hf
        subst hf
        cases args with
        | cons y r =>
          replace h : (if y.beq X then (match litsT r with
              | some l => if Nat.beq (lenL l) 32 then some l else none
              | none => none) else none) = some l := h
          split at h
          · rename_i hy
            have hy := E.beq_eq hy
            subst hy
            split at h
            · rename_i l' hl'
              split at h
              · rename_i h32
                simp only [Option.some.injEq] at h; subst h
                have hd := litsT_d (env := env) hl'
                have e : (E.app 26 (.cons y r)).den env = selF (x :: l') := by
                  show env.f 26 ((E.cons y r).d env).2 = _
                  rw [f26 hF]
                  show selF (y.den env :: (r.d env).2) = _
                  rw [hX, hd]
                rw [e]
                refine ⟨?_, rfl⟩
                have := Nat.eq_of_beq_eq_true h32
                rwa [lenL_eq] at this
              · cases h
            · cases h
          · cases h
        | _ => cases h
      · cases h
  | _ => intro l h; cases h

theorem allEq_get {n : Int} : ∀ {l : List Int}, allEq n l = true → ∀ (i : Nat), i < l.length → (l[i]?).getD 0 = n := by
  intro l
  induction l with
  | nil => intro _ i hi; simp at hi
  | cons y l ih =>
    intro h i hi
    replace h : (intBeq y n && allEq n l) = true := h
    simp only [Bool.and_eq_true, intBeq_iff] at h
    cases i with
    | zero => exact h.1
    | succ i => exact ih h.2 i (by simpa using hi)

theorem listT_d (env : Env) : ∀ l : List Int, ((listT l).d env).2 = l := by
  intro l
  induction l with
  | nil => rfl
  | cons n l ih => show n :: ((listT l).d env).2 = _; rw [ih]

theorem mkTab_den (hF : EnvF Phi env) {X : E} {x : Int} (hX : X.den env = x) (hx : x ∈ statVals) {l : List Int} {v : Int} (h : TabOk x l v) : (mkTab X l).den env = v := by
  obtain ⟨h1, h2⟩ := h
  have hi := idx_lt hx
  unfold mkTab
  split
  · simp at h1
  · rename_i n r
    split
    · rename_i ha
      rw [← h2, den_lit]
      cases hk : statVals.idxOf x with
      | zero => rfl
      | succ i =>
        rw [hk] at hi
        exact (allEq_get ha i (by simp at h1; omega)).symm
    · show env.f 26 (X.den env :: ((listT (n :: r)).d env).2) = v
      rw [f26 hF, listT_d, hX]
      exact h2

/-- X is mstatus, made proper. -/
theorem stX_ok (hF : EnvF Phi env) {X : E} (h : stX X = true) : X.den env ∈ statVals := by
  cases X with
  | app f l =>
    cases l with
    | cons a r =>
      cases r with
      | nil =>
        have h : Nat.beq f 20 = true := h
        have := Nat.eq_of_beq_eq_true h
        subst this
        show env.f 20 ((E.cons a E.nil).d env).2 ∈ statVals
        rw [f20 hF]
        exact stat_vals _
      | _ => cases h
    | _ => cases h
  | _ => cases h

theorem tabE_den (hF : EnvF Phi env) (e : E) : (tabE e).den env = e.den env := by
  unfold tabE
  split
  · rename_i X hX
    split
    · rename_i hs
      split
      · rename_i l hl
        exact mkTab_den hF rfl (stX_ok hF hs) (tabOf_ok hF rfl (stX_ok hF hs) hl)
      · rfl
    · rfl
  · rfl

theorem nrmTab_den (hF : EnvF Phi env) (e : E) : (nrmTab e).den env = e.den env := by
  cases e <;> first | exact tabE_den hF _ | rfl

theorem nrmTabR_den (hF : EnvF Phi env) : ∀ e : E, (nrmTabR e).den env = e.den env := by
  intro e
  induction e with
  | bin o k a b _ _ => exact nrmTab_den hF (.bin o k a b)
  | conv k a _ => exact nrmTab_den hF (.conv k a)
  | ite c a b ihc iha ihb =>
    have h := nrmTab_den hF (.ite c a b)
    show (match nrmTab (.ite c a b) with
      | .ite _ _ _ => mkIte (nrmTabR c) (nrmTabR a) (nrmTabR b)
      | r => r).den env = _
    split
    · rw [mkIte_den, den_ite, E.tt, E.tt, ihc, iha, ihb]
    · rw [h]
  | _ => rfl

end
end Go.Proofs.Ytibfaifjnifgjaa
