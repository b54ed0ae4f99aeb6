/-
  The symbolic executor: trees of ways, and two ways brought into one. No condition.
-/
import Derived.Test.YtnlgfccjohhcmaaGreatDoorSx9
namespace Go.Sx
open Go.RowKit

def Pre (ρ ρ' : List Nat) : Prop := ∀ (i g : Nat), ρ[i]? = some g → ρ'[i]? = some g

theorem Pre.refl (ρ : List Nat) : Pre ρ ρ := fun _ _ h => h
theorem Pre.trans {a b c : List Nat} (h : Pre a b) (k : Pre b c) : Pre a c := fun i g hi => k i g (h i g hi)

/-- 'K' holds at the end of each way that is taken. -/
def T.sat {α : Type} (env : Env) (K : α → Prop) : T α → Prop
  | .leaf x => K x
  | .br c a b => (c.tt env = true → a.sat env K) ∧ (c.tt env = false → b.sat env K)
  | .both a b => a.sat env K ∧ b.sat env K
  | .need c t => c.tt env = true ∧ t.sat env K
  | .fail _ => False

section
variable {env : Env}

theorem sat_mono {α : Type} {K K' : α → Prop} (hk : ∀ x, K x → K' x) : ∀ {t : T α}, t.sat env K → t.sat env K' := by
  intro t
  induction t with
  | leaf x => exact hk x
  | br c a b iha ihb => exact fun h => ⟨fun hc => iha (h.1 hc), fun hc => ihb (h.2 hc)⟩
  | both a b iha ihb => exact fun h => ⟨iha h.1, ihb h.2⟩
  | need c t ih => exact fun h => ⟨h.1, ih h.2⟩
  | fail n => exact fun h => h

theorem sat_bind {α β : Type} {f : α → T β} {K : β → Prop} : ∀ {t : T α}, (t.bind f).sat env K → t.sat env (fun x => (f x).sat env K) := by
  intro t
  induction t with
  | leaf x => exact fun h => h
  | br c a b iha ihb => exact fun h => ⟨fun hc => iha (h.1 hc), fun hc => ihb (h.2 hc)⟩
  | both a b iha ihb => exact fun h => ⟨iha h.1, ihb h.2⟩
  | need c t ih => exact fun h => ⟨h.1, ih h.2⟩
  | fail n => exact fun h => h

theorem impE_tt (c d : E) : (impE c d).tt env = (!c.tt env || d.tt env) := by
  unfold impE; rw [mkIteB_tt]; cases c.tt env <;> simp [tt_lit, intBeq_eq]

theorem needT_sat {α : Type} {n : E} {t : T α} {K : α → Prop} (h : (needT n t).sat env K) : n.tt env = true ∧ t.sat env K := by
  unfold needT at h
  split at h
  · rename_i x
    split at h
    · exact h
    · rename_i hx; exact ⟨by rw [tt_lit]; simpa using hx, h⟩
  · exact h

theorem X.beq_eq {x y : X} (h : x.beq y = true) : x = y := by
  cases x <;> cases y <;> simp [X.beq] at h
  · rfl
  · rw [h]
  · rfl

theorem beqL_eq : ∀ {a b : List C}, beqL a b = true → a = b := by
  intro a
  induction a with
  | nil => intro b h; cases b with
    | nil => rfl
    | cons => simp [beqL] at h
  | cons x xs ih => intro b h; cases b with
    | nil => simp [beqL] at h
    | cons y ys => simp only [beqL, Bool.and_eq_true] at h; rw [C.beq_eq h.1, ih h.2]

theorem esSame_eq : ∀ {a b : List (C × C × Nat)}, esSame a b = true → a = b := by
  intro a
  induction a with
  | nil => intro b h; cases b with
    | nil => rfl
    | cons => simp [esSame] at h
  | cons x xs ih => intro b h; cases b with
    | nil => simp [esSame] at h
    | cons y ys =>
      obtain ⟨k, v, n⟩ := x; obtain ⟨k', v', n'⟩ := y
      simp only [esSame, Bool.and_eq_true] at h
      obtain ⟨⟨⟨h1, h2⟩, h3⟩, h4⟩ := h
      rw [C.beq_eq h1, C.beq_eq h2, Nat.eq_of_beq_eq_true h3, ih h4]

theorem Blk.beq_eq {a b : Blk} (h : a.beq b = true) : a = b := by
  cases a <;> cases b <;> simp only [Blk.beq, Bool.and_eq_true, Bool.false_eq_true] at h
  · rw [Nat.eq_of_beq_eq_true h.1, beqL_eq h.2]
  · rw [Nat.eq_of_beq_eq_true h.1, esSame_eq h.2]

theorem beqH_eq : ∀ {a b : List Blk}, beqH a b = true → a = b := by
  intro a
  induction a with
  | nil => intro b h; cases b with
    | nil => rfl
    | cons => simp [beqH] at h
  | cons x xs ih => intro b h; cases b with
    | nil => simp [beqH] at h
    | cons y ys => simp only [beqH, Bool.and_eq_true] at h; rw [Blk.beq_eq h.1, ih h.2]

theorem preH_eq : ∀ {a b : List Blk}, preH a b = true → ∃ c, b = a ++ c := by
  intro a
  induction a with
  | nil => intro b _; exact ⟨b, rfl⟩
  | cons x xs ih => intro b h; cases b with
    | nil => simp [preH] at h
    | cons y ys =>
      simp only [preH, Bool.and_eq_true] at h
      obtain ⟨c, hc⟩ := ih h.2
      exact ⟨c, by rw [Blk.beq_eq h.1, hc]; rfl⟩

/-! ### The merge of trees -/

/-- 'K' may be shown of the merged state in the place of each. -/
def Good (env : Env) (mg : E → St → St → Option St) (K : X × St → Prop) : Prop :=
  (∀ c x s1 s2 u, mg c s1 s2 = some u → K (x, u) → (c.tt env = true → K (x, s1)) ∧ (c.tt env = false → K (x, s2))) ∧
  ∀ x s s', subT s.ts s'.ts = true → s.H = s'.H → K (x, s) → K (x, s')

variable {mg : E → St → St → Option St} {K : X × St → Prop}

/-- What a chain asks. -/
def ChS (env : Env) (K : X × St → Prop) : List (E × X × St) → Prop
  | [] => True
  | r :: l => (r.1.tt env = true → K (r.2.1, r.2.2)) ∧ (r.1.tt env = false → ChS env K l)

theorem chainL_sat : ∀ {t : T (X × St)} {l : List (E × X × St)}, chainL t = some l → ChS env K l → t.sat env K := by
  intro t
  induction t with
  | leaf r => intro l h hk; simp only [chainL, Option.some.injEq] at h; subst h; exact hk.1 rfl
  | br e a t _ iht =>
    intro l h hk
    cases a <;> simp only [chainL] at h <;> first | cases h | skip
    rename_i r
    split at h
    · rename_i l' hl
      simp only [Option.some.injEq] at h; subst h
      exact ⟨hk.1, fun he => iht hl (hk.2 he)⟩
    · cases h
  | _ => intro l h; cases h

theorem ofChain_sat : ∀ {l : List (E × X × St)}, (ofChain l).sat env K → ChS env K l := by
  intro l
  induction l with
  | nil => intro _; trivial
  | cons r l ih =>
    intro h
    cases l with
    | nil => exact ⟨fun _ => h, fun _ => trivial⟩
    | cons r' l' => exact ⟨h.1, fun he => ih (h.2 he)⟩

theorem mergeC_sat (hg : Good env mg K) (c : E) : ∀ {n : Nat} {la lb l : List (E × X × St)}, mergeC mg c n la lb = some l → ChS env K l → (c.tt env = true → ChS env K la) ∧ (c.tt env = false → ChS env K lb) := by
  intro n
  induction n with
  | zero => intro la lb l h; cases h
  | succ n ih =>
    intro la lb l h hk
    cases la with
    | nil => simp only [mergeC, Option.some.injEq] at h; subst h; exact ⟨fun _ => trivial, fun _ => hk⟩
    | cons p la' =>
      cases lb with
      | nil => simp only [mergeC, Option.some.injEq] at h; subst h; exact ⟨fun _ => hk, fun _ => trivial⟩
      | cons q lb' =>
        obtain ⟨ea, xa, sa⟩ := p
        obtain ⟨eb, xb, sb⟩ := q
        simp only [mergeC] at h
        split at h
        · rename_i hx
          have hx := X.beq_eq hx
          subst hx
          split at h
          · rename_i u hu
            split at h
            · rename_i l' hl
              simp only [Option.some.injEq] at h; subst h
              obtain ⟨h1, h2⟩ := hk
              refine ⟨fun hc => ⟨fun he => ?_, fun he => ?_⟩, fun hc => ⟨fun he => ?_, fun he => ?_⟩⟩
              · exact (hg.1 c xa sa sb u hu (h1 (by rw [mkIteB_tt, hc]; exact he))).1 hc
              · exact (ih hl (h2 (by rw [mkIteB_tt, hc]; exact he))).1 hc
              · exact (hg.1 c xa sa sb u hu (h1 (by rw [mkIteB_tt, hc]; exact he))).2 hc
              · exact (ih hl (h2 (by rw [mkIteB_tt, hc]; exact he))).2 hc
            · cases h
          · cases h
        · split at h
          · split at h
            · rename_i l' hl
              simp only [Option.some.injEq] at h; subst h
              obtain ⟨h1, h2⟩ := hk
              refine ⟨fun hc => ⟨fun he => h1 (by rw [mkIteB_tt, hc]; exact he), fun he => (ih hl (h2 (by rw [mkIteB_tt, hc]; exact he))).1 hc⟩, fun hc => ?_⟩
              exact (ih hl (h2 (by rw [mkIteB_tt, hc]; rfl))).2 hc
            · cases h
          · split at h
            · rename_i l' hl
              simp only [Option.some.injEq] at h; subst h
              obtain ⟨h1, h2⟩ := hk
              refine ⟨fun hc => ?_, fun hc => ⟨fun he => h1 (by rw [mkIteB_tt, hc]; exact he), fun he => (ih hl (h2 (by rw [mkIteB_tt, hc]; exact he))).2 hc⟩⟩
              exact (ih hl (h2 (by rw [mkIteB_tt, hc]; rfl))).1 hc
            · cases h

theorem brM_sat (hg : Good env mg K) (c : E) {ta tb : T (X × St)} (h : (brM mg c ta tb).sat env K) : (c.tt env = true → ta.sat env K) ∧ (c.tt env = false → tb.sat env K) := by
  unfold brM at h
  split at h
  · rename_i la hla
    split at h
    · rename_i lb hlb
      split at h
      · rename_i l hl
        obtain ⟨h1, h2⟩ := mergeC_sat hg c hl (ofChain_sat h)
        exact ⟨fun hc => chainL_sat hla (h1 hc), fun hc => chainL_sat hlb (h2 hc)⟩
      · exact h
    · exact h
  · exact h

theorem joinB_sat (hg : Good env mg K) (c : E) (x : X) (s : St) : ∀ {t : T (X × St)}, (joinB mg c x s t).sat env K → (c.tt env = true → K (x, s)) ∧ (c.tt env = false → t.sat env K) := by
  intro t
  induction t with
  | need d t ih =>
    intro h
    obtain ⟨h1, h2⟩ := h
    rw [impE_tt, notE_tt] at h1
    obtain ⟨k1, k2⟩ := ih h2
    exact ⟨k1, fun hc => ⟨by simpa [hc] using h1, k2 hc⟩⟩
  | _ => intro h; exact brM_sat hg c h

theorem joinR_sat (hg : Good env mg K) (c : E) (ta : T (X × St)) : ∀ {t : T (X × St)}, (joinA.joinR mg c ta t).sat env K → (c.tt env = true → ta.sat env K) ∧ (c.tt env = false → t.sat env K) := by
  intro t
  induction t with
  | need d t ih =>
    intro h
    obtain ⟨h1, h2⟩ := h
    rw [impE_tt, notE_tt] at h1
    obtain ⟨k1, k2⟩ := ih h2
    exact ⟨k1, fun hc => ⟨by simpa [hc] using h1, k2 hc⟩⟩
  | _ => intro h; exact brM_sat hg c h

theorem joinA_sat (hg : Good env mg K) (c : E) (tb : T (X × St)) : ∀ {t : T (X × St)}, (joinA mg c tb t).sat env K → (c.tt env = true → t.sat env K) ∧ (c.tt env = false → tb.sat env K) := by
  intro t
  induction t with
  | leaf r => obtain ⟨x, s⟩ := r; intro h; exact joinB_sat hg c x s h
  | need d t ih =>
    intro h
    obtain ⟨h1, h2⟩ := h
    rw [impE_tt] at h1
    obtain ⟨k1, k2⟩ := ih h2
    exact ⟨fun hc => ⟨by simpa [hc] using h1, k1 hc⟩, k2⟩
  | _ => intro h; exact joinR_sat hg c _ h

/-! ### Ways that cannot be taken -/

def KnownOk (env : Env) (as : List (E × Bool)) : Prop := ∀ p ∈ as, p.1.tt env = p.2

theorem lookT_ok {as : List (E × Bool)} (h : KnownOk env as) {e : E} {b : Bool} (hl : lookT as e = some b) : e.tt env = b := by
  induction as with
  | nil => cases hl
  | cons p as ih =>
    replace hl : (if p.1.beq e then some p.2 else lookT as e) = some b := hl
    split at hl
    · rename_i hb
      simp only [Option.some.injEq] at hl
      rw [← E.beq_eq hb, ← hl]; exact h p (by simp)
    · exact ih (fun q hq => h q (by simp [hq])) hl

theorem knownE_tt {as : List (E × Bool)} (h : KnownOk env as) (e : E) : (knownE as e).tt env = e.tt env := by
  unfold knownE
  split
  · rename_i b hb
    rw [lookT_ok h hb, tt_lit]; cases b <;> rfl
  · rfl

theorem unNot_arg {o : BinOp} {k : IntKind} {a b c : E} (h : unNot (.bin o k a b) = some c) : c = a := by
  cases b <;> first | cases h | skip
  rename_i n
  replace h : (if sameOp o .eql && (sameKind k .i64 && intBeq n 0) then some a else none) = some c := h
  split at h
  · simp only [Option.some.injEq] at h; exact h.symm
  · cases h

theorem KnownOk.cons {as : List (E × Bool)} (h : KnownOk env as) {e : E} {b : Bool} (he : e.tt env = b) : KnownOk env ((e, b) :: as) := by
  intro p hp
  rcases List.mem_cons.1 hp with rfl | hp
  · exact he
  · exact h p hp

theorem learn_ok : ∀ {c : E} {b : Bool} {as : List (E × Bool)}, KnownOk env as → c.tt env = b → KnownOk env (learn c b as) := by
  intro c
  induction c with
  | var i => intro b as h hc; exact h.cons hc
  | app f l _ => intro b as h hc; exact h.cons hc
  | bin o k a z iha _ =>
    intro b as h hc
    show KnownOk env (match unNot (.bin o k a z) with
      | some _ => learn a (!b) as
      | none => (.bin o k a z, b) :: as)
    split
    · rename_i c' hu
      have hc' : c' = a := unNot_arg hu
      subst hc'
      refine iha h ?_
      rw [unNot_tt hu] at hc
      rw [← hc]; simp
    · exact h.cons hc
  | ite c x y ihc ihx ihy =>
    intro b as h hc0
    have hc := hc0
    rw [tt_ite] at hc
    cases b with
    | true =>
      show KnownOk env (match (generalizing := false) x with
        | .lit n => if intBeq n 0 then learn c false (learn y true as) else match (generalizing := false) y with
          | .lit m => if intBeq m 0 then learn c true as else as
          | _ => as
        | _ => match (generalizing := false) y with
          | .lit m => if intBeq m 0 then learn c true (learn x true as) else as
          | _ => (.ite c x y, true) :: as)
      split
      · rename_i n
        split
        · rename_i hn
          rw [tt_lit, hn] at hc
          cases hct : c.tt env with
          | true => rw [hct] at hc; simp at hc
          | false => rw [hct] at hc; exact ihc (ihy h (by simpa using hc)) hct
        · split
          · rename_i m
            split
            · rename_i hm
              rw [tt_lit, tt_lit, hm] at hc
              cases hct : c.tt env with
              | true => exact ihc h hct
              | false => rw [hct] at hc; simp at hc
            · exact h
          · exact h
      · split
        · rename_i m
          split
          · rename_i hm
            rw [tt_lit, hm] at hc
            cases hct : c.tt env with
            | true => rw [hct] at hc; exact ihc (ihx h (by simpa using hc)) hct
            | false => rw [hct] at hc; simp at hc
          · exact h
        · exact h.cons hc0
    | false =>
      show KnownOk env (match (generalizing := false) x with
        | .lit n => if intBeq n 0 then as else learn c false (learn y false as)
        | _ => match (generalizing := false) y with
          | .lit m => if intBeq m 0 then as else learn c true (learn x false as)
          | _ => (.ite c x y, false) :: as)
      split
      · rename_i n
        split
        · exact h
        · rename_i hn
          rw [tt_lit] at hc
          cases hct : c.tt env with
          | true => rw [hct] at hc; simp at hc; exact absurd hc hn
          | false => rw [hct] at hc; exact ihc (ihy h (by simpa using hc)) hct
      · split
        · rename_i m
          split
          · exact h
          · rename_i hm
            rw [tt_lit] at hc
            cases hct : c.tt env with
            | true => rw [hct] at hc; exact ihc (ihx h (by simpa using hc)) hct
            | false => rw [hct] at hc; simp at hc; exact absurd hc hm
        · exact h.cons hc0
  | _ => intro b as h hc; exact h

theorem under_tt : ∀ (e : E) {as : List (E × Bool)}, KnownOk env as → (under as e).tt env = e.tt env := by
  intro e
  induction e with
  | var i => intro as h; exact knownE_tt h _
  | bin o k a b iha _ =>
    intro as h
    show E.tt env (match unNot (.bin o k a b) with
      | some _ => match under as a with
        | .lit n => if intBeq n 0 then .lit 1 else .lit 0
        | _ => knownE as (.bin o k a b)
      | none => knownE as (.bin o k a b)) = _
    split
    · rename_i c' hu
      have hc' : c' = a := unNot_arg hu
      subst hc'
      split
      · rename_i n hn
        rw [unNot_tt hu, ← iha h, hn, tt_lit]
        cases hz : intBeq n 0 <;> simp [tt_lit, intBeq_eq]
      · exact knownE_tt h _
    · exact knownE_tt h _
  | ite c a b ihc iha ihb =>
    intro as h
    show E.tt env (match lookT as (.ite c a b) with
      | some r => .lit (b2i r)
      | none => match under as c with
        | .lit n => if intBeq n 0 then under as b else under as a
        | c' => mkIteB c' (under (learn c' true as) a) (under (learn c' false as) b)) = _
    have hc := ihc h
    split
    · rename_i r hr
      rw [lookT_ok h hr, tt_lit]; cases r <;> rfl
    rw [tt_ite]
    split
    · rename_i n hn
      rw [← hc, hn, tt_lit]
      cases hz : intBeq n 0
      · simp [iha h]
      · simp [ihb h]
    · rw [mkIteB_tt, hc]
      cases hct : c.tt env with
      | true => rw [hct] at hc; simp only [if_true]; exact iha (learn_ok h hc)
      | false => rw [hct] at hc; simp only [Bool.false_eq_true, if_false]; exact ihb (learn_ok h hc)
  | app f l _ => intro as h; exact knownE_tt h _
  | _ => intro as _; rfl

theorem prune_sat {α : Type} {K : α → Prop} : ∀ {t : T α} {as : List (E × Bool)}, KnownOk env as → (prune as t).sat env K → t.sat env K := by
  intro t
  induction t with
  | leaf x => intro as _ h; exact h
  | br c a b iha ihb =>
    intro as hk h
    have hu := under_tt c hk
    simp only [prune] at h
    split at h
    · rename_i n hn
      rw [hn, tt_lit] at hu
      split at h
      · rename_i hz
        rw [hz] at hu
        exact ⟨fun hc => by rw [hc] at hu; simp at hu, fun _ => ihb hk h⟩
      · rename_i hz
        have hz : intBeq n 0 = false := by simpa using hz
        rw [hz] at hu
        exact ⟨fun _ => iha hk h, fun hc => by rw [hc] at hu; simp at hu⟩
    · refine ⟨fun hc => ?_, fun hc => ?_⟩
      · rw [hc] at hu; exact iha (learn_ok hk hu) (h.1 hu)
      · rw [hc] at hu; exact ihb (learn_ok hk hu) (h.2 hu)
  | both a b iha ihb => intro as hk h; exact ⟨iha hk h.1, ihb hk h.2⟩
  | need d t ih => intro as hk h; exact ⟨h.1, ih hk h.2⟩
  | fail n => intro as _ h; exact h

theorem joinO_sat (hg : Good env mg K) {a b : T (X × St)} (h : (joinO a b).sat env K) : a.sat env K ∧ b.sat env K := by
  unfold joinO at h
  split at h
  · split at h
    · rename_i x s y s' hc
      simp only [Bool.and_eq_true] at hc
      obtain ⟨⟨h1, h2⟩, h3⟩ := hc
      obtain rfl := X.beq_eq h1
      exact ⟨h, hg.2 x s s' h2 (beqH_eq h3) h⟩
    · exact h
  · exact h

theorem join_sat (hg : Good env mg K) : ∀ {t : T (X × St)}, (join mg t).sat env K → t.sat env K := by
  intro t
  induction t with
  | leaf r => exact fun h => h
  | br c a b iha ihb =>
    intro h
    obtain ⟨h1, h2⟩ := joinA_sat hg c _ h
    exact ⟨fun hc => iha (h1 hc), fun hc => ihb (h2 hc)⟩
  | both a b iha ihb => intro h; obtain ⟨h1, h2⟩ := joinO_sat hg h; exact ⟨iha h1, ihb h2⟩
  | need d t ih => exact fun h => ⟨h.1, ih h.2⟩
  | fail n => exact fun h => h

end

/-! ### The merge of states -/

section
variable {env : Env} {w0 : World} {B : Nat} {ρ : List Nat}

theorem mgList_length (c : E) (m : Nat) : ∀ (as bs : List C), as.length = bs.length → (mgList c m as bs).length = as.length := by
  intro as
  induction as with
  | nil => intro bs _; rfl
  | cons a as ih => intro bs h; cases bs with
    | nil => simp at h
    | cons b bs => simp only [mgList_cons, List.length_cons]; rw [ih bs (by simpa using h)]

theorem mgList_get (c : E) (m : Nat) : ∀ (as bs : List C) (i : Nat) (u : C), as.length = bs.length → (mgList c m as bs)[i]? = some u →
    ∃ a b, as[i]? = some a ∧ bs[i]? = some b ∧ u = (if a.beq b then a.cut m else (a.cut m).mg c false (b.cut m)) := by
  intro as
  induction as with
  | nil => intro bs i u _ h; simp [mgList] at h
  | cons a as ih => intro bs i u hl h; cases bs with
    | nil => simp at hl
    | cons b bs =>
      rw [mgList_cons] at h
      cases i with
      | zero => simp at h; exact ⟨a, b, rfl, rfl, h.symm⟩
      | succ i => exact ih bs i u (by simpa using hl) (by simpa using h)

theorem cut_such {m : Nat} {c : C} (h : c.cut m = .such 0) : c = .such 0 := by
  cases c with
  | ptr b o => rw [C.cut_ptr] at h; split at h <;> cases h
  | sl b o n k => rw [C.cut_sl] at h; split at h <;> cases h
  | map b => rw [C.cut_map] at h; split at h <;> cases h
  | such p => exact h
  | _ => cases h

theorem mg_such {c : E} {a b : C} (h : a.mg c false b = .such 0) : a = .such 0 ∧ b = .such 0 := by
  cases a with
  | int k e => cases b <;> simp only [C.mg, reduceCtorEq] at h; split at h <;> cases h
  | bool e => cases b <;> simp only [C.mg, reduceCtorEq] at h
  | agg l => cases b <;> simp only [C.mg, reduceCtorEq] at h; split at h <;> cases h
  | tup l => cases b <;> simp only [C.mg, reduceCtorEq] at h; split at h <;> cases h
  | iface t v => cases b <;> simp only [C.mg, reduceCtorEq] at h; split at h <;> cases h
  | cons x y => simp only [C.mg, reduceCtorEq] at h
  | nil => simp only [C.mg, reduceCtorEq] at h
  | _ =>
    simp only [C.mg] at h
    split at h
    · rename_i hb; have := C.beq_eq hb; subst this; exact ⟨h, h⟩
    · cases h

theorem mgList_such {c : E} (m : Nat) {as bs : List C} {i : Nat} (hl : as.length = bs.length) (h : (mgList c m as bs)[i]? = some (.such 0)) : as[i]? = some (.such 0) ∧ bs[i]? = some (.such 0) := by
  obtain ⟨a, b, ha, hb, hu⟩ := mgList_get c m as bs i _ hl h
  split at hu
  · rename_i he
    have he := C.beq_eq he
    have := cut_such hu.symm
    rw [ha, hb, ← he, this]; exact ⟨rfl, rfl⟩
  · obtain ⟨h1, h2⟩ := mg_such hu.symm
    rw [ha, hb, cut_such h1, cut_such h2]; exact ⟨rfl, rfl⟩

theorem QueOk.take {B : Nat} {ρ : List Nat} {w : World} {v : Value} (m : Nat) (h : QueOk env B ρ w v) : QueOk env B (ρ.take m) w v :=
  h.mono fun g _ _ hno => ⟨rfl, fun i hi => by
    rw [List.getElem?_take] at hi
    split at hi
    · exact hno i hi
    · cases hi⟩

theorem mgList_left {c : E} (hc : c.tt env = true) (m : Nat) {as bs : List C} {xs : List Value} (hl : as.length = bs.length) (h : Rels env ρ as xs) : Rels env (ρ.take m) (mgList c m as bs) xs := by
  refine ⟨by rw [mgList_length c m as bs hl]; exact h.1, fun i u x hu hx => ?_⟩
  obtain ⟨a, b, ha, hb, rfl⟩ := mgList_get c m as bs i u hl hu
  have hr := cut_r m (h.2 i a x ha hx)
  split
  · exact hr
  · exact mg_left hc hr (by simp)

theorem mgList_right {c : E} (hc : c.tt env = false) (m : Nat) {as bs : List C} {xs : List Value} (hl : as.length = bs.length) (h : Rels env ρ bs xs) : Rels env (ρ.take m) (mgList c m as bs) xs := by
  refine ⟨by rw [mgList_length c m as bs hl, hl]; exact h.1, fun i u x hu hx => ?_⟩
  obtain ⟨a, b, ha, hb, rfl⟩ := mgList_get c m as bs i u hl hu
  have hr := cut_r m (h.2 i b x hb hx)
  split
  · rename_i he; rw [C.beq_eq he]; exact hr
  · exact mg_right hc hr (by simp)

theorem getA_F {F : Nat → C → C} (l : List (Nat × C)) (t : Nat) : getA (l.map fun p => (p.1, F p.1 p.2)) t = F t (getA l t) ∨ getA (l.map fun p => (p.1, F p.1 p.2)) t = .bad := by
  induction l with
  | nil => exact .inr rfl
  | cons p l ih =>
    rw [List.map_cons, getA_cons, getA_cons]
    by_cases h : p.1 = t
    · rw [if_pos h, if_pos h, h]; exact .inl rfl
    · rw [if_neg h, if_neg h]; exact ih

theorem mgT_left {c : E} (hc : c.tt env = true) (m : Nat) {a b : Ts} {xs : Array Value} (h : TsOk env ρ a xs) : TsOk env (ρ.take m) (mgT c m a b) xs := by
  refine ⟨h.n, fun t => ?_⟩
  rcases getA_F (F := fun k v => if v.beq (getT b k) then v.cut m else (v.cut m).mg c false ((getT b k).cut m)) a.l t with e | e
  · show (getA (mgT c m a b).l t).r env _ _
    rw [show getA (mgT c m a b).l t = _ from e]
    have hr := cut_r m (h.r t)
    split
    · exact hr
    · exact mg_left hc hr (by simp)
  · show (getA (mgT c m a b).l t).r env _ _
    rw [show getA (mgT c m a b).l t = _ from e]; exact bad_r _

theorem mgT_right {c : E} (hc : c.tt env = false) (m : Nat) {a b : Ts} {xs : Array Value} (hn : a.n = b.n) (h : TsOk env ρ b xs) : TsOk env (ρ.take m) (mgT c m a b) xs := by
  refine ⟨hn.trans h.n, fun t => ?_⟩
  rcases getA_F (F := fun k v => if v.beq (getT b k) then v.cut m else (v.cut m).mg c false ((getT b k).cut m)) a.l t with e | e
  · show (getA (mgT c m a b).l t).r env _ _
    rw [show getA (mgT c m a b).l t = _ from e]
    have hr := cut_r m (h.r t)
    split
    · rename_i he
      have he := C.beq_eq he
      rw [show getA a.l t = getT b t from he]; exact hr
    · exact mg_right hc hr (by simp)
  · show (getA (mgT c m a b).l t).r env _ _
    rw [show getA (mgT c m a b).l t = _ from e]; exact bad_r _

theorem beqD_eq : ∀ {a b : List (Nat × List C)}, beqD a b = true → a = b := by
  intro a
  induction a with
  | nil => intro b h; cases b with
    | nil => rfl
    | cons => simp [beqD] at h
  | cons x xs ih => intro b h; cases b with
    | nil => simp [beqD] at h
    | cons y ys =>
      simp only [beqD, Bool.and_eq_true] at h
      rw [ih h.2, show x = y from Prod.ext (Nat.eq_of_beq_eq_true h.1.1) (beqL_eq h.1.2)]

/-- What knows less. -/
theorem subT_ok {a b : Ts} (h : subT a b = true) {xs : Array Value} (hb : TsOk env ρ b xs) : TsOk env ρ a xs := by
  unfold subT at h
  simp only [Bool.and_eq_true, List.all_eq_true] at h
  obtain ⟨⟨h1, _⟩, h2⟩ := h
  refine ⟨(Nat.eq_of_beq_eq_true h1).trans hb.n, fun t => ?_⟩
  have key : ∀ l : List (Nat × C), (∀ p ∈ l, (getT a p.1).beq (getT b p.1) = true) → getA l t = .bad ∨ getT a t = getT b t := by
    intro l
    induction l with
    | nil => intro _; exact .inl rfl
    | cons p l ih =>
      intro hl
      rw [getA_cons]
      by_cases hp : p.1 = t
      · right; rw [← hp]; exact C.beq_eq (hl p (by simp))
      · rw [if_neg hp]; exact ih fun q hq => hl q (by simp [hq])
  rcases key a.l h2 with e | e
  · rw [show getT a t = .bad from e]; exact bad_r _
  · rw [e]; exact hb.r t

theorem clean_cut {m : Nat} : ∀ {c : C}, c.clean m = true → c.cut m = c := by
  intro c
  induction c with
  | ptr b o => intro h; have h' : Nat.blt b m = true := h; rw [C.cut_ptr, if_pos h']
  | sl b o n c => intro h; have h' : Nat.blt b m = true := h; rw [C.cut_sl, if_pos h']
  | map b => intro h; have h' : Nat.blt b m = true := h; rw [C.cut_map, if_pos h']
  | fn f a b iha ihb => intro h; rw [C.clean_fn, Bool.and_eq_true] at h; rw [C.cut_fn, iha h.1, ihb h.2]
  | iface t v ih => intro h; rw [C.cut_iface, ih h]
  | agg l ih => intro h; rw [C.cut_agg, ih h]
  | tup l ih => intro h; rw [C.cut_tup, ih h]
  | cons a b iha ihb => intro h; rw [C.clean_cons, Bool.and_eq_true] at h; rw [C.cut_cons, iha h.1, ihb h.2]
  | _ => intro _; rfl

theorem subT_d {a b : Ts} (h : subT a b = true) : a.d = b.d := by
  unfold subT at h
  simp only [Bool.and_eq_true] at h
  exact beqD_eq h.1.2

theorem DfOk.take {m : Nat} : ∀ {d : List (Nat × List C)} {es : List Deferred}, cleanD m d = true → DfOk env ρ d es → DfOk env (ρ.take m) d es := by
  intro d
  induction d with
  | nil => intro es _ h; exact h
  | cons p d ih =>
    intro es hc h; obtain ⟨cap, args, es', h1, h2, h3⟩ := h
    simp only [cleanD, List.all_cons, Bool.and_eq_true] at hc
    refine ⟨cap, args, es', h1, ⟨h2.1, fun i c x hi hx => ?_⟩, ih hc.2 h3⟩
    have := cut_r m (h2.2 i c x hi hx)
    rwa [clean_cut (List.all_eq_true.1 hc.1 c (List.mem_of_getElem? hi))] at this

theorem mgBlk_ok {c : E} {m : Nat} {a b u : Blk} (h : mgBlk c m a b = some u) {w : World} {g : Nat} :
    (c.tt env = true → BlkOk env B ρ w g a → BlkOk env B (ρ.take m) w g u) ∧ (c.tt env = false → BlkOk env B ρ w g b → BlkOk env B (ρ.take m) w g u) := by
  unfold mgBlk at h
  split at h
  · rename_i x t
    split at h
    · rename_i y t'
      split at h
      · rename_i hc
        simp only [Bool.and_eq_true, Nat.beq_eq] at hc
        obtain ⟨rfl, hl⟩ := hc
        simp only [Option.some.injEq] at h; subst h
        split
        · rename_i hb
          simp only [Bool.and_eq_true, List.all_eq_true] at hb
          obtain rfl := beqL_eq hb.1
          have key : BlkOk env B ρ w g (.cells x t) → BlkOk env B (ρ.take m) w g (.cells x t) := fun ⟨xs, tl, hx, hr, hq⟩ => ⟨xs, tl, hx, ⟨hr.1, fun i c v hc hv => by
            have h1 := cut_r m (hr.2 i c v hc hv)
            rwa [clean_cut (hb.2 c (List.mem_of_getElem? hc))] at h1⟩, fun k v hk hv => (hq k v hk hv).take m⟩
          exact ⟨fun _ => key, fun _ => key⟩
        · exact ⟨fun hc ⟨xs, tl, hx, hr, hq⟩ => ⟨xs, tl, hx, mgList_left hc m hl hr, fun k v hk hv => (hq k v (mgList_such m hl hk).1 hv).take m⟩, fun hc ⟨xs, tl, hx, hr, hq⟩ => ⟨xs, tl, hx, mgList_right hc m hl hr, fun k v hk hv => (hq k v (mgList_such m hl hk).2 hv).take m⟩⟩
      · cases h
    · cases h
  · rename_i x n
    split at h
    · rename_i y n'
      split at h
      · rename_i hc
        simp only [Bool.and_eq_true, Nat.beq_eq] at hc
        obtain ⟨rfl, he⟩ := hc
        obtain rfl := esSame_eq he
        simp only [Option.some.injEq] at h; subst h
        have key : BlkOk env B ρ w g (.mp x n) → BlkOk env B (ρ.take m) w g (.mp (x.map fun e => (e.1.cut m, e.2.1.cut m, e.2.2)) n) := by
          rintro ⟨ms, c, h1, h2⟩
          exact ⟨ms, c, h1, h2.map (fun _ _ => rfl) (fun e _ _ => cut_r m) (fun e _ _ => cut_r m)⟩
        exact ⟨fun _ => key, fun _ => key⟩
      · cases h
    · cases h

theorem mgH_ok {c : E} {m : Nat} : ∀ {n : Nat} {as bs us : List Blk}, mgH c m n as bs = some us → us.length = n ∧ n ≤ as.length ∧ n ≤ bs.length ∧
    ∀ (i : Nat) (u : Blk), us[i]? = some u → ∃ a b, as[i]? = some a ∧ bs[i]? = some b ∧ mgBlk c m a b = some u := by
  intro n
  induction n with
  | zero => intro as bs us h; simp only [mgH, Option.some.injEq] at h; subst h; exact ⟨rfl, by omega, by omega, by simp⟩
  | succ n ih =>
    intro as bs us h
    simp only [mgH] at h
    split at h
    · rename_i a as b bs
      split at h
      · rename_i x hx
        split at h
        · rename_i xs hxs
          simp only [Option.some.injEq] at h; subst h
          obtain ⟨h1, h2, h3, h4⟩ := ih hxs
          refine ⟨by simp [h1], by simp; omega, by simp; omega, fun i u hu => ?_⟩
          cases i with
          | zero => simp at hu; subst hu; exact ⟨a, b, rfl, rfl, hx⟩
          | succ i => exact h4 i u (by simpa using hu)
        · cases h
      · cases h
    · cases h

theorem mgSt_ok {c : E} {m : Nat} {s1 s2 u : St} (h : mgSt c m s1 s2 = some u) {a : Act} {w : World} :
    (c.tt env = true → Sim env w0 B ρ s1 a w → Sim env w0 B (ρ.take m) u a w ∧ m ≤ ρ.length) ∧ (c.tt env = false → Sim env w0 B ρ s2 a w → Sim env w0 B (ρ.take m) u a w ∧ m ≤ ρ.length) := by
  unfold mgSt at h
  split at h
  · rename_i hl
    simp only [Bool.and_eq_true] at hl
    obtain ⟨hl, hd, hdc⟩ := hl
    have hd := beqD_eq hd
    have hl := Nat.eq_of_beq_eq_true hl
    split at h
    · rename_i H hH
      simp only [Option.some.injEq] at h; subst h
      obtain ⟨h1, h2, h3, h4⟩ := mgH_ok hH
      have tk : ∀ (i g : Nat), (ρ.take m)[i]? = some g → i < m ∧ ρ[i]? = some g := fun i g hi => by
        rw [List.getElem?_take] at hi
        split at hi
        · exact ⟨by assumption, hi⟩
        · cases hi
      constructor
      · intro hc hS
        have hlen := hS.heap.len
        refine ⟨⟨mgT_left hc m hS.ts, hS.defers.take hdc, ⟨?_, fun i g hi => hS.heap.lo i g (tk i g hi).2, fun i j g hi hj => hS.heap.inj i j g (tk i g hi).2 (tk j g hj).2, ?_, fun g o ho => ⟨(hS.heap.fz g o ho).1, fun i hi => (hS.heap.fz g o ho).2 i (tk i g hi).2⟩, hS.heap.fm⟩, hS.below, hS.size⟩, by omega⟩
        · simp only [List.length_take, h1]; omega
        · intro i g b hi hb
          obtain ⟨a', b', ha', _, hm⟩ := h4 i b hb
          exact (mgBlk_ok hm).1 hc (hS.heap.blk i g a' (tk i g hi).2 ha')
      · intro hc hS
        have hlen := hS.heap.len
        refine ⟨⟨mgT_right hc m hl hS.ts, DfOk.take (d := s1.ts.d) hdc (by rw [hd]; exact hS.defers), ⟨?_, fun i g hi => hS.heap.lo i g (tk i g hi).2, fun i j g hi hj => hS.heap.inj i j g (tk i g hi).2 (tk j g hj).2, ?_, fun g o ho => ⟨(hS.heap.fz g o ho).1, fun i hi => (hS.heap.fz g o ho).2 i (tk i g hi).2⟩, hS.heap.fm⟩, hS.below, hS.size⟩, by omega⟩
        · simp only [List.length_take, h1]; omega
        · intro i g b hi hb
          obtain ⟨a', b', _, hb', hm⟩ := h4 i b hb
          exact (mgBlk_ok hm).2 hc (hS.heap.blk i g b' (tk i g hi).2 hb')
    · cases h
  · cases h

/-- What is asked behind a piece of code, of every world that the state stands for. -/
def After (env : Env) (w0 : World) (B : Nat) (ρ : List Nat) (Q : X → Act → World → Prop) (r : X × St) : Prop :=
  ∀ ρ' a' w', Pre ρ ρ' → Sim env w0 B ρ' r.2 a' w' → Q r.1 a' w'

theorem after_weak {Q : X → Act → World → Prop} {x : X} {s s' : St} (h1 : subT s.ts s'.ts = true) (h2 : s.H = s'.H) (h : After env w0 B ρ Q (x, s)) : After env w0 B ρ Q (x, s') := fun ρ' a w hp hS =>
  h ρ' a w hp ⟨subT_ok h1 hS.ts, by rw [subT_d h1]; exact hS.defers, by rw [h2]; exact hS.heap, hS.below, hS.size⟩

theorem after_good {Q : X → Act → World → Prop} {m : Nat} (hm : ρ.length ≤ m) : Good env (fun c a b => mgSt c m a b) (After env w0 B ρ Q) := by
  refine ⟨?_, fun x s s' h1 h2 h => after_weak h1 h2 h⟩
  intro c x s1 s2 u hu hK
  have pre : ∀ ρ' : List Nat, Pre ρ ρ' → Pre ρ (ρ'.take m) := fun ρ' hp i g hi => by
    rw [List.getElem?_take_of_lt (Nat.lt_of_lt_of_le (List.getElem?_eq_some_iff.1 hi).1 hm)]; exact hp i g hi
  exact ⟨fun hc ρ' a' w' hp hS => hK _ _ _ (pre _ hp) ((mgSt_ok hu).1 hc hS).1, fun hc ρ' a' w' hp hS => hK _ _ _ (pre _ hp) ((mgSt_ok hu).2 hc hS).1⟩

theorem joinAt_sat {Q : X → Act → World → Prop} {sp : Bool} {m : Nat} (hm : ρ.length ≤ m) {t : T (X × St)} (h : (joinAt sp m t).sat env (After env w0 B ρ Q)) : t.sat env (After env w0 B ρ Q) := by
  unfold joinAt at h
  split at h
  · exact h
  · exact prune_sat (by intro p hp; cases hp) (join_sat (after_good hm) h)

/-! ### Ways whose memory is the same -/

/-- All leaves. -/
def allL {α : Type} (p : α → Prop) : T α → Prop
  | .leaf x => p x
  | .br _ a b => allL p a ∧ allL p b
  | .both a b => allL p a ∧ allL p b
  | .need _ t => allL p t
  | .fail _ => True

theorem allL_bind {α β : Type} {p : α → Prop} {q : β → Prop} {f : α → T β} (hf : ∀ x, p x → allL q (f x)) : ∀ {t : T α}, allL p t → allL q (t.bind f) := by
  intro t
  induction t with
  | leaf x => exact hf x
  | br c a b iha ihb => exact fun h => ⟨iha h.1, ihb h.2⟩
  | both a b iha ihb => exact fun h => ⟨iha h.1, ihb h.2⟩
  | need c t ih => exact fun h => ih h
  | fail k => exact fun _ => trivial

theorem allL_sat {α : Type} {p K : α → Prop} : ∀ {t : T α}, allL p t → t.sat env K → t.sat env (fun x => p x ∧ K x) := by
  intro t
  induction t with
  | leaf x => exact fun h k => ⟨h, k⟩
  | br c a b iha ihb => exact fun h k => ⟨fun hc => iha h.1 (k.1 hc), fun hc => ihb h.2 (k.2 hc)⟩
  | both a b iha ihb => exact fun h k => ⟨iha h.1 k.1, ihb h.2 k.2⟩
  | need c t ih => exact fun h k => ⟨k.1, ih h k.2⟩
  | fail k => exact fun _ k => k

theorem calm_good {Q : X → Act → World → Prop} {H : List Blk} : Good env (fun c a b => mgTs H c a b) (fun r => After env w0 B ρ Q (r.1, ⟨r.2.ts, H⟩)) := by
  refine ⟨?_, fun x s s' h1 _ h => after_weak (s := ⟨s.ts, H⟩) (s' := ⟨s'.ts, H⟩) h1 rfl h⟩
  intro c x s1 s2 u hu hK
  have hu : (if Nat.beq s1.ts.n s2.ts.n && (beqD s1.ts.d s2.ts.d && cleanD H.length s1.ts.d) then some (⟨mgT c H.length s1.ts s2.ts, H⟩ : St) else none) = some u := hu
  split at hu
  · rename_i hl
    simp only [Bool.and_eq_true] at hl
    obtain ⟨hl, hd, _⟩ := hl
    have hd := beqD_eq hd
    have hl := Nat.eq_of_beq_eq_true hl
    simp only [Option.some.injEq] at hu; subst hu
    have tk : ∀ {ρ' : List Nat} {ts : Ts} {a : Act} {w : World}, Sim env w0 B ρ' ⟨ts, H⟩ a w → ρ'.take H.length = ρ' := fun hS => by
      rw [← hS.heap.len]; exact List.take_length
    exact ⟨fun hc ρ' a' w' hp hS => hK ρ' a' w' hp ⟨by have := mgT_left (b := s2.ts) hc H.length hS.ts; rwa [tk hS] at this, hS.defers, hS.heap, hS.below, hS.size⟩,
      fun hc ρ' a' w' hp hS => hK ρ' a' w' hp ⟨by have := mgT_right (a := s1.ts) hc H.length hl hS.ts; rwa [tk hS] at this, (show DfOk env ρ' s1.ts.d a'.defers by rw [hd]; exact hS.defers), hS.heap, hS.below, hS.size⟩⟩
  · cases hu

theorem pruneX_sat {K : X × St → Prop} {t : T (X × St)} (h : (pruneX t).sat env K) : t.sat env K := by
  unfold pruneX at h
  split at h
  · split at h
    · split at h
      · exact h
      · exact prune_sat (by intro p hp; cases hp) h
    · exact prune_sat (by intro p hp; cases hp) h
  · exact prune_sat (by intro p hp; cases hp) h

theorem joinTs_sat {Q : X → Act → World → Prop} {sp : Bool} {H : List Blk} {t : T (X × St)} (hall : allL (fun r => r.2.H = H) t) (h : (joinTs sp H t).sat env (After env w0 B ρ Q)) : t.sat env (After env w0 B ρ Q) := by
  unfold joinTs at h
  split at h
  · exact h
  · split at h
    · exact h
    · have h2 : t.sat env (fun r => After env w0 B ρ Q (r.1, ⟨r.2.ts, H⟩)) := pruneX_sat (join_sat calm_good (sat_bind h))
      refine sat_mono (fun r hr => ?_) (allL_sat hall h2)
      obtain ⟨x, ts, H'⟩ := r
      obtain ⟨h3, h4⟩ := hr
      have h3 : H' = H := h3
      subst h3
      exact h4

end
end Go.Sx
