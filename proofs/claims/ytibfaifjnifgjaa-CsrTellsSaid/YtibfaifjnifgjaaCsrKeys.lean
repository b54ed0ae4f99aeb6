/-
  The numbers of CSRs: runs that ask a map by an unknown number; Exists of the program and of the reference. No condition.
-/
import Derived.Test.YtibfaifjnifgjaaPmpCfg
namespace Go.Proofs.Ytibfaifjnifgjaa
open Go.Sx Go.RowKit

/-- A tree that asks whether p is this or that number: 'f' of what is there if it is, 'g' of what is left. -/
noncomputable def keyT (p : E) (f : Int → T (C × List Blk) → Bool) (g : List Int → C → Bool) : T (C × List Blk) → List Int → Bool
  | .br c a b, ex => match c with
    | .bin o _ q z => match z with
      | .lit j => sameOp o .eql && (q.beq p && (f j a && keyT p f g b (j :: ex)))
      | _ => false
    | _ => false
  | .leaf r, ex => g ex r.1
  | _, _ => false

theorem keyT_sat {env : Env} {p : E} {f : Int → T (C × List Blk) → Bool} {g : List Int → C → Bool} {G : C × List Blk → Prop} (hf : ∀ j t, f j t = true → p.den env = j → t.sat env G) (hg : ∀ ex r, g ex r.1 = true → (∀ j ∈ ex, p.den env ≠ j) → G r) :
    ∀ {t : T (C × List Blk)} {ex : List Int}, keyT p f g t ex = true → (∀ j ∈ ex, p.den env ≠ j) → t.sat env G := by
  intro t
  induction t with
  | leaf r => intro ex h hex; exact hg ex r h hex
  | br c a b iha ihb =>
    intro ex h hex
    cases c <;> simp only [keyT, Bool.false_eq_true] at h
    rename_i o k q z
    cases z <;> simp only [Bool.false_eq_true] at h
    rename_i j
    simp only [Bool.and_eq_true, sameOp_iff] at h
    obtain ⟨rfl, hq, ha, hb⟩ := h
    have := E.beq_eq hq; subst this
    have ht : (E.bin .eql k q (.lit j)).tt env = decide (q.den env = j) := by
      show decide (b2i (q.den env == j) ≠ 0) = _
      by_cases he : q.den env = j
      · simp [he, b2i]
      · have : (q.den env == j) = false := by simpa using he
        rw [this]; simp [he, b2i]
    refine ⟨fun hc => ?_, fun hc => ?_⟩
    · rw [ht] at hc
      exact hf j a ha (by simpa using hc)
    · rw [ht] at hc
      have hc : q.den env ≠ j := by simpa using hc
      exact ihb hb (fun x hx => by
        rcases List.mem_cons.1 hx with rfl | hx
        · exact hc
        · exact hex x hx)
  | _ => intro ex h; simp [keyT] at h

/-- All numbers that there are. -/
def allKeys : List Int := [0x300, 0x301, 0x304, 0x305, 0x306, 0x30a, 0x320, 0x3a0, 0x3a2] ++ (span 0xf11 5 ++ (span 0x323 29 ++ (span 0x340 5 ++ (span 0x3b0 16 ++ (0xb00 :: (span 0xb02 30 ++ span 0xc00 32))))))

theorem span_mem {x : Int} : ∀ {n : Nat} {a : Int}, x ∈ span a n ↔ a ≤ x ∧ x < a + n := by
  intro n
  induction n with
  | zero => intro a; simp only [span, List.not_mem_nil, false_iff]; omega
  | succ n ih => intro a; simp only [span, List.mem_cons, ih]; omega

theorem exists_iff (n : Int) : existsF n = true ↔ n ∈ allKeys := by
  simp only [existsF, allKeys, inF, Bool.or_eq_true, Bool.and_eq_true, decide_eq_true_eq, List.contains_iff_mem, List.mem_append, List.mem_cons, List.not_mem_nil, or_false, span_mem]
  omega

noncomputable def hasAll (ex : List Int) : Bool := allKeys.all fun k => ex.any (intBeq k)

theorem hasAll_no {ex : List Int} {n : Int} (h : hasAll ex = true) (hn : ∀ j ∈ ex, n ≠ j) : existsF n = false := by
  cases he : existsF n with
  | false => rfl
  | true =>
    unfold hasAll at h
    rw [List.all_eq_true] at h
    have := h n ((exists_iff n).1 he)
    rw [List.any_eq_true] at this
    obtain ⟨x, hx, hxe⟩ := this
    exact absurd (intBeq_iff.1 hxe) (hn x hx)

/-! ### The rules of these runs -/

/-- What Proper makes of mstatus, once. -/
def nrmSt (e : E) : E :=
  match e with
  | .app f l => match l with
    | .cons a r => match r with
      | .nil => match a with
        | .app g l' => match l' with
          | .cons b r' => match r' with
            | .nil => if Nat.beq f 20 && Nat.beq g 20 then .app 20 (.cons b .nil) else e
            | _ => e
          | _ => e
        | _ => e
      | _ => e
    | _ => e
  | _ => e

theorem stat_fix : statVals.all (fun n => decide (stat n = n)) = true := by decide +kernel
theorem stat_twice (x : Int) : stat (stat x) = stat x := by
  have := List.all_eq_true.1 stat_fix _ (stat_vals x)
  simpa using this

theorem nrmSt_den {env : Env} (hF : EnvF Phi env) (e : E) : (nrmSt e).den env = e.den env := by
  unfold nrmSt
  repeat' split
  all_goals first
    | rfl
    | skip
  rename_i hc
  simp only [Bool.and_eq_true] at hc
  obtain ⟨h1, h2⟩ := hc
  have h1 := Nat.eq_of_beq_eq_true h1
  have h2 := Nat.eq_of_beq_eq_true h2
  subst h1 h2
  rw [app1_den, app1_den, app1_den, f20 hF, f20 hF]
  exact (stat_twice _).symm

noncomputable def nrmC (eqs : List (E × E)) (e : E) : E := rw1 eqs (nrmSt (nrmP (nrmG e)))

theorem nrmC_den {env : Env} (hF : EnvF Phi env) {eqs : List (E × E)} (h : ∀ p ∈ eqs, p.1.den env = p.2.den env) (e : E) : (nrmC eqs e).den env = e.den env := by
  unfold nrmC
  rw [rw1_den h, nrmSt_den hF, nrmP_den hF, nrmG_den]

/-- How these runs go. -/
noncomputable def keyK (eqs : List (E × E)) (sp : FuncId → Bool) (nf : FuncId → Bool) : Ctx :=
  { P := Try.prog, sg := sgAll (nrmC eqs), sp := sp, osz := fun _ => none, nrm := nrmC eqs, nf := nf, fr := fun _ => true }

/-! ### Exists -/

noncomputable def litIs (b : Bool) (c : C) : Bool :=
  match c with
  | .bool e => match e with
    | .lit n => b.xor (intBeq n 0)
    | _ => false
  | _ => false

noncomputable def leafB (b : Bool) (t : T (C × List Blk)) : Bool :=
  match t with
  | .leaf r => litIs b r.1
  | _ => false

theorem run72 : keyT (.var 0) (fun j t => leafB (existsF j) t) (fun ex c => hasAll ex && litIs false c) (evFn (keyK [] (fun f => Nat.beq f 72) (fun _ => false)) 1000 72 (varsA [.one (some .i64)] 0) []) [] = true := by kernel_rfl

def nE (k : Int) : E := .bin .eql .i64 (.var 0) (.lit k)
def inE (a b : Int) : E := .ite (.bin .lss .i64 (.var 0) (.lit a)) (.lit 0) (.bin .eql .i64 (.bin .lss .i64 (.lit b) (.var 0)) (.lit 0))
def anyE : List Int → E
  | [] => .lit 0
  | k :: ks => match ks with
    | [] => nE k
    | _ => .ite (nE k) (.lit 1) (anyE ks)
def existsE : E := .ite (anyE [0x300, 0x301, 0x304, 0x305, 0x306, 0x30a, 0x320, 0x3a0, 0x3a2]) (.lit 1) (.ite (.ite (inE 0xf11 0xf15) (.lit 1) (.ite (inE 0x323 0x33f) (.lit 1) (.ite (inE 0x340 0x344) (.lit 1) (inE 0x3b0 0x3bf)))) (.lit 1)
  (.ite (inE 0xb00 0xb1f) (.ite (nE 0xb01) (inE 0xc00 0xc1f) (.lit 1)) (inE 0xc00 0xc1f)))

theorem run73 : leafIs (.bool existsE) (evFn (keyK [] (fun _ => false) (fun _ => false)) 1000 73 (varsA [.one (some .i64)] 0) []) = true := by kernel_rfl

theorem nE_tt (env : Env) (k : Int) : (nE k).tt env = decide (env.v 0 = k) := by
  show decide (b2i (env.v 0 == k) ≠ 0) = _
  by_cases he : env.v 0 = k
  · simp [he, b2i]
  · have : (env.v 0 == k) = false := by simpa using he
    rw [this]; simp [he, b2i]

theorem inE_tt (env : Env) (a b : Int) : (inE a b).tt env = inF (env.v 0) a b := by
  unfold inE inF
  rw [tt_ite, tt_lit]
  have e1 : (E.bin .lss .i64 (.var 0) (.lit a)).tt env = decide (env.v 0 < a) := b2i_dec _
  have e2 : (E.bin .eql .i64 (.bin .lss .i64 (.lit b) (.var 0)) (.lit 0)).tt env = !(E.bin .lss .i64 (.lit b) (.var 0)).tt env := unNot_tt rfl
  have e3 : (E.bin .lss .i64 (.lit b) (.var 0)).tt env = decide (b < env.v 0) := b2i_dec _
  rw [e1, e2, e3]
  by_cases h1 : env.v 0 < a
  · rw [if_pos (by simpa using h1), decide_eq_false (by omega : ¬ a ≤ env.v 0)]; rfl
  · rw [if_neg (by simpa using h1), decide_eq_true (by omega : a ≤ env.v 0), Bool.true_and]
    by_cases h2 : b < env.v 0
    · rw [decide_eq_true h2, decide_eq_false (by omega)]; rfl
    · rw [decide_eq_false h2, decide_eq_true (by omega)]; rfl

theorem anyE_tt (env : Env) : ∀ l : List Int, (anyE l).tt env = l.contains (env.v 0) := by
  intro l
  induction l with
  | nil => rfl
  | cons k l ih =>
    have hk : (env.v 0 == k) = decide (env.v 0 = k) := by rw [Bool.eq_iff_iff]; simp
    cases l with
    | nil => show (nE k).tt env = _; rw [nE_tt, List.contains_cons, hk]; simp
    | cons k' l =>
      show (E.ite (nE k) (.lit 1) (anyE (k' :: l))).tt env = _
      rw [tt_ite, nE_tt, tt_lit, ih, List.contains_cons (a := k), hk]
      by_cases h : env.v 0 = k <;> simp [h, intBeq_eq]

theorem existsE_tt (env : Env) : existsE.tt env = existsF (env.v 0) := by
  unfold existsE existsF
  simp only [tt_ite, anyE_tt, inE_tt, nE_tt, tt_lit]
  cases ([0x300, 0x301, 0x304, 0x305, 0x306, 0x30a, 0x320, 0x3a0, 0x3a2] : List Int).contains (env.v 0) <;> cases inF (env.v 0) 0xf11 0xf15 <;> cases inF (env.v 0) 0x323 0x33f <;> cases inF (env.v 0) 0x340 0x344 <;>
    cases inF (env.v 0) 0x3b0 0x3bf <;> cases inF (env.v 0) 0xb00 0xb1f <;> cases inF (env.v 0) 0xc00 0xc1f <;> by_cases h : env.v 0 = 0xb01 <;> simp [intBeq_eq, h]

theorem f203 {env : Env} (hF : EnvF Phi env) (l : List Int) : env.f 203 l = b2i (existsF (cAt l 0)) := hF.1 203 l (by decide)

noncomputable def sgE (nrm : E → E) (f : FuncId) (vs : List C) : Option C :=
  if Nat.beq f 72 || Nat.beq f 73 then match parseA [.one (some .i64)] vs with
    | some [e] => some (.bool (nrm (.app 203 (.cons e .nil))))
    | _ => none
  else none

theorem keyE_ok {env : Env} {eqs : List (E × E)} {sp nf : FuncId → Bool} (hF : EnvF Phi env) (h : ∀ p ∈ eqs, p.1.den env = p.2.den env) (w : World) : EnvOk env (keyK eqs sp nf) w w.heap.size :=
  ⟨hF.2.1, hF.2.2, (by intro j kinds a i n k h; cases h), nrmC_den hF h⟩

theorem keyS_ok {env : Env} {eqs : List (E × E)} {sp nf : FuncId → Bool} (hF : EnvF Phi env) (h : ∀ p ∈ eqs, p.1.den env = p.2.den env) : SgOk env (keyK eqs sp nf) := sgAll_ok hF (nrmC_den hF h)

set_option maxRecDepth 100000 in
theorem sgE_ok {env : Env} (hF : EnvF Phi env) {nrm : E → E} (hn : ∀ e, (nrm e).den env = e.den env) : SgF env Try.prog (sgE nrm) := by
  intro f vs v hv ρ xs w hr
  unfold sgE at hv
  split at hv
  · rename_i hf
    simp only [Bool.or_eq_true] at hf
    split at hv
    · rename_i e he
      simp only [Option.some.injEq] at hv; subst hv
      have hF' := hF.withV ([e].map (E.den env))
      have hr' := parseA_r (all := [e].map (E.den env)) _ vs [e] xs 0 he hr (fun i e hi => by rw [Nat.zero_add, List.getElem?_map, hi]; rfl)
      have hv0 : (withV env ([e].map (E.den env))).v 0 = e.den env := rfl
      have hdst : ∀ r : C × List Blk, (∃ x : E, r.1 = .bool x ∧ x.tt (withV env ([e].map (E.den env))) = existsF (e.den env)) → ∀ {ρ' : List Nat} {z : Value}, r.1.r (withV env ([e].map (E.den env))) ρ' [z] → (C.bool (nrm (.app 203 (.cons e .nil)))).r env ρ [z] := by
        rintro r ⟨x, hx, ht⟩ ρ' z hz
        rw [hx] at hz
        refine same_r (c := .bool x) ?_ hz
        show x.tt _ = (nrm (E.app 203 (.cons e .nil))).tt env
        rw [ht, E.tt, hn]
        show _ = decide (env.f 203 [e.den env] ≠ 0)
        rw [f203 hF]
        show _ = decide (b2i (existsF (e.den env)) ≠ 0)
        cases existsF (e.den env) <;> rfl
      have hlit : ∀ (b : Bool) (c : C), litIs b c = true → existsF (e.den env) = b → ∃ x : E, c = .bool x ∧ x.tt (withV env ([e].map (E.den env))) = existsF (e.den env) := by
        intro b c hc hb
        unfold litIs at hc
        split at hc
        · split at hc
          · rename_i n
            refine ⟨_, rfl, ?_⟩
            rw [tt_lit, hb]
            cases b <;> cases hn : intBeq n 0 <;> simp_all
          · cases hc
        · cases hc
      have hsat : ∃ (K : Ctx) (n : Nat), K.P = Try.prog ∧ EnvOk (withV env ([e].map (E.den env))) K w w.heap.size ∧ SgOk (withV env ([e].map (E.den env))) K ∧
          (evFn K n f (varsA [.one (some .i64)] 0) []).sat (withV env ([e].map (E.den env))) fun r => ∃ x : E, r.1 = .bool x ∧ x.tt (withV env ([e].map (E.den env))) = existsF (e.den env) := by
        rcases hf with hf | hf
        · rw [Nat.eq_of_beq_eq_true hf]
          refine ⟨keyK [] (fun f => Nat.beq f 72) (fun _ => false), 1000, rfl, keyE_ok hF' (by simp) w, keyS_ok hF' (by simp), keyT_sat (fun j t hj hp => ?_) (fun ex r hg hne => ?_) run72 (by simp)⟩
          · unfold leafB at hj
            split at hj
            · exact hlit _ _ hj (by rw [← hp]; rfl)
            · cases hj
          · simp only [Bool.and_eq_true] at hg
            exact hlit _ _ hg.2 (hasAll_no hg.1 hne)
        · rw [Nat.eq_of_beq_eq_true hf]
          refine ⟨keyK [] (fun _ => false) (fun _ => false), 1000, rfl, keyE_ok hF' (by simp) w, keyS_ok hF' (by simp), sat_mono (fun r hr => ?_) (leafIs_sat run73)⟩
          exact ⟨existsE, hr, existsE_tt _⟩
      obtain ⟨K, n, hP, hE, hS, hs⟩ := hsat
      obtain ⟨h1, h2⟩ := evFn_calls hE hS hr' hs
      rw [hP] at h1 h2
      refine ⟨h1, h2.mono ?_⟩
      rintro e' w' ⟨r, z, ρ', hG, rfl, hz, hb⟩
      exact ⟨z, rfl, hdst r hG hz, hb⟩
    · cases hv
  · cases hv

end Go.Proofs.Ytibfaifjnifgjaa
