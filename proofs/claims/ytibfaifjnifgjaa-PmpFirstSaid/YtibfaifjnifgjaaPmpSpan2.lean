/-
  What Span answers, in the program and in the reference. No condition.
-/
import Derived.Test.YtibfaifjnifgjaaPmpSpan
namespace Go.Proofs.Ytibfaifjnifgjaa
open Go.Sx Go.RowKit

/-! ### The reference's sizes -/

def aN (env : Env) (x : E) : Nat := (BitVec.ofInt 64 (x.den env) &&& BitVec.ofInt 64 m54).toNat

theorem a54_den (env : Env) (x : E) : (a54 x).den env = (aN env x : Int) := by
  show binDen .and .u64 (x.den env) m54 = _
  rw [and_u64]; rfl

theorem aN_lt (env : Env) (x : E) : aN env x < 2 ^ 54 := by
  unfold aN
  rw [BitVec.toNat_and, show (BitVec.ofInt 64 m54).toNat = 2 ^ 54 - 1 from rfl, Nat.and_two_pow_sub_one_eq_mod]
  exact Nat.mod_lt _ (by decide)

section
variable {env : Env} {x : E} {t q : Nat}

theorem emod_ones (A n : Nat) : ((A : Int) % 2 ^ n = 2 ^ n - 1) ↔ A % 2 ^ n = 2 ^ n - 1 := by
  have hp := Nat.two_pow_pos n
  have e : (2 : Int) ^ n = ((2 ^ n : Nat) : Int) := by rw [Int.natCast_pow]; rfl
  rw [e, ← Int.natCast_emod]
  omega

theorem sizeC_den (h : aN env x + 1 = 2 ^ t * (2 * q + 1)) (d : Int) : ∀ (n k : Nat), n + k = 54 → k ≤ t → (sizeC x d n k).den env = ((2 ^ (t + 3) : Nat) : Int) - d := by
  have ht := (tail_bits h (aN_lt env x)).1
  intro n
  induction n with
  | zero => intro k hk hkt; rw [show t = k by omega]; rfl
  | succ n ih =>
    intro k hk hkt
    have hc : ((if Nat.beq k 0 then E.bin .eql .u64 (.bin .and .u64 (.bin .shr .u64 (a54 x) (.lit 0)) (.lit 1)) (.lit 1) else maskT (a54 x) (k + 1)).den env ≠ 0) ↔ k + 1 ≤ t := by
      rw [← ones_iff h]
      split
      · rename_i h0
        have h0 := Nat.eq_of_beq_eq_true h0
        subst h0
        obtain ⟨_, h2, h3⟩ := bitOf_den (env := env) (e := .bin .eql .u64 (.bin .and .u64 (.bin .shr .u64 (a54 x) (.lit 0)) (.lit 1)) (.lit 1)) (x := a54 x) (s := 0) rfl
        have h4 : bitZ ((a54 x).den env) 0 ↔ aN env x % 2 ^ (0 + 1) = 2 ^ (0 + 1) - 1 := by
          unfold bitZ
          rw [a54_den]
          simp only [Int.pow_zero, Int.ediv_one]
          omega
        rw [← h4, ← h3]
        omega
      · rw [maskT_den env _ (by omega), a54_den]
        have := emod_ones (aN env x) (k + 1)
        by_cases hm : (aN env x : Int) % 2 ^ (k + 1) = 2 ^ (k + 1) - 1
        · rw [decide_eq_true hm]; simp [b2i, this.1 hm]
        · rw [decide_eq_false hm]
          have : ¬ aN env x % 2 ^ (k + 1) = 2 ^ (k + 1) - 1 := fun h => hm (this.2 h)
          simp [b2i, this]
    show (E.ite _ _ _).den env = _
    rw [den_ite2]
    by_cases hk2 : k + 1 ≤ t
    · rw [if_pos (hc.2 hk2)]; exact ih (k + 1) (by omega) hk2
    · rw [if_neg (fun hne => hk2 (hc.1 hne))]
      rw [show t = k by omega]; rfl

theorem nap_from (h : aN env x + 1 = 2 ^ t * (2 * q + 1)) : (napFrom (a54 x)).den env = ((2 ^ (t + 1) * q * 4 : Nat) : Int) ∧ (lowE (a54 x)).den env = ((2 ^ (t + 1) - 1 : Nat) : Int) := by
  have hA := aN_lt env x
  obtain ⟨ht, hb⟩ := tail_bits h hA
  have hl : (lowE (a54 x)).den env = ((2 ^ (t + 1) - 1 : Nat) : Int) := by
    show binDen .or .u64 (binDen .shl .u64 (binDen .andNot .u64 ((a54 x).den env) (binDen .add .u64 ((a54 x).den env) 1)) 1) 1 = _
    rw [a54_den, ones_of h hA, low_of ht]
  refine ⟨?_, hl⟩
  show binDen .shl .u64 (binDen .andNot .u64 ((a54 x).den env) ((lowE (a54 x)).den env)) 2 = _
  have hp0 := Nat.two_pow_pos t
  rw [hl, a54_den, base_of h hA, shl2_nat (by omega)]

theorem nap_to (h : aN env x + 1 = 2 ^ t * (2 * q + 1)) : (napTo (a54 x)).den env = ((2 ^ (t + 1) * q * 4 + (2 ^ (t + 3) - 1) : Nat) : Int) := by
  have hA := aN_lt env x
  obtain ⟨ht, hb⟩ := tail_bits h hA
  obtain ⟨hf, hl⟩ := nap_from h
  have hp := pow_le ht
  have hp0 := Nat.two_pow_pos t
  have e3 : 2 ^ (t + 3) = 2 ^ (t + 1) * 4 := by rw [Nat.pow_succ, Nat.pow_succ]; omega
  have e1 : 2 ^ (t + 1) = 2 ^ t * 2 := Nat.pow_succ ..
  show binDen .add .u64 ((napFrom (a54 x)).den env) (binDen .or .u64 (binDen .shl .u64 ((lowE (a54 x)).den env) 2) 3) = _
  rw [hf, hl, shl2_nat (by omega)]
  have e : binDen .or .u64 (((2 ^ (t + 1) - 1) * 4 : Nat) : Int) 3 = ((2 ^ (t + 3) - 1 : Nat) : Int) := by
    rw [show (3 : Int) = ((3 : Nat) : Int) from rfl, or_nat (by omega) (by decide)]
    have : (2 ^ (t + 1) - 1) * 4 = (2 ^ (t + 1) - 1) <<< 2 := by rw [Nat.shiftLeft_eq]
    rw [this, ← Nat.shiftLeft_add_eq_or_of_lt (show 3 < 2 ^ 2 by decide), Nat.shiftLeft_eq]
    congr 1; omega
  rw [e, add_nat (by omega)]

theorem spanEqs_ok (env : Env) (x : E) : ∀ p ∈ spanEqs x, p.1.den env = p.2.den env := by
  have hA := aN_lt env x
  obtain ⟨t, q, _, h⟩ := trail_form 54 (aN env x) hA
  obtain ⟨ht, hb⟩ := tail_bits h hA
  obtain ⟨hs, _⟩ := form_sum h
  have hp := pow_le ht
  have hp0 := Nat.two_pow_pos t
  have e3 : 2 ^ (t + 3) = 2 ^ (t + 1) * 4 := by rw [Nat.pow_succ, Nat.pow_succ]; omega
  have e1 : 2 ^ (t + 1) = 2 ^ t * 2 := Nat.pow_succ ..
  intro p hpm
  simp only [spanEqs, List.mem_cons, List.not_mem_nil, or_false] at hpm
  rcases hpm with rfl | rfl
  · rw [(nap_from h).1]
    show binDen .mul .u64 (binDen .quo .u64 (binDen .shl .u64 ((a54 x).den env) 2) ((sizeC x 0 54 0).den env)) ((sizeC x 0 54 0).den env) = _
    rw [sizeC_den h 0 54 0 rfl (Nat.zero_le _), Int.sub_zero, a54_den, shl2_nat (by omega), quo_nat (by omega)]
    have hq : aN env x * 4 / 2 ^ (t + 3) = q := by
      rw [e3]
      have : aN env x * 4 = (2 ^ t - 1) * 4 + 2 ^ (t + 1) * 4 * q := by
        rw [Nat.mul_right_comm]; omega
      rw [this, Nat.add_mul_div_left _ _ (by omega), Nat.div_eq_of_lt (by omega), Nat.zero_add]
    rw [hq]
    have e4 : q * 2 ^ (t + 3) = 2 ^ (t + 1) * q * 4 := by rw [e3, ← Nat.mul_assoc, Nat.mul_comm q]
    rw [mul_nat (by rw [e4]; omega), e4]
  · rw [nap_to h]
    show binDen .add .u64 ((napFrom (a54 x)).den env) ((sizeC x 1 54 0).den env) = _
    rw [sizeC_den h 1 54 0 rfl (Nat.zero_le _), (nap_from h).1]
    rw [show ((2 ^ (t + 3) : Nat) : Int) - 1 = ((2 ^ (t + 3) - 1 : Nat) : Int) by omega, add_nat (by omega)]

end

/-! ### The runs -/

/-- A run over variables, with some of them known. -/
theorem sum_calls_fix {Φ : Nat → List Int → Int} {K : Ctx} {sh : List Sh} {n : Nat} {f : FuncId} {R : C} (p : E) (j : Int) (hosz : K.osz = fun _ => none) (hrun : leafIs R (evFn K n f ((varsA sh 0).map (C.fix p j)) []) = true)
    {env : Env} (hF : EnvF Φ env) (hn : ∀ env, EnvF Φ env → VarsIn (shKs sh) 0 env → ∀ e, (K.nrm e).den env = e.den env) (hsg : ∀ env, EnvF Φ env → (∀ e, (K.nrm e).den env = e.den env) → SgOk env K)
    {vs : List C} {es : List E} (hp : parseA sh vs = some es) (hj : p.den (withV env (es.map (E.den env))) = j) {ρ : List Nat} {xs : List Value} (hr : Rels env ρ vs xs) (w : World) :
    (∀ w, (callFunc f xs.toArray).run K.P w = .ok (.enter f xs.toArray) w) ∧
    Calls K.P f xs.toArray w fun e w' => ∃ z ρ', e = .returned z ∧ R.r (withV env (es.map (E.den env))) ρ' [z] ∧ Below w.heap.size w w' := by
  have hF' := hF.withV (es.map (E.den env))
  have hr' := parseA_r (all := es.map (E.den env)) sh vs es xs 0 hp hr (fun i e hi => by simp [hi])
  have hn' := hn _ hF' (varsA_in sh 0 xs hr')
  have hE : EnvOk (withV env (es.map (E.den env))) K w w.heap.size := ⟨hF'.2.1, hF'.2.2, (by rw [hosz]; intro j kinds a i n k h; cases h), hn'⟩
  obtain ⟨h1, h2⟩ := evFn_calls hE (hsg _ hF' hn') (fix_rels hj hr') (leafIs_sat hrun)
  refine ⟨h1, h2.mono ?_⟩
  rintro e w' ⟨r, z, ρ', hR, rfl, hz, hb⟩
  exact ⟨z, ρ', rfl, hR ▸ hz, hb⟩

/-- A run with the rules for bytes, addresses and bits. -/
noncomputable def nrmS (eqs : List (E × E)) (e : E) : E := rw1 eqs (nrmT (nrmP (nrmG e)))
theorem nrmS_den {env : Env} (hF : EnvF Phi env) {eqs : List (E × E)} (h : ∀ p ∈ eqs, p.1.den env = p.2.den env) (e : E) : (nrmS eqs e).den env = e.den env := by
  unfold nrmS; rw [rw1_den h, nrmT_den, nrmP_den hF, nrmG_den]

noncomputable def sumK (sg : FuncId → List C → Option C) (eqs : List (E × E)) (sp : FuncId → Bool) : Ctx :=
  { P := Try.prog, sg := sg, sp := sp, osz := fun _ => none, nrm := nrmS eqs, nf := fun _ => false, fr := fun _ => true }

def spanSh : List Sh := [.agg pmpKs, .one (some .i64)]

def kOk (c : E) : E := .ite (isKind c 1) (.lit 1) (.ite (isKind c 2) (.lit 1) (isKind c 3))
def restFrom (c a : E) : E := .ite (isKind c 2) (.bin .shl .u64 a (.lit 2)) (.ite (.bin .eql .u64 a (.lit m54)) (.lit 0) (napFrom a))
def restTo (c a : E) : E := .ite (isKind c 2) (.bin .add .u64 (.bin .shl .u64 a (.lit 2)) (.lit 3)) (.ite (.bin .eql .u64 a (.lit m54)) (.lit 18446744073709551615) (napTo a))
def ltT (p a : E) : E := .bin .lss .u64 p a
def endT (a : E) : E := .bin .sub .u64 (.bin .shl .u64 a (.lit 2)) (.lit 1)

/-- What the program's run comes to ('s': the entry ahead, times four). -/
def ansI (c s p a : E) : C := .tup (.cons (.int .u64 (.ite (okE c p a) (.ite (isKind c 1) s (restFrom c a)) (.lit 0))) (.cons (.int .u64 (.ite (okE c p a) (.ite (isKind c 1) (endT a) (restTo c a)) (.lit 0))) (.cons (.bool (okE c p a)) .nil)))
/-- What the reference's run comes to. -/
def ansR (c s p a : E) : C := .tup (.cons (.int .u64 (.ite (kOk c) (.ite (isKind c 1) s (restFrom c a)) (.lit 0))) (.cons (.int .u64 (.ite (kOk c) (.ite (isKind c 1) (.ite (ltT p a) (endT a) (.lit 0)) (restTo c a)) (.lit 0)))
  (.cons (.bool (.ite (kOk c) (.ite (isKind c 1) (ltT p a) (.lit 1)) (.lit 0))) .nil)))

def spanR (f i : Nat) : C :=
  let a := a54 (.var (16 + i))
  let c : E := .var i
  match i with
  | 0 => if Nat.beq f 41 then ansI c (.lit 0) (.lit 0) a else ansR c (.lit 0) (.lit 0) a
  | j + 1 => let p := a54 (.var (16 + j)); if Nat.beq f 41 then ansI c (.bin .shl .u64 p (.lit 2)) p a else ansR c (.ite (ltT p a) (.bin .shl .u64 p (.lit 2)) (.lit 0)) p a

theorem ansI_same {env env' : Env} {c s p a x y z : E} (hs : (ltT p a).tt env = true → s.den env = (E.bin .shl .u64 p (.lit 2)).den env) (hx : (fromE c p a).den env = x.den env') (hy : (toE c p a).den env = y.den env') (hz : (okE c p a).den env = z.den env') :
    C.same env env' (ansI c s p a) (.tup (.cons (.int .u64 x) (.cons (.int .u64 y) (.cons (.bool z) .nil)))) := by
  refine ⟨⟨rfl, ?_⟩, ⟨rfl, ?_⟩, ?_, trivial⟩
  · rw [← hx]
    simp only [fromE, restFrom, okE, ← ltT.eq_1] at *
    simp only [den_ite, tt_ite, den_lit, tt_lit]
    cases h1 : (isKind c 1).tt env <;> cases h2 : (isKind c 2).tt env <;> cases h3 : (isKind c 3).tt env <;> cases h4 : (ltT p a).tt env <;> simp [intBeq_eq, hs, h4]
  · rw [← hy]
    simp only [toE, restTo, okE, ← ltT.eq_1, ← endT.eq_1]
    simp only [den_ite, tt_ite, den_lit, tt_lit]
    cases h1 : (isKind c 1).tt env <;> cases h2 : (isKind c 2).tt env <;> cases h3 : (isKind c 3).tt env <;> cases h4 : (ltT p a).tt env <;> simp [intBeq_eq]
  · show E.tt _ _ = E.tt _ _
    unfold E.tt; rw [hz]

theorem ansR_same {env env' : Env} {c s p a x y z : E} (hs : s.den env = (E.ite (ltT p a) (.bin .shl .u64 p (.lit 2)) (.lit 0)).den env) (hx : (fromE c p a).den env = x.den env') (hy : (toE c p a).den env = y.den env') (hz : (okE c p a).den env = z.den env') :
    C.same env env' (ansR c s p a) (.tup (.cons (.int .u64 x) (.cons (.int .u64 y) (.cons (.bool z) .nil)))) := by
  refine ⟨⟨rfl, ?_⟩, ⟨rfl, ?_⟩, ?_, trivial⟩
  · rw [← hx]
    simp only [fromE, restFrom, kOk, ← ltT.eq_1]
    rw [den_ite, den_ite, hs]
    simp only [den_ite, tt_ite, den_lit, tt_lit]
    cases h1 : (isKind c 1).tt env <;> cases h2 : (isKind c 2).tt env <;> cases h3 : (isKind c 3).tt env <;> cases h4 : (ltT p a).tt env <;> simp [intBeq_eq]
  · rw [← hy]
    simp only [toE, restTo, kOk, ← ltT.eq_1, ← endT.eq_1]
    simp only [den_ite, tt_ite, den_lit, tt_lit]
    cases h1 : (isKind c 1).tt env <;> cases h2 : (isKind c 2).tt env <;> cases h3 : (isKind c 3).tt env <;> cases h4 : (ltT p a).tt env <;> simp [intBeq_eq]
  · have hz' : (okE c p a).tt env = z.tt env' := by unfold E.tt; rw [hz]
    show E.tt _ _ = E.tt _ _
    rw [← hz']
    simp only [okE, kOk, ← ltT.eq_1]
    simp only [tt_ite, tt_lit]
    cases h1 : (isKind c 1).tt env <;> cases h2 : (isKind c 2).tt env <;> cases h3 : (isKind c 3).tt env <;> cases h4 : (ltT p a).tt env <;> simp [intBeq_eq]

noncomputable def spanRun (f i : Nat) : Bool := leafIs (spanR f i) (evFn (sumK (sgAll (nrmS (spanEqs (.var (16 + i))))) (spanEqs (.var (16 + i))) (fun _ => false)) 1000 f ((varsA spanSh 0).map (C.fix (.var 32) (Int.ofNat i))) [])

end Go.Proofs.Ytibfaifjnifgjaa
