/-
  The summary of Match, for a size that is known. No condition.
-/
import Derived.Test.YtibfaifjnifgjaaPmpMatch
namespace Go.Proofs.Ytibfaifjnifgjaa
open Go.Sx Go.RowKit

/-! ### Lists of terms -/

noncomputable def listE (l : List E) : E := @List.rec E (fun _ => E) .nil (fun e _ ih => .cons e ih) l

theorem listE_d (env : Env) : ∀ l : List E, ((listE l).d env).2 = l.map (E.den env) := by
  intro l
  induction l with
  | nil => rfl
  | cons e l ih => show e.den env :: ((listE l).d env).2 = _; rw [ih]; rfl

theorem appL_den (env : Env) (g : Nat) (l : List E) : (E.app g (listE l)).den env = env.f g (l.map (E.den env)) := by
  show env.f g ((listE l).d env).2 = _
  rw [listE_d]

theorem parse_length : ∀ (sh : List Sh) (vs : List C) (es : List E), parseA sh vs = some es → es.length = (shKs sh).length := by
  intro sh
  induction sh with
  | nil => intro vs es h; cases vs with
    | nil => simp [parseA] at h; subst h; rfl
    | cons => simp [parseA] at h
  | cons s sh ih =>
    intro vs es h
    cases s with
    | agg ks =>
      cases vs with
      | nil => simp [parseA] at h
      | cons c cs =>
        simp only [parseA] at h
        split at h
        · split at h
          · split at h
            · rename_i he
              split at h
              · rename_i r hr
                simp only [Option.some.injEq] at h; subst h
                rw [List.length_append, unflat_len _ _ _ he, ih _ _ hr]; simp [shKs]
              · cases h
            · cases h
          · cases h
        · cases h
    | one k =>
      cases vs with
      | nil => simp [parseA] at h
      | cons c cs =>
        simp only [parseA] at h
        split at h
        · rename_i he
          split at h
          · rename_i r hr
            simp only [Option.some.injEq] at h; subst h
            rw [List.length_append, unflat_len _ _ _ he, ih _ _ hr]; simp [shKs]; omega
          · cases h
        · cases h

/-- The cells of proper entries. -/
noncomputable def canonP (nrm : E → E) (es : List E) : List E :=
  (List.range 16).map (fun i => pushB (getE es i)) ++ (List.range 16).map (fun i => nrm (mkBin .and .u64 (getE es (16 + i)) (.lit m54)))

theorem canon_cfg {env : Env} (hF : EnvF Phi env) (nrm : E → E) (es rest : List E) {i : Nat} (hi : i < 16) : cfgAt ((canonP nrm es ++ rest).map (E.den env)) i = byteF ((getE es i).den env) := by
  unfold cfgAt canonP
  rw [List.getElem?_map, List.getElem?_append_left (by simp; omega), List.getElem?_append_left (by simpa using hi), List.getElem?_map, List.getElem?_range hi]
  exact pushB_den hF _

theorem canon_adr {env : Env} {nrm : E → E} (hn : ∀ e, (nrm e).den env = e.den env) (es rest : List E) {i : Nat} (hi : i < 16) : adrAt ((canonP nrm es ++ rest).map (E.den env)) i = binDen .and .u64 ((getE es (16 + i)).den env) m54 := by
  unfold adrAt canonP
  rw [List.getElem?_map, List.getElem?_append_left (by simp; omega), List.getElem?_append_right (by simp), List.getElem?_map]
  rw [show 16 + i - (List.map (fun i => pushB (getE es i)) (List.range 16)).length = i by simp, List.getElem?_range hi]
  show (nrm _).den env = _
  rw [hn, mkBin_den]; rfl

theorem canon_rest {env : Env} (nrm : E → E) (es rest : List E) (i : Nat) : cAt ((canonP nrm es ++ rest).map (E.den env)) (32 + i) = ((rest.map (E.den env))[i]?).getD 0 := by
  unfold cAt canonP
  rw [List.getElem?_map, List.getElem?_append_right (by simp), List.getElem?_map]
  congr 3
  simp

/-! ### What the terms say -/

section
variable {env env' : Env} {L : List Int} {addr : Int}

/-- The numbers 'L' are those of the terms under 'env''. -/
structure Fits (env' : Env) (L : List Int) (addr : Int) : Prop where
  f : EnvF Phi env'
  cfg : ∀ i, i < 16 → byteF (env'.v i) = cfgAt L i
  adr : ∀ i, i < 16 → (a54 (.var (16 + i))).den env' = adrAt L i
  addr : env'.v 32 = addr

theorem Fits.tri (h : Fits env' L addr) (g i : Nat) (hi : i < 16) : (Go.Proofs.Ytibfaifjnifgjaa.tri g i).den env' = env'.f g [cfgAt L i, prevAt L i, adrAt L i] := by
  show env'.f g [(cT i).den env', (pT i).den env', (aT i).den env'] = _
  have h1 : (cT i).den env' = cfgAt L i := by
    show env'.f 21 [env'.v i] = _
    rw [f21 h.f]; exact h.cfg i hi
  have h2 : (pT i).den env' = prevAt L i := by
    cases i with
    | zero => rfl
    | succ j => show (a54 (.var (16 + j))).den env' = _; rw [h.adr j (by omega)]; unfold prevAt; simp
  rw [h1, h2]
  congr 3
  exact congrArg (fun x => [x]) (h.adr i hi)

theorem inT_tt (h : Fits env' L addr) (i k : Nat) (hi : i < 16) : (inT i k).tt env' = (decide (fromF (cfgAt L i) (prevAt L i) (adrAt L i) ≤ IntKind.u64.wrap (addr + k)) && decide (IntKind.u64.wrap (addr + k) ≤ toF (cfgAt L i) (prevAt L i) (adrAt L i))) := by
  have hb : (byT k).den env' = IntKind.u64.wrap (addr + k) := by
    show IntKind.u64.wrap (env'.v 32 + Int.ofNat k) = _
    rw [h.addr]; rfl
  have h1 : (tri 23 i).den env' = fromF (cfgAt L i) (prevAt L i) (adrAt L i) := by rw [h.tri 23 i hi, f23 h.f]; rfl
  have h2 : (tri 24 i).den env' = toF (cfgAt L i) (prevAt L i) (adrAt L i) := by rw [h.tri 24 i hi, f24 h.f]; rfl
  unfold inT
  rw [tt_ite, tt_lit]
  have e1 : (E.bin .lss .u64 (byT k) (tri 23 i)).tt env' = decide (IntKind.u64.wrap (addr + k) < fromF (cfgAt L i) (prevAt L i) (adrAt L i)) := by rw [← hb, ← h1]; exact b2i_dec _
  have e2 : (E.bin .eql .i64 (.bin .lss .u64 (tri 24 i) (byT k)) (.lit 0)).tt env' = !decide (toF (cfgAt L i) (prevAt L i) (adrAt L i) < IntKind.u64.wrap (addr + k)) := by
    rw [show (E.bin .eql .i64 (.bin .lss .u64 (tri 24 i) (byT k)) (.lit 0)) = ntE (.bin .lss .u64 (tri 24 i) (byT k)) from rfl, ntE_tt, ← hb, ← h2]
    congr 1
    exact b2i_dec _
  rw [e1, e2]
  by_cases q1 : IntKind.u64.wrap (addr + k) < fromF (cfgAt L i) (prevAt L i) (adrAt L i)
  · have : ¬ fromF (cfgAt L i) (prevAt L i) (adrAt L i) ≤ IntKind.u64.wrap (addr + k) := by omega
    simp [q1, this, intBeq_eq]
  · have h3 : fromF (cfgAt L i) (prevAt L i) (adrAt L i) ≤ IntKind.u64.wrap (addr + k) := by omega
    simp only [q1, h3, decide_true, decide_false, Bool.true_and, Bool.false_eq_true, if_false]
    by_cases q2 : toF (cfgAt L i) (prevAt L i) (adrAt L i) < IntKind.u64.wrap (addr + k)
    · have : ¬ IntKind.u64.wrap (addr + k) ≤ toF (cfgAt L i) (prevAt L i) (adrAt L i) := by omega
      simp [q2, this]
    · have : IntKind.u64.wrap (addr + k) ≤ toF (cfgAt L i) (prevAt L i) (adrAt L i) := by omega
      simp [q2, this]

theorem ok_tt (h : Fits env' L addr) (i : Nat) (hi : i < 16) : (tri 25 i).tt env' = decide (okF (cfgAt L i) (prevAt L i) (adrAt L i) ≠ 0) := by
  unfold E.tt; rw [h.tri 25 i hi, f25 h.f]; rfl

theorem holds_tt (h : Fits env' L addr) (i k : Nat) (hi : i < 16) : ((tri 25 i).tt env' && (inT i k).tt env') = holdsF L i (IntKind.u64.wrap (addr + k)) := by
  rw [ok_tt h i hi, inT_tt h i k hi]; rfl

theorem test_den {e : E} (h : isB e = true) : e.den env' = if e.tt env' then 1 else 0 := by
  rw [isB_den h]; cases e.tt env' <;> rfl

/-- A sum of tests counts them. -/
theorem sumT_den (s : Nat → Nat → E) (i : Nat) (hb : ∀ k, isB (s i k) = true) (hc : ∀ k, (s i k).tt env' = holdsF L i (IntKind.u64.wrap (addr + k))) : ∀ n, n ≤ 8 → (sumT s i n).den env' = (cntF L i addr n : Int) := by
  have small : ∀ n, cntF L i addr n ≤ n := by
    intro n
    induction n with
    | zero => exact Nat.le_refl _
    | succ n ih => simp only [cntF]; split <;> omega
  intro n
  induction n with
  | zero => intro _; rfl
  | succ n ih =>
    intro hn
    show IntKind.i64.wrap ((sumT s i n).den env' + (s i n).den env') = _
    rw [ih (by omega), test_den (hb n), hc n]
    have hs := small n
    simp only [cntF]
    cases holdsF L i (IntKind.u64.wrap (addr + n)) <;> simp [IntKind.wrap, IntKind.signed, IntKind.bits] <;> omega

theorem cnt_none (i : Nat) (h : ∀ b, holdsF L i b = false) : ∀ n, cntF L i addr n = 0 := by
  intro n
  induction n with
  | zero => rfl
  | succ n ih => simp [cntF, ih, h]

theorem lt_tt (a b : E) (k : IntKind) : (E.bin .lss k a b).tt env' = decide (a.den env' < b.den env') := b2i_dec _
theorem eq_tt (a b : E) (k : IntKind) : (E.bin .eql k a b).tt env' = (a.den env' == b.den env') := b2i_dec _

theorem sumI (h : Fits env' L addr) {n : Nat} (hn : n ≤ 8) {i : Nat} (hi : i < 16) (ho : (tri 25 i).tt env' = true) : (sumT inT i n).den env' = (cntF L i addr n : Int) :=
  sumT_den inT i (fun _ => rfl) (fun k => by rw [← holds_tt h i k hi, ho, Bool.true_and]) n hn

theorem sumR (h : Fits env' L addr) {n : Nat} (hn : n ≤ 8) {i : Nat} (hi : i < 16) : (sumT inR i n).den env' = (cntF L i addr n : Int) :=
  sumT_den inR i (fun _ => rfl) (fun k => by
    rw [← holds_tt h i k hi]; unfold inR; rw [tt_ite, tt_lit]; cases (tri 25 i).tt env' <;> simp [intBeq_eq]) n hn

theorem hitI_tt (h : Fits env' L addr) {n : Nat} (hn : n ≤ 8) {i : Nat} (hi : i < 16) : (hitI n i).tt env' = decide (0 < cntF L i addr n) := by
  unfold hitI
  rw [tt_ite, tt_lit]
  cases ho : (tri 25 i).tt env' with
  | true => simp only [if_true]; rw [lt_tt, den_lit, sumI h hn hi ho]; congr 1; rw [eq_iff_iff]; omega
  | false =>
    rw [cnt_none i (fun b => by unfold holdsF; rw [← ok_tt h i hi, ho, Bool.false_and])]
    simp [intBeq_eq]

theorem hitR_tt (h : Fits env' L addr) {n : Nat} (hn : n ≤ 8) {i : Nat} (hi : i < 16) : (hitR n i).tt env' = decide (0 < cntF L i addr n) := by
  unfold hitR
  rw [lt_tt, den_lit, sumR h hn hi]; congr 1; rw [eq_iff_iff]; omega

/-- The first entry that is hit. -/
theorem first_ok {n : Nat} {hit g : Nat → E} (hh : ∀ i, i < 16 → (hit i).tt env' = decide (0 < cntF L i addr n)) : ∀ (m i : Nat), i + m ≤ 15 →
    ((anyT hit m i).tt env' = true ∧ ∃ j, i ≤ j ∧ j < 16 ∧ 0 < cntF L j addr n ∧ firstF L addr n (m + 1) i = (j : Int) ∧ (valT hit g m i).den env' = (g j).den env') ∨ ((anyT hit m i).tt env' = false ∧ firstF L addr n (m + 1) i = -1) := by
  intro m
  induction m with
  | zero =>
    intro i hi
    simp only [anyT, valT, firstF]
    rw [hh i (by omega)]
    by_cases hc : 0 < cntF L i addr n
    · left; simp only [hc, decide_true, if_true]; exact ⟨by simp, i, Nat.le_refl _, by omega, hc, rfl, rfl⟩
    · right; simp [hc]
  | succ m ih =>
    intro i hi
    simp only [anyT, valT]
    rw [tt_ite, den_ite, hh i (by omega), firstF]
    by_cases hc : 0 < cntF L i addr n
    · left; simp only [hc, decide_true, if_true]; exact ⟨by first | rfl | simp, i, Nat.le_refl _, by omega, hc, rfl, rfl⟩
    · simp only [hc, decide_false, Bool.false_eq_true, if_false]
      rcases ih (i + 1) (by omega) with ⟨h1, j, k1, k2, k3, k4, k5⟩ | ⟨h1, h2⟩
      · left; exact ⟨h1, j, by omega, k2, k3, k4, k5⟩
      · right; exact ⟨h1, h2⟩

/-- What Match answers, as the two numbers. -/
theorem match_ok (_h : Fits env' L addr) {n : Nat} (hn1 : 1 ≤ n) (hn : n ≤ 8) {hit : Nat → E} {s : Nat → Nat → E} (hh : ∀ i, i < 16 → (hit i).tt env' = decide (0 < cntF L i addr n))
    (hs : ∀ i, i < 16 → 0 < cntF L i addr n → (sumT s i n).den env' = (cntF L i addr n : Int)) :
    (E.ite (anyT hit 15 0) (valT hit (fun i => .lit (Int.ofNat i)) 15 0) (.lit (-1))).den env' = matchI L addr n ∧
    (E.ite (anyT hit 15 0) (valT hit (fun i => .bin .eql .i64 (sumT s i n) (.lit (Int.ofNat n))) 15 0) (.lit 0)).den env' = matchOk L addr n := by
  have e1 : matchI L addr n = firstF L addr n 16 0 := by unfold matchI; rw [if_pos ⟨by omega, by omega⟩]; rfl
  rw [den_ite, den_ite]
  rcases first_ok (g := fun i => .lit (Int.ofNat i)) hh 15 0 (Nat.le_refl _) with ⟨ha, j, _, k2, k3, k4, k5⟩ | ⟨ha, hf⟩
  · rcases first_ok (g := fun i => .bin .eql .i64 (sumT s i n) (.lit (Int.ofNat n))) hh 15 0 (Nat.le_refl _) with ⟨_, j', _, q2, q3, q4, q5⟩ | ⟨ha', _⟩
    · have hj : j' = j := by rw [k4] at q4; omega
      subst hj
      rw [ha, if_pos rfl, if_pos rfl, k5, q5]
      refine ⟨by rw [e1, k4]; rfl, ?_⟩
      unfold matchOk
      rw [e1, k4, if_neg (by omega)]
      show b2i ((sumT s j' n).den env' == Int.ofNat n) = _
      rw [hs j' k2 k3, beq_dec]
      congr 1
      rw [Bool.eq_iff_iff, decide_eq_true_eq, decide_eq_true_eq]
      show ((cntF L j' addr n : Nat) : Int) = ((n : Nat) : Int) ↔ cntF L ((j' : Nat) : Int).toNat addr ((n : Nat) : Int).toNat = ((n : Nat) : Int).toNat
      rw [Int.toNat_natCast, Int.toNat_natCast]
      omega
    · rw [ha] at ha'; cases ha'
  · rw [ha]
    simp only [Bool.false_eq_true, if_false]
    refine ⟨by rw [e1, hf]; rfl, ?_⟩
    unfold matchOk
    rw [e1, hf]; rfl

end

/-! ### The summary -/

noncomputable def matchAns (nrm : E → E) (es : List E) : C :=
  let args := listE (canonP nrm es ++ [getE es 32, getE es 33])
  .tup (.cons (.int .i64 (nrm (.app 30 args))) (.cons (.bool (nrm (.app 31 args))) .nil))

noncomputable def sgMatch (nrm : E → E) (f : FuncId) (vs : List C) : Option C :=
  if Nat.beq f 61 || Nat.beq f 62 then match parseA matchSh vs with
    | some es => some (matchAns nrm es)
    | none => none
  else none

theorem f30 {env : Env} (h : EnvF Phi env) (l : List Int) : env.f 30 l = matchI l (cAt l 32) (cAt l 33) := h.1 30 l (by decide)
theorem f31 {env : Env} (h : EnvF Phi env) (l : List Int) : env.f 31 l = matchOk l (cAt l 32) (cAt l 33) := h.1 31 l (by decide)

theorem below8 {p : Nat → Prop} (h1 : p 1) (h2 : p 2) (h3 : p 3) (h4 : p 4) (h5 : p 5) (h6 : p 6) (h7 : p 7) (h8 : p 8) : ∀ n, 0 < n → n < 9 → p n := by
  intro n h0 h9
  match n, h0, h9 with
  | 1, _, _ => exact h1
  | 2, _, _ => exact h2
  | 3, _, _ => exact h3
  | 4, _, _ => exact h4
  | 5, _, _ => exact h5
  | 6, _, _ => exact h6
  | 7, _, _ => exact h7
  | 8, _, _ => exact h8
  | n + 9, _, h => exact absurd h (by omega)

theorem run61_1 : matchRun 61 (hitI 1) inT 1 = true := by kernel_rfl
theorem run61_2 : matchRun 61 (hitI 2) inT 2 = true := by kernel_rfl
theorem run61_3 : matchRun 61 (hitI 3) inT 3 = true := by kernel_rfl
theorem run61_4 : matchRun 61 (hitI 4) inT 4 = true := by kernel_rfl
theorem run61_5 : matchRun 61 (hitI 5) inT 5 = true := by kernel_rfl
theorem run61_6 : matchRun 61 (hitI 6) inT 6 = true := by kernel_rfl
theorem run61_7 : matchRun 61 (hitI 7) inT 7 = true := by kernel_rfl
theorem run61_8 : matchRun 61 (hitI 8) inT 8 = true := by kernel_rfl
theorem run61 : ∀ n, 0 < n → n < 9 → matchRun 61 (hitI n) inT n = true := below8 run61_1 run61_2 run61_3 run61_4 run61_5 run61_6 run61_7 run61_8
theorem run62_1 : matchRun 62 (hitR 1) inR 1 = true := by kernel_rfl
theorem run62_2 : matchRun 62 (hitR 2) inR 2 = true := by kernel_rfl
theorem run62_3 : matchRun 62 (hitR 3) inR 3 = true := by kernel_rfl
theorem run62_4 : matchRun 62 (hitR 4) inR 4 = true := by kernel_rfl
theorem run62_5 : matchRun 62 (hitR 5) inR 5 = true := by kernel_rfl
theorem run62_6 : matchRun 62 (hitR 6) inR 6 = true := by kernel_rfl
theorem run62_7 : matchRun 62 (hitR 7) inR 7 = true := by kernel_rfl
theorem run62_8 : matchRun 62 (hitR 8) inR 8 = true := by kernel_rfl
theorem run62 : ∀ n, 0 < n → n < 9 → matchRun 62 (hitR n) inR n = true := below8 run62_1 run62_2 run62_3 run62_4 run62_5 run62_6 run62_7 run62_8

theorem fits_of {env : Env} (hF : EnvF Phi env) {nrm : E → E} (hn : ∀ e, (nrm e).den env = e.den env) (es rest : List E) (hl : 33 ≤ es.length) :
    Fits (withV env (es.map (E.den env))) ((canonP nrm es ++ rest).map (E.den env)) ((getE es 32).den env) where
  f := hF.withV _
  cfg i hi := by
    rw [canon_cfg hF nrm es rest hi, ← withV_var env es i (by omega)]; rfl
  adr i hi := by
    rw [canon_adr hn es rest hi, ← withV_var env es (16 + i) (by omega)]; rfl
  addr := withV_var env es 32 (by omega)

/-- A run over variables, under what is known of their numbers. -/
theorem sum_calls_at {K : Ctx} {sh : List Sh} {n : Nat} {f : FuncId} {R : C} {vs' : List C} (hosz : K.osz = fun _ => none) (hrun : leafIs R (evFn K n f vs' []) = true)
    {env : Env} (hF : EnvF Phi env) {vs : List C} {es : List E} (hn : ∀ e, (K.nrm e).den (withV env (es.map (E.den env))) = e.den (withV env (es.map (E.den env)))) (hsg : SgOk (withV env (es.map (E.den env))) K)
    (hp : parseA sh vs = some es) (hv : ∀ xs, Rels (withV env (es.map (E.den env))) [] (varsA sh 0) xs → Rels (withV env (es.map (E.den env))) [] vs' xs) {ρ : List Nat} {xs : List Value} (hr : Rels env ρ vs xs) (w : World) :
    (∀ w, (callFunc f xs.toArray).run K.P w = .ok (.enter f xs.toArray) w) ∧
    Calls K.P f xs.toArray w fun e w' => ∃ z ρ', e = .returned z ∧ R.r (withV env (es.map (E.den env))) ρ' [z] ∧ Below w.heap.size w w' := by
  have hF' := hF.withV (es.map (E.den env))
  have hr' := parseA_r (all := es.map (E.den env)) sh vs es xs 0 hp hr (fun i e hi => by simp [hi])
  have hE : EnvOk (withV env (es.map (E.den env))) K w w.heap.size := ⟨hF'.2.1, hF'.2.2, (by rw [hosz]; intro j kinds a i n k h; cases h), hn⟩
  obtain ⟨h1, h2⟩ := evFn_calls hE hsg (hv _ hr') (leafIs_sat hrun)
  refine ⟨h1, h2.mono ?_⟩
  rintro e w' ⟨r, z, ρ', hR, rfl, hz, hb⟩
  exact ⟨z, ρ', rfl, hR ▸ hz, hb⟩

/-! A size that is none. -/

def sizeV : E := .var 33
def sizeLo : List (E × E) := isE2 (ltE sizeV (.lit 1)) true
def sizeHi : List (E × E) := isE2 (ltE sizeV (.lit 1)) false ++ isE2 (ltE (.lit 8) sizeV) true
def noneR : C := .tup (.cons (.int .i64 (.lit (-1))) (.cons (.bool (.lit 0)) .nil))
noncomputable def noneRun (f : Nat) (eqs : List (E × E)) : Bool := leafIs noneR (evFn (sumK (sgM (nrmS eqs)) eqs (fun _ => false)) 1000 f (varsA matchSh 0) [])
theorem lo61 : noneRun 61 sizeLo = true := by kernel_rfl
theorem hi61 : noneRun 61 sizeHi = true := by kernel_rfl
theorem lo62 : noneRun 62 sizeLo = true := by kernel_rfl
theorem hi62 : noneRun 62 sizeHi = true := by kernel_rfl

theorem eqs_app {env : Env} {l m : List (E × E)} (h : ∀ p ∈ l, p.1.den env = p.2.den env) (k : ∀ p ∈ m, p.1.den env = p.2.den env) : ∀ p ∈ l ++ m, p.1.den env = p.2.den env := fun p hp => by
  rcases List.mem_append.1 hp with hp | hp
  · exact h p hp
  · exact k p hp

set_option maxRecDepth 100000 in
theorem match_same {env : Env} (hF : EnvF Phi env) {nrm : E → E} (hn : ∀ e, (nrm e).den env = e.den env) (es : List E) (hlen : es.length = 34) {f : Nat} (hf : Nat.beq f 61 = true ∨ Nat.beq f 62 = true) :
    ∃ (eqs : List (E × E)) (vs' : List C) (R : C), (∀ p ∈ eqs, p.1.den (withV env (es.map (E.den env))) = p.2.den (withV env (es.map (E.den env)))) ∧ (∀ xs, Rels (withV env (es.map (E.den env))) [] (varsA matchSh 0) xs → Rels (withV env (es.map (E.den env))) [] vs' xs) ∧
      leafIs R (evFn (sumK (sgM (nrmS eqs)) eqs (fun _ => false)) 1000 f vs' []) = true ∧ C.same (withV env (es.map (E.den env))) env R (matchAns nrm es) := by
  have hfit := fits_of hF hn es [getE es 32, getE es 33] (by omega)
  have hv33 := withV_var env es 33 (by omega)
  have ha : cAt ((canonP nrm es ++ [getE es 32, getE es 33]).map (E.den env)) 32 = (getE es 32).den env := canon_rest nrm es _ 0
  have hs : cAt ((canonP nrm es ++ [getE es 32, getE es 33]).map (E.den env)) 33 = (getE es 33).den env := canon_rest nrm es _ 1
  have e30 : (nrm (.app 30 (listE (canonP nrm es ++ [getE es 32, getE es 33])))).den env = matchI ((canonP nrm es ++ [getE es 32, getE es 33]).map (E.den env)) ((getE es 32).den env) ((getE es 33).den env) := by
    rw [hn, appL_den, f30 hF, ha, hs]
  have e31 : (nrm (.app 31 (listE (canonP nrm es ++ [getE es 32, getE es 33])))).den env = matchOk ((canonP nrm es ++ [getE es 32, getE es 33]).map (E.den env)) ((getE es 32).den env) ((getE es 33).den env) := by
    rw [hn, appL_den, f31 hF, ha, hs]
  have none : ¬(1 ≤ (getE es 33).den env ∧ (getE es 33).den env ≤ 8) → C.same (withV env (es.map (E.den env))) env noneR (matchAns nrm es) := fun hno => by
    have m1 : ∀ (L : List Int) (a : Int), matchI L a ((getE es 33).den env) = -1 := fun L a => by unfold matchI; rw [if_neg hno]
    refine ⟨⟨rfl, ?_⟩, ?_, trivial⟩
    · rw [e30, m1]; rfl
    · show E.tt _ _ = E.tt _ _
      unfold E.tt
      rw [e31]; unfold matchOk; rw [m1]; rfl
  by_cases h1 : (getE es 33).den env < 1
  · refine ⟨sizeLo, varsA matchSh 0, noneR, isE2_ok rfl (by rw [ltE_tt]; show decide ((E.var 33).den _ < _) = true; rw [hv33]; exact decide_eq_true h1), fun _ h => h, ?_, none (by omega)⟩
    rcases hf with hf | hf
    · rw [Nat.eq_of_beq_eq_true hf]; exact lo61
    · rw [Nat.eq_of_beq_eq_true hf]; exact lo62
  · by_cases h8 : 8 < (getE es 33).den env
    · refine ⟨sizeHi, varsA matchSh 0, noneR, eqs_app (isE2_ok rfl (by rw [ltE_tt]; show decide ((E.var 33).den _ < _) = false; rw [hv33]; exact decide_eq_false h1)) (isE2_ok rfl (by rw [ltE_tt]; show decide (_ < (E.var 33).den _) = true; rw [hv33]; exact decide_eq_true h8)), fun _ h => h, ?_, none (by omega)⟩
      rcases hf with hf | hf
      · rw [Nat.eq_of_beq_eq_true hf]; exact hi61
      · rw [Nat.eq_of_beq_eq_true hf]; exact hi62
    · obtain ⟨n, hnn⟩ : ∃ n : Nat, (getE es 33).den env = (n : Int) := ⟨((getE es 33).den env).toNat, by omega⟩
      have h0 : 0 < n := by omega
      have h9 : n < 9 := by omega
      have hj : (E.var 33).den (withV env (es.map (E.den env))) = Int.ofNat n := by rw [hv33, hnn]; rfl
      have key : ∃ hit s, matchRun f hit s n = true ∧ (∀ i, i < 16 → (hit i).tt (withV env (es.map (E.den env))) = decide (0 < cntF ((canonP nrm es ++ [getE es 32, getE es 33]).map (E.den env)) i ((getE es 32).den env) n)) ∧
          (∀ i, i < 16 → 0 < cntF ((canonP nrm es ++ [getE es 32, getE es 33]).map (E.den env)) i ((getE es 32).den env) n → (sumT s i n).den (withV env (es.map (E.den env))) = (cntF ((canonP nrm es ++ [getE es 32, getE es 33]).map (E.den env)) i ((getE es 32).den env) n : Int)) := by
        rcases hf with hf | hf
        · have hf := Nat.eq_of_beq_eq_true hf
          subst hf
          refine ⟨hitI n, inT, run61 n h0 h9, fun i hi => hitI_tt hfit (by omega) hi, fun i hi hc => ?_⟩
          have := hitI_tt hfit (show n ≤ 8 by omega) hi
          rw [decide_eq_true hc] at this
          refine sumI hfit (by omega) hi ?_
          unfold hitI at this
          rw [tt_ite, tt_lit] at this
          cases ho : (tri 25 i).tt (withV env (es.map (E.den env))) with
          | true => rfl
          | false => rw [ho] at this; simp [intBeq_eq] at this
        · have hf := Nat.eq_of_beq_eq_true hf
          subst hf
          exact ⟨hitR n, inR, run62 n h0 h9, fun i hi => hitR_tt hfit (by omega) hi, fun i hi _ => sumR hfit (by omega) hi⟩
      obtain ⟨hit, s, hrun, k1, k2⟩ := key
      refine ⟨[], (varsA matchSh 0).map (C.fix (.var 33) (Int.ofNat n)), _, by simp, fun xs hr => fix_rels hj hr, hrun, ?_⟩
      obtain ⟨q1, q2⟩ := match_ok hfit h0 (by omega) k1 k2
      refine ⟨⟨rfl, ?_⟩, ?_, trivial⟩
      · rw [q1, e30, hnn]
      · show E.tt _ _ = E.tt _ _
        unfold E.tt
        rw [q2, e31, hnn]

theorem sgMatch_ok {env : Env} (hF : EnvF Phi env) {nrm : E → E} (hn : ∀ e, (nrm e).den env = e.den env) : SgF env Try.prog (sgMatch nrm) := by
  intro f vs v hv ρ xs w hr
  unfold sgMatch at hv
  split at hv
  · rename_i hf
    simp only [Bool.or_eq_true] at hf
    split at hv
    · rename_i es hes
      simp only [Option.some.injEq] at hv; subst hv
      obtain ⟨eqs, vs', R, he, hv', hrun, hsame⟩ := match_same hF hn es (parse_length _ _ _ hes) hf
      have hn' := nrmS_den (hF.withV (es.map (E.den env))) he
      obtain ⟨h1, h2⟩ := sum_calls_at (K := sumK (sgM (nrmS eqs)) eqs (fun _ => false)) rfl hrun hF hn' (sgM_ok (hF.withV _) hn') hes hv' hr w
      refine ⟨h1, h2.mono ?_⟩
      rintro e w' ⟨z, ρ', rfl, hz, hb⟩
      exact ⟨z, rfl, same_r hsame hz, hb⟩
    · cases hv
  · cases hv

end Go.Proofs.Ytibfaifjnifgjaa
