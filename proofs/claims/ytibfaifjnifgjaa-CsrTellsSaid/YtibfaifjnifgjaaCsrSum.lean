/-
  Read and Write of a CSR, of the program and of the reference: the summaries. No condition.
-/
import Derived.Test.YtibfaifjnifgjaaCsrSem2
import Derived.Test.YtibfaifjnifgjaaCsrRunW
import Derived.Test.YtibfaifjnifgjaaCsrRunV
import Derived.Test.YtibfaifjnifgjaaCsrRunR
namespace Go.Proofs.Ytibfaifjnifgjaa
open Go.Sx Go.RowKit

/-- What holds of all ways of a run (a structure: so that nothing unfolds the run). -/
structure SatW (env : Env) (G : C × List Blk → Prop) (t : T (C × List Blk)) : Prop where
  out : t.sat env G

theorem SatW.mono {env : Env} {G G' : C × List Blk → Prop} {t : T (C × List Blk)} (h : ∀ r, G r → G' r) (k : SatW env G t) : SatW env G' t := ⟨sat_mono h k.out⟩

/-- A summary, out of a run that is chosen by what the numbers are. -/
theorem sum_by {env : Env} (hF : EnvF Phi env) {sh : List Sh} {f : FuncId} {vs : List C} {es : List E} {ans : C} (hes : parseA sh vs = some es) {ρ : List Nat} {xs : List Value} (hr : Rels env ρ vs xs) (w : World)
    (h : ∀ env' : Env, env' = withV env (es.map (E.den env)) → EnvF Phi env' → VarsIn (shKs sh) 0 env' → ∃ (K : Ctx) (n : Nat) (vs' : List C), K.P = Try.prog ∧ EnvOk env' K w w.heap.size ∧ SgOk env' K ∧
      (∀ xs, Rels env' [] (varsA sh 0) xs → Rels env' [] vs' xs) ∧ SatW env' (fun r => r.1.same env' env ans) (evFn K n f vs' [])) :
    (∀ w, (callFunc f xs.toArray).run Try.prog w = .ok (.enter f xs.toArray) w) ∧ Calls Try.prog f xs.toArray w fun e w' => ∃ z, e = .returned z ∧ ans.r env ρ [z] ∧ Below w.heap.size w w' := by
  have hF' := hF.withV (es.map (E.den env))
  have hr' := parseA_r (all := es.map (E.den env)) sh vs es xs 0 hes hr (fun i e hi => by rw [Nat.zero_add, List.getElem?_map, hi]; rfl)
  obtain ⟨K, n, vs', hP, hE, hS, hvs, hs⟩ := h _ rfl hF' (varsA_in sh 0 xs hr')
  obtain ⟨h1, h2⟩ := evFn_calls hE hS (hvs xs hr') hs.out
  rw [hP] at h1 h2
  refine ⟨h1, h2.mono ?_⟩
  rintro e' w' ⟨r, z, ρ', hG, rfl, hz, hb⟩
  exact ⟨z, rfl, same_r hG hz, hb⟩

theorem keyOk {env : Env} (hF : EnvF Phi env) {eqs : List (E × E)} (h : ∀ p ∈ eqs, p.1.den env = p.2.den env) (sp nf : FuncId → Bool) (w : World) : EnvOk env (keyK eqs sp nf) w w.heap.size ∧ SgOk env (keyK eqs sp nf) := ⟨keyE_ok hF h w, keyS_ok hF h⟩

theorem noneOk {env : Env} (hF : EnvF Phi env) {eqs : List (E × E)} (h : ∀ p ∈ eqs, p.1.den env = p.2.den env) (w : World) : EnvOk env (noneK eqs) w w.heap.size ∧ SgOk env (noneK eqs) :=
  ⟨⟨hF.2.1, hF.2.2, (by intro j kinds a i n k h; cases h), nrmC_den hF h⟩, (sgE_ok hF (nrmC_den hF h)).or (sgAll_ok hF (nrmC_den hF h))⟩

/-- In M or in U. -/
theorem mode_cases (env : Env) : ∃ b : Bool, (∀ p ∈ modeQ b, p.1.den env = p.2.den env) ∧ modeF (env.v 33) = if b then 3 else 0 := by
  have ht : modeT.tt env = decide (env.v 33 = 3) := b2i_eq _ _
  by_cases h : env.v 33 = 3
  · exact ⟨true, isE2_ok rfl (by rw [ht]; exact decide_eq_true h), by simp [modeF, h]⟩
  · exact ⟨false, isE2_ok rfl (by rw [ht]; exact decide_eq_false h), by simp [modeF, h]⟩

theorem isE2_app {env : Env} {l m : List (E × E)} (hl : ∀ p ∈ l, p.1.den env = p.2.den env) (hm : ∀ p ∈ m, p.1.den env = p.2.den env) : ∀ p ∈ l ++ m, p.1.den env = p.2.den env := fun p hp => by
  rcases List.mem_append.1 hp with h | h
  · exact hl p h
  · exact hm p h

/-- The same shape, the same numbers, out of lists. -/
theorem flat_same {env env' : Env} {ks : List (Option IntKind)} {us bs : List E} (h : us.map (E.den env) = bs.map (E.den env')) : (C.agg (.toC (flatE ks us))).same env env' (.agg (.toC (flatE ks bs))) := by
  refine same_flat ks _ _ (by simpa using congrArg List.length h) (fun i a b ha hb => ?_)
  have := congrArg (fun l => l[i]?) h
  simp only [List.getElem?_map, ha, hb, Option.map_some, Option.some.injEq] at this
  exact this

theorem tup_same {env env' : Env} {a b : C} {x y : E} (h1 : a.same env env' b) (h2 : x.tt env = y.tt env') : (C.tup (.toC [a, .bool x])).same env env' (.tup (.toC [b, .bool y])) := ⟨h1, h2, trivial⟩

/-! ### Write -/

noncomputable def wAns (nrm : E → E) (ps : List E) (n v : E) : C := .tup (.toC [.agg (.toC (flatE cpuKs (wCells nrm ps n v))), .bool (nrm (.app 204 (lE [elE ps 33, n])))])

noncomputable def sgW (nrm : E → E) (f : FuncId) (vs : List C) : Option C :=
  if Nat.beq f 75 || Nat.beq f 76 then match parseA wSh vs with
    | some es => some (wAns nrm (opsE nrm cpuOs (takeL es 82)) (elE es 82) (elE es 83))
    | none => none
  else none

theorem f204 {env : Env} (hF : EnvF Phi env) (l : List Int) : env.f 204 l = b2i (writeOk (cAt l 0) (cAt l 1)) := hF.1 204 l (by decide)
theorem f200 {env : Env} (hF : EnvF Phi env) (l : List Int) : env.f 200 l = readF (cAt l 0) (cAt l 1) (cAt l 2) (cAt l 3) (l.drop 4) := hF.1 200 l (by decide)
theorem f201 {env : Env} (hF : EnvF Phi env) (l : List Int) : env.f 201 l = b2i (readOk (cAt l 0) (cAt l 1) (cAt l 2)) := hF.1 201 l (by decide)

theorem b2i_tt (b : Bool) : decide (b2i b ≠ 0) = b := by cases b <;> rfl
theorem litb_tt (env : Env) (b : Bool) : (E.lit (b2i b)).tt env = b := b2i_tt b

theorem parse_lenA : ∀ (sh : List Sh) (vs : List C) (es : List E), parseA sh vs = some es → es.length = (shKs sh).length := by
  intro sh
  induction sh with
  | nil => intro vs es h; cases vs with
    | nil => simp [parseA] at h; subst h; rfl
    | cons => simp [parseA] at h
  | cons s sh ih =>
    intro vs es h
    cases vs with
    | nil => cases s <;> simp [parseA] at h
    | cons c cs =>
      cases s with
      | agg ks =>
        simp only [parseA] at h
        split at h
        · split at h
          · split at h
            · rename_i es1 he1
              split at h
              · rename_i r hr
                simp only [Option.some.injEq] at h; subst h
                simp [shKs, unflat_len _ _ _ he1, ih cs r hr]
              · cases h
            · cases h
          · cases h
        · cases h
      | one k =>
        simp only [parseA] at h
        split at h
        · rename_i es1 he1
          split at h
          · rename_i r hr
            simp only [Option.some.injEq] at h; subst h
            have := unflat_len _ _ _ he1
            simp [shKs, this, ih cs r hr]; omega
          · cases h
        · cases h

theorem cpu_of {env : Env} {es : List E} {n : Nat} (hl : es.length = n) (h82 : 82 ≤ n) : cpuV (withV env (es.map (E.den env))) = (es.map (E.den env)).take 82 := by
  apply List.ext_getElem?
  intro i
  by_cases h : i < 82
  · rw [cpuV_at _ h, List.getElem?_take_of_lt h]
    show some (((es.map (E.den env))[i]?).getD 0) = _
    have : i < (es.map (E.den env)).length := by simp; omega
    rw [List.getElem?_eq_getElem this]; rfl
  · rw [List.getElem?_eq_none (by simp [cpuV]; omega), List.getElem?_eq_none (by rw [List.length_take]; omega)]

theorem ps_den {env : Env} (hF : EnvF Phi env) {nrm : E → E} (hn : ∀ e, (nrm e).den env = e.den env) {es : List E} {n : Nat} (hl : es.length = n) (h82 : 82 ≤ n) :
    (opsE nrm cpuOs (takeL es 82)).map (E.den env) = properS (withV env (es.map (E.den env))) := by
  rw [opsE_den hF hn, takeL_eq, List.map_take]
  unfold properS
  rw [cpu_of hl h82]

theorem v_of {env : Env} (es : List E) (i : Nat) : (withV env (es.map (E.den env))).v i = (elE es i).den env := by rw [elE_den]; rfl

theorem wAns_same {env env' : Env} (hF : EnvF Phi env) {nrm : E → E} (hn : ∀ e, (nrm e).den env = e.den env) {ps : List E} {n v : E} {L : List Int} (hps : ps.map (E.den env) = L) {cells : List E} {o : E}
    (hc : cells.map (E.den env') = writeS L (n.den env) (v.den env)) (ho : o.tt env' = writeOk (cAt L 33) (n.den env)) : (C.tup (.toC [.agg (.toC (flatE cpuKs cells)), .bool o])).same env' env (wAns nrm ps n v) := by
  refine tup_same (flat_same (by rw [hc, wCells_den hF hn, hps])) ?_
  rw [ho]
  show _ = decide ((nrm (.app 204 (lE [elE ps 33, n]))).den env ≠ 0)
  rw [hn, app_den, f204 hF]
  simp only [List.map_cons, List.map_nil, elE_den, hps]
  exact (b2i_tt _).symm

set_option maxRecDepth 100000 in
theorem eqsR_ok {env : Env} (hF : EnvF Phi env) (hv : InK .u64 (env.v 83)) : ∀ p ∈ eqsR, p.1.den env = p.2.den env := by
  have hmpp : mppRE.tt env = mppIE.tt env := by
    rw [mppIE_tt]
    unfold mppRE
    rw [tt_ite, tt_lit]
    have e1 : (E.bin .eql .u64 twoE (.lit 1)).tt env = decide (binDen .and .u64 (binDen .shr .u64 (env.v 83) 11) 3 = 1) := b2i_eq _ _
    have e2 : (E.bin .eql .u64 twoE (.lit 2)).tt env = decide (binDen .and .u64 (binDen .shr .u64 (env.v 83) 11) 3 = 2) := b2i_eq _ _
    rw [e1, e2]
    obtain ⟨x, hx⟩ : ∃ x : Nat, env.v 83 = (x : Int) := ⟨(env.v 83).toNat, by have := hv.1; simp [IntKind.min, IntKind.signed] at this; omega⟩
    have hx64 : x < 2 ^ 64 := by have := hv.2; rw [hx] at this; simp [IntKind.max, IntKind.signed, IntKind.bits] at this; omega
    have h1 : binDen .and .u64 (binDen .shr .u64 (env.v 83) 11) 3 = ((x >>> 11 &&& 3 : Nat) : Int) := by
      rw [hx, show (11 : Int) = ((11 : Nat) : Int) from rfl, shr_nat (by decide), and_u64, BitVec.toNat_and]
      have hlt : x >>> 11 < 2 ^ 64 := Nat.lt_of_le_of_lt (Nat.shiftRight_le x 11) hx64
      have a1 : (BitVec.ofInt 64 ((x >>> 11 : Nat) : Int)).toNat = x >>> 11 := by rw [BitVec.toNat_ofInt]; omega
      rw [a1]; rfl
    have h2 : binDen .and .u64 (env.v 83) 6144 = ((x &&& 6144 : Nat) : Int) := by
      rw [hx, and_u64, BitVec.toNat_and]
      have a1 : (BitVec.ofInt 64 (x : Int)).toNat = x := by rw [BitVec.toNat_ofInt]; omega
      rw [a1]; rfl
    have h3 : x &&& 6144 = (x >>> 11 &&& 3) * 2048 := by
      have e : (x >>> 11 &&& 3) * 2048 = (x >>> 11 &&& 3) <<< 11 := by rw [Nat.shiftLeft_eq]
      rw [e]
      apply Nat.eq_of_testBit_eq
      intro i
      rw [Nat.testBit_shiftLeft, Nat.testBit_and, Nat.testBit_and, Nat.testBit_shiftRight]
      by_cases hi : 11 ≤ i
      · rw [show 11 + (i - 11) = i by omega]
        have : Nat.testBit 6144 i = Nat.testBit 3 (i - 11) := by
          rw [show 6144 = 3 <<< 11 from rfl, Nat.testBit_shiftLeft]; simp [hi]
        rw [this]; simp [hi]
      · have : Nat.testBit 6144 i = false := by
          rw [show 6144 = 3 <<< 11 from rfl, Nat.testBit_shiftLeft]; simp [hi]
        rw [this]; simp [hi]
    have h4 : x >>> 11 &&& 3 < 4 := Nat.lt_of_le_of_lt Nat.and_le_right (by decide)
    rw [h1, h2, h3]
    generalize x >>> 11 &&& 3 = q at h4
    have : q = 0 ∨ q = 1 ∨ q = 2 ∨ q = 3 := by omega
    rcases this with rfl | rfl | rfl | rfl <;> rfl
  intro p hp
  unfold eqsR at hp
  rcases List.mem_cons.1 hp with rfl | hp
  · rw [mstE_den hF hmpp, mstE_den hF rfl]
  · obtain ⟨i, hi, rfl⟩ := List.mem_map.1 hp
    have hi : i < 15 := by simpa using hi
    show (adrE heldRE i).den env = (adrE heldIE i).den env
    rw [adrE_den (fun _ => heldRE_tt env i) (by omega), adrE_den (fun _ => rfl) (by omega)]

theorem runW_sat {env : Env} {b : Bool} {S : Int → Bool} {G : C × List Blk → Prop} (h : runW b S = true) (hf : ∀ j t, (existsF j && (!S j || leafIs (wantW b j) t)) = true → env.v 82 = j → t.sat env G)
    (hg : ∀ ex (r : C × List Blk), (hasAll ex && r.1.beq (wantN b)) = true → (∀ j ∈ ex, env.v 82 ≠ j) → G r) : SatW env G (evFn (keyK (modeQ b) (fun f => Nat.beq f 75) (fun _ => false)) 1000 75 (varsA wSh 0) []) := by
  unfold runW at h
  generalize evFn (keyK (modeQ b) (fun f => Nat.beq f 75) (fun _ => false)) 1000 75 (varsA wSh 0) [] = t at h ⊢
  exact ⟨keyT_sat hf hg h (by simp)⟩

set_option maxRecDepth 100000 in
theorem runWR_sat {env : Env} {b : Bool} {k : Int} (h : runWR b k = true) : SatW env (fun r => r.1 = wantW b k) (evFn (keyK (modeQ b ++ eqsR) (fun _ => false) (fun f => Nat.beq f 76)) 1000 76 ((varsA wSh 0).map (C.fix (.var 82) k)) []) := by
  unfold runWR at h
  generalize evFn (keyK (modeQ b ++ eqsR) (fun _ => false) (fun f => Nat.beq f 76)) 1000 76 ((varsA wSh 0).map (C.fix (.var 82) k)) [] = t at h ⊢
  exact ⟨leafIs_sat h⟩

set_option maxRecDepth 100000 in
theorem runWN_sat {env : Env} {b : Bool} (h : runWN b = true) : SatW env (fun r => r.1 = wantN b) (evFn (noneK (noneQ 82 b)) 1000 76 (varsA wSh 0) []) := by
  unfold runWN at h
  generalize evFn (noneK (noneQ 82 b)) 1000 76 (varsA wSh 0) [] = t at h ⊢
  exact ⟨leafIs_sat h⟩

theorem kW : (shKs wSh)[83]? = some (some .u64) := by kernel_rfl

set_option maxRecDepth 100000 in
theorem sgW_ok {env : Env} (hF : EnvF Phi env) {nrm : E → E} (hn : ∀ e, (nrm e).den env = e.den env) : SgF env Try.prog (sgW nrm) := by
  intro f vs v hv ρ xs w hr
  unfold sgW at hv
  split at hv
  · rename_i hf
    simp only [Bool.or_eq_true] at hf
    split at hv
    · rename_i es hes
      simp only [Option.some.injEq] at hv; subst hv
      refine sum_by hF hes hr w (fun env' henv hF' hV => ?_)
      have hlen : es.length = 84 := parse_lenA _ _ _ hes
      have hps := ps_den hF hn hlen (by decide)
      rw [← henv] at hps
      have hn82 : (elE es 82).den env = env'.v 82 := by rw [henv, v_of]
      have hv83 : (elE es 83).den env = env'.v 83 := by rw [henv, v_of]
      obtain ⟨b, hmq, hm⟩ := mode_cases env'
      have key : ∀ r : C × List Blk, r.1 = wantW b (env'.v 82) → r.1.same env' env (wAns nrm (opsE nrm cpuOs (takeL es 82)) (elE es 82) (elE es 83)) := fun r hr => by
        rw [hr]
        refine wAns_same hF hn hps (by rw [hn82, hv83]; exact cellsW_den hF' hm _) ?_
        rw [litb_tt, hn82, mode_at, hm]
      have none : existsF (env'.v 82) = false → ∀ r : C × List Blk, r.1 = wantN b → r.1.same env' env (wAns nrm (opsE nrm cpuOs (takeL es 82)) (elE es 82) (elE es 83)) := fun hx r hr => by
        rw [hr]
        refine wAns_same hF hn hps (by rw [hn82, hv83]; exact cellsN_den hF' hm hx) ?_
        rw [hn82]
        unfold writeOk
        rw [hx]; simp [tt_lit, intBeq_eq]
      rcases hf with hf | hf
      · rw [Nat.eq_of_beq_eq_true hf]
        obtain ⟨S, hS, hrun⟩ : ∃ S : Int → Bool, (existsF (env'.v 82) = true → S (env'.v 82) = true) ∧ runW b S = true := by
          cases b with
          | true => exact runW_m _
          | false => exact ⟨_, fun _ => rfl, runW_u⟩
        obtain ⟨k1, k2⟩ := keyOk hF' hmq (fun f => Nat.beq f 75) (fun _ => false) w
        refine ⟨keyK (modeQ b) (fun f => Nat.beq f 75) (fun _ => false), 1000, varsA wSh 0, rfl, k1, k2, fun _ h => h, runW_sat hrun (fun j t hj hp => ?_) (fun ex r hg hne => ?_)⟩
        · subst hp
          simp only [Bool.and_eq_true, Bool.or_eq_true, Bool.not_eq_true'] at hj
          rcases hj.2 with h | h
          · rw [hS hj.1] at h; cases h
          · exact sat_mono key (leafIs_sat h)
        · simp only [Bool.and_eq_true] at hg
          exact none (hasAll_no hg.1 hne) r (C.beq_eq hg.2)
      · rw [Nat.eq_of_beq_eq_true hf]
        cases hx : existsF (env'.v 82) with
        | true =>
          have hrun : runWR b (env'.v 82) = true := by
            cases b with
            | true => exact List.all_eq_true.1 runWR_m _ ((exists_iff _).1 hx)
            | false => exact List.all_eq_true.1 runWR_u _ ((exists_iff _).1 hx)
          have h83 : InK .u64 (env'.v 83) := by have := hV 83 .u64 kW; rwa [Nat.zero_add] at this
          obtain ⟨k1, k2⟩ := keyOk hF' (isE2_app hmq (eqsR_ok hF' h83)) (fun _ => false) (fun f => Nat.beq f 76) w
          exact ⟨keyK (modeQ b ++ eqsR) (fun _ => false) (fun f => Nat.beq f 76), 1000, (varsA wSh 0).map (C.fix (.var 82) (env'.v 82)), rfl, k1, k2, fun xs h => fix_rels (p := .var 82) rfl h, (runWR_sat hrun).mono key⟩
        | false =>
          have hrun : runWN b = true := by
            cases b with
            | true => exact runWN_m
            | false => exact runWN_u
          have hq : ∀ p ∈ noneQ 82 b, p.1.den env' = p.2.den env' := fun p hp => by
            rcases List.mem_cons.1 hp with rfl | hp
            · show env'.f 203 [env'.v 82] = 0
              rw [f203 hF']
              show b2i (existsF (env'.v 82)) = 0
              rw [hx]; rfl
            · exact hmq p hp
          obtain ⟨k1, k2⟩ := noneOk hF' hq w
          exact ⟨noneK (noneQ 82 b), 1000, varsA wSh 0, rfl, k1, k2, fun _ h => h, (runWN_sat hrun).mono (none hx)⟩
    · cases hv
  · cases hv

/-! ### Read -/

theorem orL_den {env : Env} (xs : List E) (o : Nat) : ∀ k, (orL xs o k).den env = cfgV (xs.map (E.den env)) o k := by
  intro k
  induction k with
  | zero => rfl
  | succ k ih =>
    show binDen .or .u64 ((orL xs o k).den env) (binDen .shl .u64 (IntKind.u64.wrap ((elE xs (o + k)).den env)) _) = _
    rw [ih, elE_den]; rfl

theorem cAt_take {l : List Int} {i : Nat} (h : i < 44) : cAt (l.take 44) i = cAt l i := by
  unfold cAt; rw [List.getElem?_take_of_lt h]

theorem cfgV_take (l : List Int) (o : Nat) : ∀ k, o + k ≤ 44 → cfgV (l.take 44) o k = cfgV l o k := by
  intro k
  induction k with
  | zero => intro _; rfl
  | succ k ih =>
    intro h
    show binDen .or .u64 (cfgV (l.take 44) o k) (binDen .shl .u64 (IntKind.u64.wrap (cAt (l.take 44) (o + k))) _) = _
    rw [ih (by omega), cAt_take (by omega)]; rfl

theorem toldF_take (l : List Int) (mip time n : Int) : toldF (l.take 44) mip time n = toldF l mip time n := by
  unfold toldF
  rw [cfgV_take l 12 8 (by decide), cfgV_take l 20 8 (by decide)]
  split
  · rfl
  split
  · rfl
  split
  · rfl
  split
  · rfl
  split
  · rfl
  split
  · rfl
  split
  · rename_i h; rw [cAt_take h]
  · rfl

theorem toldE_den {env : Env} (xs : List E) (mip time : E) (k : Int) : (toldE xs mip time k).den env = toldF (xs.map (E.den env)) (mip.den env) (time.den env) k := by
  have blt : ∀ m n : Nat, Nat.blt m n = decide (m < n) := fun m n => by
    rw [Bool.eq_iff_iff, decide_eq_true_eq]
    exact ⟨fun h => Nat.le_of_ble_eq_true h, fun h => Nat.ble_eq_true_of_le h⟩
  unfold toldE toldF
  simp only [intBeq_eq, blt, decide_eq_true_eq]
  split
  · rfl
  split
  · rfl
  split
  · rfl
  split
  · rfl
  split
  · exact orL_den xs 12 8
  split
  · exact orL_den xs 20 8
  split
  · exact elE_den env xs _
  · rfl

noncomputable def rAns (nrm : E → E) (ps : List E) (mip time n : E) : C :=
  match elE ps 33 with
  | .lit m => if intBeq m 3 then match n with
      | .lit k => if existsF k then pairR (toldE (dropL ps 35) mip time k) (.lit 1) else pairR (.lit 0) (.lit 0)
      | n => pairR (nrm (.app 200 (lE (.lit 3 :: n :: mip :: time :: takeL (dropL ps 35) 44)))) (nrm (.app 203 (lE [n])))
    else pairR (nrm (.app 200 (lE (.lit m :: n :: mip :: time :: takeL (dropL ps 35) 44)))) (nrm (.app 201 (lE [.lit m, n, elE ps 38])))
  | m => pairR (nrm (.app 200 (lE (m :: n :: mip :: time :: takeL (dropL ps 35) 44)))) (nrm (.app 201 (lE [m, n, elE ps 38])))

noncomputable def sgR (nrm : E → E) (f : FuncId) (vs : List C) : Option C :=
  if Nat.beq f 77 || Nat.beq f 78 then match parseA rSh vs with
    | some es => some (rAns nrm (opsE nrm cpuOs (takeL es 82)) (elE es 82) (elE es 83) (elE es 84))
    | none => none
  else none

theorem and3_le (y : Int) : binDen .and .i64 y 3 ≤ 3 := by
  show IntKind.i64.wrap (BitVec.ofInt 64 y &&& BitVec.ofInt 64 3).toNat ≤ 3
  have h : (BitVec.ofInt 64 y &&& BitVec.ofInt 64 3).toNat ≤ 3 := by rw [BitVec.toNat_and]; exact Nat.and_le_right
  generalize (BitVec.ofInt 64 y &&& BitVec.ofInt 64 3).toNat = q at h
  have : q = 0 ∨ q = 1 ∨ q = 2 ∨ q = 3 := by omega
  rcases this with rfl | rfl | rfl | rfl <;> decide

theorem readOk_m (n x : Int) : readOk 3 n x = existsF n := by
  unfold readOk
  have : ¬ (3 : Int) < lvlF n := by have := and3_le (binDen .shr .i64 n 8); unfold lvlF; omega
  simp [this]

theorem lvl_all : allKeys.all (fun k => inF k 0xc00 0xc1f || decide (0 < lvlF k)) = true := by decide +kernel
theorem lvl_low : allKeys.all (fun k => !inF k 0xc00 0xc1f || decide (lvlF k = 0)) = true := by decide +kernel

theorem readOk_u (n x : Int) : readOk 0 n x = (existsF n && (inF n 0xc00 0xc1f && !decide (binDen .and .u64 (binDen .shr .u64 x (n - 0xc00)) 1 = 0))) := by
  unfold readOk
  cases hx : existsF n with
  | false => rfl
  | true =>
    have h1 := List.all_eq_true.1 lvl_all n ((exists_iff n).1 hx)
    have h2 := List.all_eq_true.1 lvl_low n ((exists_iff n).1 hx)
    cases hi : inF n 0xc00 0xc1f with
    | true =>
      simp only [hi, Bool.not_true, Bool.false_or, decide_eq_true_eq] at h2
      simp [h2]
    | false =>
      simp only [hi, Bool.false_or, decide_eq_true_eq] at h1
      simp [h1]

/-- What Read answers, on numbers. -/
theorem rAns_same {env env' : Env} (hF : EnvF Phi env) {nrm : E → E} (hn : ∀ e, (nrm e).den env = e.den env) {ps : List E} {mip time n : E} {L : List Int} (hps : ps.map (E.den env) = L) {v o : E}
    (hv : v.den env' = readF (cAt L 33) (n.den env) (mip.den env) (time.den env) (L.drop 35)) (ho : o.tt env' = readOk (cAt L 33) (n.den env) (cAt L 38)) : (pairR v o).same env' env (rAns nrm ps mip time n) := by
  have h38 : cAt (L.drop 35) 3 = cAt L 38 := by unfold cAt; rw [List.getElem?_drop]
  have h33 : (elE ps 33).den env = cAt L 33 := by rw [elE_den, hps]
  have key : ∀ {a b : E}, a.den env = v.den env' → b.tt env = o.tt env' → (pairR v o).same env' env (pairR a b) := fun h1 h2 => ⟨⟨rfl, h1.symm⟩, h2.symm, trivial⟩
  have hval : ∀ m : E, m.den env = cAt L 33 → (nrm (.app 200 (lE (m :: n :: mip :: time :: takeL (dropL ps 35) 44)))).den env = v.den env' := fun m hm => by
    rw [hn, app_den, f200 hF, hv]
    show readF (m.den env) (n.den env) (mip.den env) (time.den env) ((takeL (dropL ps 35) 44).map (E.den env)) = _
    rw [hm, takeL_eq, dropL_eq, List.map_take, List.map_drop, hps]
    unfold readF
    rw [cAt_take (by decide), toldF_take]
  have hok : ∀ m : E, m.den env = cAt L 33 → (nrm (.app 201 (lE [m, n, elE ps 38]))).tt env = o.tt env' := fun m hm => by
    rw [ho]
    show decide ((nrm (.app 201 (lE [m, n, elE ps 38]))).den env ≠ 0) = _
    rw [hn, app_den, f201 hF]
    simp only [List.map_cons, List.map_nil, elE_den, hps]
    show decide (b2i (readOk (m.den env) (n.den env) (cAt L 38)) ≠ 0) = _
    rw [hm, b2i_tt]
  unfold rAns
  split
  · rename_i m hm
    rw [hm, den_lit] at h33
    split
    · rename_i h3
      have h3 := intBeq_iff.1 h3
      subst h3
      rw [← h33] at hv ho
      rw [readOk_m] at ho
      split
      · rename_i k
        simp only [den_lit] at hv ho
        unfold readF at hv
        rw [readOk_m] at hv
        cases hx : existsF k with
        | true =>
          rw [hx] at hv ho
          rw [if_pos rfl] at hv
          simp only [if_true]
          refine key ?_ (by rw [ho]; rfl)
          rw [hv, toldE_den, dropL_eq, List.map_drop, hps]
        | false =>
          rw [hx] at hv ho
          simp only [Bool.false_eq_true, if_false] at hv ⊢
          exact key (by rw [hv]; rfl) (by rw [ho]; rfl)
      · refine key (hval _ (by rw [den_lit]; exact h33)) ?_
        rw [ho]
        show decide ((nrm (.app 203 (lE [n]))).den env ≠ 0) = _
        rw [hn, app_den, f203 hF]
        exact b2i_tt _
    · exact key (hval _ (by rw [den_lit]; exact h33)) (hok _ (by rw [den_lit]; exact h33))
  · exact key (hval _ h33) (hok _ h33)

/-- The runs' pairs, on numbers. -/
theorem wantR_sat {env env' : Env} (hF' : EnvF Phi env') {b : Bool} (hm : modeF (env'.v 33) = if b then 3 else 0) {ans : C} {k : Int} (hx : existsF k = true)
    (hk : ∀ v o : E, v.den env' = readF (cAt (properS env') 33) k (env'.v 82) (env'.v 83) ((properS env').drop 35) → o.tt env' = readOk (cAt (properS env') 33) k (cAt (properS env') 38) → (pairR v o).same env' env ans)
    {t : T (C × List Blk)} (h : wantR b k t = true) : t.sat env' fun r => r.1.same env' env ans := by
  have hp := properE_den hF' hm
  have h33 := mode_at env'
  rw [hm] at h33
  have h38 : cAt ((properS env').drop 35) 3 = cAt (properS env') 38 := by unfold cAt; rw [List.getElem?_drop]
  have ht : (toldV b k).den env' = toldF ((properS env').drop 35) (env'.v 82) (env'.v 83) k := by
    unfold toldV
    rw [toldE_den, dropL_eq, List.map_drop, hp]; rfl
  cases b with
  | true =>
    unfold wantR at h
    refine sat_mono (fun r hr => ?_) (leafIs_sat h)
    rw [hr]
    have h33 : cAt (properS env') 33 = 3 := h33
    refine hk _ _ ?_ ?_
    · unfold readF
      rw [h33, readOk_m, hx, ht]; rfl
    · rw [h33, readOk_m, hx]; rfl
  | false =>
    have h33 : cAt (properS env') 33 = 0 := h33
    unfold wantR at h
    simp only [Bool.false_eq_true, if_false] at h
    have hbit : (bitT k).tt env' = decide (binDen .and .u64 (binDen .shr .u64 (cAt (properS env') 38) (k - 0xc00)) 1 = 0) := by
      unfold bitT
      show decide (b2i (binDen .and .u64 (binDen .shr .u64 ((elE (properE false) 38).den env') (k - 0xc00)) 1 == 0) ≠ 0) = _
      rw [elE_den, hp]
      exact b2i_eq _ _
    cases hi : inF k 0xc00 0xc1f with
    | false =>
      rw [hi] at h
      simp only [Bool.false_eq_true, if_false] at h
      refine sat_mono (fun r hr => ?_) (leafIs_sat h)
      rw [hr]
      have hno : readOk 0 k (cAt (properS env') 38) = false := by rw [readOk_u, hi]; simp
      refine hk _ _ ?_ ?_
      · unfold readF; rw [h33, h38, hno]; rfl
      · rw [h33, hno]; rfl
    | true =>
      rw [hi] at h
      simp only [if_true] at h
      have hok : readOk 0 k (cAt (properS env') 38) = !(bitT k).tt env' := by rw [readOk_u, hi, hx, hbit]; rfl
      split at h
      · rename_i c x y
        simp only [Bool.and_eq_true] at h
        obtain ⟨hc, hl, hr⟩ := h
        have hc := E.beq_eq hc
        subst hc
        refine ⟨fun hb => ?_, fun hb => ?_⟩
        · refine sat_mono (fun r hr => ?_) (leafIs_sat hl)
          rw [hr]
          rw [hb] at hok
          refine hk _ _ ?_ ?_
          · unfold readF; rw [h33, h38, hok]; rfl
          · rw [h33, hok]; rfl
        · refine sat_mono (fun r hr => ?_) (leafIs_sat hr)
          rw [hr]
          rw [hb] at hok
          refine hk _ _ ?_ ?_
          · unfold readF; rw [h33, h38, hok, ht]; rfl
          · rw [h33, hok]; rfl
      · rename_i r
        have hr := C.beq_eq h
        show r.1.same env' env ans
        rw [hr]
        refine hk _ _ ?_ ?_
        · rw [mkIte_den, ht]
          unfold readF
          rw [h33, h38, hok]
          cases (bitT k).tt env' <;> rfl
        · rw [h33, hok]
          show (E.bin .eql .i64 (bitT k) (.lit 0)).tt env' = _
          exact unNot_tt rfl
      · cases h

theorem runR_sat {env : Env} {b : Bool} {S : Int → Bool} {G : C × List Blk → Prop} (h : runR b S = true) (hf : ∀ j t, (existsF j && (!S j || wantR b j t)) = true → env.v 84 = j → t.sat env G)
    (hg : ∀ ex (r : C × List Blk), (hasAll ex && r.1.beq (pairR (.lit 0) (.lit 0))) = true → (∀ j ∈ ex, env.v 84 ≠ j) → G r) : SatW env G (evFn (keyK (modeQ b) (fun f => Nat.beq f 77) (fun _ => false)) 1000 77 (varsA rSh 0) []) := by
  unfold runR at h
  generalize evFn (keyK (modeQ b) (fun f => Nat.beq f 77) (fun _ => false)) 1000 77 (varsA rSh 0) [] = t at h ⊢
  exact ⟨keyT_sat hf hg h (by simp)⟩

set_option maxRecDepth 100000 in
theorem runRR_sat {env : Env} {b : Bool} {k : Int} {G : C × List Blk → Prop} (h : runRR b k = true) (hf : ∀ t, wantR b k t = true → t.sat env G) : SatW env G (evFn (keyK (modeQ b ++ eqsC2) (fun _ => false) (fun _ => false)) 1000 78 ((varsA rSh 0).map (C.fix (.var 84) k)) []) := by
  unfold runRR at h
  generalize evFn (keyK (modeQ b ++ eqsC2) (fun _ => false) (fun _ => false)) 1000 78 ((varsA rSh 0).map (C.fix (.var 84) k)) [] = t at h ⊢
  exact ⟨hf t h⟩

set_option maxRecDepth 100000 in
theorem runRN_sat {env : Env} {b : Bool} (h : runRN b = true) : SatW env (fun r => r.1 = pairR (.lit 0) (.lit 0)) (evFn (noneK (noneQ 84 b)) 1000 78 (varsA rSh 0) []) := by
  unfold runRN at h
  generalize evFn (noneK (noneQ 84 b)) 1000 78 (varsA rSh 0) [] = t at h ⊢
  exact ⟨leafIs_sat h⟩

theorem eqsC2_ok {env : Env} (hF : EnvF Phi env) : ∀ p ∈ eqsC2, p.1.den env = p.2.den env := by
  intro p hp
  simp only [eqsC2, List.mem_cons, List.not_mem_nil, or_false] at hp
  rcases hp with rfl | rfl
  · exact cfg_eq hF 47
  · exact cfg_eq hF 55

set_option maxRecDepth 100000 in
theorem sgR_ok {env : Env} (hF : EnvF Phi env) {nrm : E → E} (hn : ∀ e, (nrm e).den env = e.den env) : SgF env Try.prog (sgR nrm) := by
  intro f vs v hv ρ xs w hr
  unfold sgR at hv
  split at hv
  · rename_i hf
    simp only [Bool.or_eq_true] at hf
    split at hv
    · rename_i es hes
      simp only [Option.some.injEq] at hv; subst hv
      refine sum_by hF hes hr w (fun env' henv hF' hV => ?_)
      have hlen : es.length = 85 := parse_lenA _ _ _ hes
      have hps := ps_den hF hn hlen (by decide)
      rw [← henv] at hps
      have h82 : (elE es 82).den env = env'.v 82 := by rw [henv, v_of]
      have h83 : (elE es 83).den env = env'.v 83 := by rw [henv, v_of]
      have h84 : (elE es 84).den env = env'.v 84 := by rw [henv, v_of]
      obtain ⟨b, hmq, hm⟩ := mode_cases env'
      have key : ∀ v o : E, v.den env' = readF (cAt (properS env') 33) (env'.v 84) (env'.v 82) (env'.v 83) ((properS env').drop 35) → o.tt env' = readOk (cAt (properS env') 33) (env'.v 84) (cAt (properS env') 38) →
          (pairR v o).same env' env (rAns nrm (opsE nrm cpuOs (takeL es 82)) (elE es 82) (elE es 83) (elE es 84)) := fun v o hv ho =>
        rAns_same hF hn hps (by rw [h82, h83, h84]; exact hv) (by rw [h84]; exact ho)
      have none : existsF (env'.v 84) = false → ∀ r : C × List Blk, r.1 = pairR (.lit 0) (.lit 0) → r.1.same env' env (rAns nrm (opsE nrm cpuOs (takeL es 82)) (elE es 82) (elE es 83) (elE es 84)) := fun hx r hr => by
        rw [hr]
        have hno : ∀ m x, readOk m (env'.v 84) x = false := fun m x => by unfold readOk; rw [hx]; rfl
        refine key _ _ ?_ (by rw [hno]; rfl)
        unfold readF; rw [hno]; rfl
      rcases hf with hf | hf
      · rw [Nat.eq_of_beq_eq_true hf]
        obtain ⟨S, hS, hrun⟩ : ∃ S : Int → Bool, S (env'.v 84) = true ∧ runR b S = true := by
          cases b with
          | true => exact runR_m _
          | false => exact ⟨fun _ => true, rfl, runR_u⟩
        obtain ⟨k1, k2⟩ := keyOk hF' hmq (fun f => Nat.beq f 77) (fun _ => false) w
        refine ⟨keyK (modeQ b) (fun f => Nat.beq f 77) (fun _ => false), 1000, varsA rSh 0, rfl, k1, k2, fun _ h => h, runR_sat hrun (fun j t hj hp => ?_) (fun ex r hg hne => ?_)⟩
        · subst hp
          simp only [Bool.and_eq_true, Bool.or_eq_true, Bool.not_eq_true'] at hj
          rcases hj.2 with h | h
          · rw [hS] at h; cases h
          · exact wantR_sat hF' hm hj.1 key h
        · simp only [Bool.and_eq_true] at hg
          exact none (hasAll_no hg.1 hne) r (C.beq_eq hg.2)
      · rw [Nat.eq_of_beq_eq_true hf]
        cases hx : existsF (env'.v 84) with
        | true =>
          have hrun : runRR b (env'.v 84) = true := by
            cases b with
            | true => exact List.all_eq_true.1 runRR_m _ ((exists_iff _).1 hx)
            | false => exact List.all_eq_true.1 runRR_u _ ((exists_iff _).1 hx)
          obtain ⟨k1, k2⟩ := keyOk hF' (isE2_app hmq (eqsC2_ok hF')) (fun _ => false) (fun _ => false) w
          exact ⟨keyK (modeQ b ++ eqsC2) (fun _ => false) (fun _ => false), 1000, (varsA rSh 0).map (C.fix (.var 84) (env'.v 84)), rfl, k1, k2, fun xs h => fix_rels (p := .var 84) rfl h, runRR_sat hrun (fun t h => wantR_sat hF' hm hx key h)⟩
        | false =>
          have hrun : runRN b = true := by
            cases b with
            | true => exact runRN_m
            | false => exact runRN_u
          have hq : ∀ p ∈ noneQ 84 b, p.1.den env' = p.2.den env' := fun p hp => by
            rcases List.mem_cons.1 hp with rfl | hp
            · show env'.f 203 [env'.v 84] = 0
              rw [f203 hF']
              show b2i (existsF (env'.v 84)) = 0
              rw [hx]; rfl
            · exact hmq p hp
          obtain ⟨k1, k2⟩ := noneOk hF' hq w
          exact ⟨noneK (noneQ 84 b), 1000, varsA rSh 0, rfl, k1, k2, fun _ h => h, (runRN_sat hrun).mono (none hx)⟩
    · cases hv
  · cases hv

/-! ### All summaries -/

noncomputable def sgX (nrm : E → E) : FuncId → List C → Option C := sgOr (sgW nrm) (sgOr (sgR nrm) (sgOr (sgE nrm) (sgAll nrm)))
theorem sgX_ok {env : Env} (hF : EnvF Phi env) {nrm : E → E} (hn : ∀ e, (nrm e).den env = e.den env) : SgF env Try.prog (sgX nrm) := (sgW_ok hF hn).or ((sgR_ok hF hn).or ((sgE_ok hF hn).or (sgAll_ok hF hn)))

/-- A law's run. -/
noncomputable def lawX (osz : Nat → Option (List (Option IntKind))) (eqs : List (E × E)) (sp : FuncId → Bool) : Ctx :=
  { P := Try.prog, sg := sgX (nrmC eqs), sp := sp, osz := osz, nrm := nrmC eqs, nf := fun _ => false, fr := fun _ => true }

theorem case_lawX {f : FuncId} {kds : List Kd} {cs : List C} {env : Env} (hF : EnvF Phi env) (n : Nat) (eqs : List (E × E)) (sp : FuncId → Bool) (he : ∀ p ∈ eqs, p.1.den env = p.2.den env)
    (h : isTrue (evFn (lawX (oszOf kds) eqs sp) n f cs []) = true) : Case Try.prog f kds cs env := by
  have hs : SgF env (lawX (oszOf kds) eqs sp).P (lawX (oszOf kds) eqs sp).sg := sgX_ok hF (nrmC_den hF he)
  exact case_of (lawX (oszOf kds) eqs sp) n rfl rfl (nrmC_den hF he) hs h

end Go.Proofs.Ytibfaifjnifgjaa
