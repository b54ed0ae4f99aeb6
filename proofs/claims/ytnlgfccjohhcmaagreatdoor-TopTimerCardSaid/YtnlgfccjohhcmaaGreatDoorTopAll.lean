/-
  TopTimer returns true, whatever comes in. No condition but those in the statements.
-/
import Derived.Test.YtnlgfccjohhcmaaGreatDoorTopLaw
namespace Go.Top
open Go.Sx Go.RowKit Go.Proofs

theorem hargs : argsC P [24] 0 = some (cs0, kds) := by kernel_rfl
theorem fn3_eq : fn3 = Tryz.f3 := by unfold fn3; rw [Tryz.func3]
theorem hf3 : P.funcs[3]? = some fn3 := by rw [fn3_eq]; exact Tryz.func3
theorem hb3 : fn3.body = some code3 := by kernel_rfl
theorem hfoc3 : focus code3 [] = some (foc3.1, foc3.2) := by kernel_rfl
theorem hbase : kds.length ≤ 4 := by decide
theorem hfit : slFit kds = true := by decide
theorem hcl0 : patClean (pat 0) = true := by kernel_rfl
theorem hcl1 : patClean (pat 1) = true := by kernel_rfl
theorem hcl2 : patClean (pat 2) = true := by kernel_rfl
theorem hcl3 : patClean (pat 3) = true := by kernel_rfl
theorem hcl4 : patClean (pat 4) = true := by kernel_rfl
theorem hcl5 : patClean (pat 5) = true := by kernel_rfl
theorem hcl (i : Nat) : patClean (pat i) = true :=
  match i with
  | 0 => hcl0
  | 1 => hcl1
  | 2 => hcl2
  | 3 => hcl3
  | 4 => hcl4
  | _ + 5 => hcl5

theorem ctxOk {env : Env} {eqs : List (E × E)} {m : Memo} {mh : List MemoH} (he : Eqs env eqs) (h : SgOk env (ctx eqs m mh)) : CtxOk P (oszOf kds) env (ctx eqs m mh) :=
  ⟨rfl, osT_eq, nrm_ok he m mh, h⟩

abbrev Φ : Nat → List Int → Int := fun _ _ => 0

theorem exit_def (i : Nat) (b : Bool) (h : exit i b = true) : runEnd P (ctxX b) 1000 3 fn3 foc3.1 (evCode (ctxX b) 1000 3 foc3.2 (pat i)) = true := by
  unfold exit at h; exact h
theorem round_def (i c : Nat) (h : round i c = true) : runTo 4 (pat (nx i c)) (sgR i c) (inBounds 6 3) (evCode (ctxR i c) 1000 3 foc3.2 (pat i)) = true := by
  unfold round at h; exact h
theorem start_def (i : Nat) (h : start i = true) : runStart 4 (pat i) sg0 (evTo ctx0 1000 3 code3 [] ⟨Ts.start (csI i) fn3.ntmps, []⟩) = true := by
  unfold start at h; exact h

set_option maxRecDepth 100000 in
theorem exit_sat (i : Nat) (b : Bool) (env : Env) (next : St → Prop) (h : exit i b = true) : (evCode (ctxX b) 1000 3 foc3.2 (pat i)).sat env (RoundEnd P (ctxX b) 1000 3 fn3 foc3.1 env next) :=
  runEnd_sat (exit_def i b h)

set_option maxRecDepth 100000 in
set_option maxHeartbeats 1000000 in
theorem h2 (i m : Nat) (env : Env) (_hF : EnvF Φ env) (hW : WfEnv env kds) (_hP : PatIn env (pat i)) (hI : Inv i m env) : ∃ K n, CtxOk P (oszOf kds) env K ∧ (evCode K n 3 foc3.2 (pat i)).sat env (RoundEnd P K n 3 fn3 foc3.1 env (fun s => ∃ σ i' m', m' < m ∧ matchSt 4 (pat i') s = some σ ∧ Inv i' m' (updV env σ))) := by
  obtain ⟨h0, k1, k2, k3, k4, k5, k6, _⟩ := id hI
  by_cases hlen : env.v 6 < ((env.sl 3).2.1 : Int)
  · by_cases h60 : env.v 6 < 60
    · have hsome : ∃ a, (env.sl 3).1 = some a := by
        cases hs : (env.sl 3).1 with
        | none => have := _hF.2.1.1 3 hs; omega
        | some a => exact ⟨a, rfl⟩
      obtain ⟨a, ha⟩ := hsome
      have ht : env.f 1300 [env.v 6] = 0 ∨ env.f 1300 [env.v 6] = 1 := hW.2 3 [.num none, .num none, .num none, .inp] a 0 (env.v 6) rfl rfl ha (by omega) hlen
      obtain ⟨c, hc, he, hI', hm⟩ := pick hI hlen h60 ht
      obtain ⟨s9, sr⟩ := steps i c h0 hc
      refine ⟨ctxR i c, 1000, ctxOk he (sg2 he (pures i h0) s9), ?_⟩
      refine sat_mono ?_ (runTo_sat (nd := inBounds 6 3) (env := env) (inBounds_tt (by omega) hlen) (round_def i c sr))
      rintro ⟨x, s⟩ ⟨hx, hσ⟩
      have hx : x = .normal := hx
      subst hx
      exact ⟨sgR i c, nx i c, m - 1, hm, hσ, hI'⟩
    · have he : Eqs env [(E.bin .lss .i64 (.var 6) (.slen 3), E.lit 1), (E.bin .lss .i64 (.var 6) (.lit 60), E.lit 0)] := by
        intro p hp
        simp only [List.mem_cons, List.not_mem_nil, or_false] at hp
        rcases hp with rfl | rfl
        · show b2i (decide (env.v 6 < ((env.sl 3).2.1 : Int))) = 1
          rw [decide_eq_true hlen]; rfl
        · show b2i (decide (env.v 6 < 60)) = 0
          rw [decide_eq_false h60]; rfl
      have hK : ctxX true = ctx [(E.bin .lss .i64 (.var 6) (.slen 3), E.lit 1), (E.bin .lss .i64 (.var 6) (.lit 60), E.lit 0)] [] [] := rfl
      have hc := ctxOk (m := []) (mh := []) he sgk0
      rw [← hK] at hc
      exact ⟨ctxX true, 1000, hc, exit_sat i true env _ (exits i h0 true)⟩
  · have he : Eqs env [(E.bin .lss .i64 (.var 6) (.slen 3), E.lit 0)] := by
      intro p hp
      simp only [List.mem_cons, List.not_mem_nil, or_false] at hp
      subst hp
      show b2i (decide (env.v 6 < ((env.sl 3).2.1 : Int))) = 0
      rw [decide_eq_false hlen]; rfl
    have hK : ctxX false = ctx [(E.bin .lss .i64 (.var 6) (.slen 3), E.lit 0)] [] [] := rfl
    have hc := ctxOk (m := []) (mh := []) he sgk0
    rw [← hK] at hc
    exact ⟨ctxX false, 1000, hc, exit_sat i false env _ (exits i h0 false)⟩

theorem num_ok {env : Env} (h : InK .i64 (env.v 0)) : 1 ≤ numE.den env ∧ numE.den env ≤ 20 := by
  obtain ⟨a1, a2⟩ := h
  have a1 : -9223372036854775808 ≤ env.v 0 := a1
  have a2 : env.v 0 ≤ 9223372036854775807 := a2
  have h0 : 0 ≤ absE.den env := by
    unfold absE
    rw [den_ite]
    have e1 : (E.bin .lss .i64 (.var 0) (.lit 0)).tt env = decide (env.v 0 < 0) := b2i_dec _
    rw [e1]
    by_cases hn : env.v 0 < 0
    · rw [decide_eq_true hn, if_pos rfl]
      show 0 ≤ IntKind.i64.wrap (0 - IntKind.i64.wrap (env.v 0 + 1))
      rw [wrap_i64 (x := env.v 0 + 1) (by omega) (by omega), wrap_i64 (by omega) (by omega)]
      omega
    · rw [decide_eq_false hn, if_neg (by simp)]
      show 0 ≤ env.v 0
      omega
  show 1 ≤ IntKind.i64.wrap (1 + (absE.den env).tmod 20) ∧ IntKind.i64.wrap (1 + (absE.den env).tmod 20) ≤ 20
  have b1 := Int.tmod_nonneg 20 h0
  have b2 := Int.tmod_lt_of_pos (absE.den env) (show (0 : Int) < 20 by omega)
  rw [wrap_i64 (by omega) (by omega)]
  omega

set_option maxRecDepth 100000 in
theorem h1 (env : Env) (_hF : EnvF Φ env) (hW : WfEnv env kds) : ∃ K n cs', CtxOk P (oszOf kds) env K ∧ (∀ xs, Rels env [] cs0 xs → Rels env [] cs' xs) ∧ (evTo K n 3 code3 [] ⟨Ts.start cs' fn3.ntmps, []⟩).sat env (ToEnd P fn3 env (fun s => ∃ σ i m, matchSt 4 (pat i) s = some σ ∧ Inv i m (updV env σ))) := by
  have hv0 : InK .i64 (env.v 0) := (hW.1 0 (some .i64) rfl).1
  have hv1 := (hW.1 1 none rfl).2 rfl
  have hv2 := (hW.1 2 none rfl).2 rfl
  obtain ⟨i, hi, e1, e2⟩ : ∃ i, i < 4 ∧ env.v 1 = v1I i ∧ env.v 2 = v2I i := by
    rcases hv1 with a | a <;> rcases hv2 with b | b
    · exact ⟨0, by omega, a, b⟩
    · exact ⟨1, by omega, a, b⟩
    · exact ⟨2, by omega, a, b⟩
    · exact ⟨3, by omega, a, b⟩
  refine ⟨ctx0, 1000, csI i, ctxOk (eqs_nil env) sgk0, fun xs hx => fix_rels (p := .var 2) e2 (fix_rels (p := .var 1) e1 hx), ?_⟩
  refine runStart_sat (start_def i (starts i hi)) (fun s hσ => ⟨sg0, i, 60, hσ, ?_⟩)
  obtain ⟨n1, n2⟩ := num_ok hv0
  have k4 : (updV env sg0).v 4 = numE.den env := upd_of (e := numE) rfl
  have k5 : (updV env sg0).v 5 = 0 := upd_of (e := .lit 0) rfl
  have k6 : (updV env sg0).v 6 = 0 := upd_of (e := .lit 0) rfl
  have k7 : (updV env sg0).v 7 = 100 := upd_of (e := .lit 100) rfl
  have k8 : (updV env sg0).v 8 = 100 + numE.den env := by
    rw [upd_of (e := .bin .add .u64 (.lit 100) (.conv .u64 numE)) rfl]
    show IntKind.u64.wrap (100 + IntKind.u64.wrap (numE.den env)) = _
    rw [wrap_u64 (x := numE.den env) (by omega) (by omega), wrap_u64 (by omega) (by omega)]
  refine ⟨by omega, ?_, ?_, ?_, ?_, ?_, ?_, ?_, ?_, ?_, ?_, ?_⟩
  · rw [k4]; exact n1
  · rw [k4]; exact n2
  · rw [k5]; exact Int.le_refl _
  · rw [k5, k6]; exact Int.le_refl _
  · rw [k6]; omega
  · rw [k6, updV_sl]; omega
  · rw [k7, k5]; omega
  · rw [k8, k4]
  · intro _; rw [k5, k4]; omega
  · intro hh; omega
  · rw [k6]; rfl

set_option maxRecDepth 100000 in
/-- **TopTimer returns true and leaves what was there.** -/
theorem top_calls {H : Type} {enc : TypeId × Value → H} {W : World} {args : Array Value} {ds : List (DataW H)} {ps : List MemPlace} {b0 : Nat}
    (hT : DataW.TrodAll enc P W 0 (fun _ => true) true [24] args.toList ds ps) (hok : ∀ (j : Nat) t v, [24][j]? = some t → args[j]? = some v → Value.okWide P W .any b0 t v) :
    Calls P 3 args W fun e w' => e = .returned (.bool true) ∧ Below W.heap.size W w' :=
  law_loops Φ hT hok hargs hfit hf3 hb3 hfoc3 hbase hcl Inv h1 h2

end Go.Top
