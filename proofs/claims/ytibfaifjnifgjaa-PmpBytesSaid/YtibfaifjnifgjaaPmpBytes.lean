/- The law PmpBytes returns true for every input and leaves its argument as it was. No condition. -/
import Derived.Test.YtibfaifjnifgjaaRows
import Derived.Test.YtibfaifjnifgjaaSx15
import Derived.Test.YtibfaifjnifgjaaSeat
import Derived.Test.YtibfaifjnifgjaaPmpSpec
namespace Go.Proofs.Ytibfaifjnifgjaa
open Go.ChangeShapes Go.WideShapes Go.ChangeAt Go.RowKit Go.Sx
namespace PmpBytes
def kds : List Kd := List.replicate 16 (Kd.num (some .u8)) ++ List.replicate 16 (Kd.num (some .u64)) ++ [Kd.num (some .i64)] ++ [Kd.num (some .u64)] ++ [Kd.num (some .i64)] ++ [Kd.num (some .u64)] ++ List.replicate 2 (Kd.num (some .i64))
noncomputable def cs : List C := match argsC Try.prog [37] 0 with | some r => r.1 | none => []
theorem hargs : argsC Try.prog [37] 0 = some (cs, kds) := by kernel_rfl
abbrev Φ := Phi
noncomputable def c32 (m a s : E) : E := .app 32 (argV [m, a, s, .var 37])
def byA (b : Nat) : E := .bin .add .u64 (.var 35) (.lit (Int.ofNat b))
def bitB (k : Int) : E := .bin .and .i64 (.var 37) (.lit k)
noncomputable def knBit (n : Nat) (k : Int) (b : Bool) : List (E × Bool) :=
  if b then (bitB k, true) :: (List.range n).map (fun i => (.app 33 (argV [byA i, .lit k]), true)) else [(bitB k, false)]
noncomputable def kn (n : Nat) (x y z : Bool) : List (E × Bool) :=
  (c32 (.lit 0) (.var 35) (.lit (Int.ofNat n)), true) :: (c32 (.lit 3) (.var 35) (.lit (Int.ofNat n)), true) :: ((List.range n).map (fun i => (c32 (.lit 0) (byA i) (.lit 1), true)) ++ (knBit n 1 x ++ (knBit n 2 y ++ knBit n 4 z)))

noncomputable def runB (n : Nat) (x y z : Bool) : Bool := isTrueK (kn n x y z) (evFn (lawW false (oszOf kds) [] (fun _ => false)) 1000 28 (cs.map (C.fix (.var 36) (Int.ofNat n))) [])
noncomputable def runN (n : Nat) : Bool := (runB n true true true && (runB n true true false && (runB n true false true && runB n true false false))) && (runB n false true true && (runB n false true false && (runB n false false true && runB n false false false)))

theorem runN_all {n : Nat} (h : runN n = true) : ∀ x y z, runB n x y z = true := by
  simp only [runN, Bool.and_eq_true] at h
  obtain ⟨⟨h1, h2, h3, h4⟩, h5, h6, h7, h8⟩ := h
  exact fun
    | true, true, true => h1
    | true, true, false => h2
    | true, false, true => h3
    | true, false, false => h4
    | false, true, true => h5
    | false, true, false => h6
    | false, false, true => h7
    | false, false, false => h8

theorem run1 : runN 1 = true := by kernel_rfl
theorem run2 : runN 2 = true := by kernel_rfl
theorem run3 : runN 3 = true := by kernel_rfl
theorem run4 : runN 4 = true := by kernel_rfl
theorem run5 : runN 5 = true := by kernel_rfl
theorem run6 : runN 6 = true := by kernel_rfl
theorem run7 : runN 7 = true := by kernel_rfl
theorem run8 : runN 8 = true := by kernel_rfl
theorem runs : ∀ n, 0 < n → n < 9 → runN n = true := below8 run1 run2 run3 run4 run5 run6 run7 run8

noncomputable def noEqs : List (E × E) := [(c32 (.lit 0) (.var 35) (.var 36), .lit 0)]
theorem runNo : isTrueK [] (evFn (lawW false (oszOf kds) noEqs (fun _ => false)) 1000 28 cs []) = true := by kernel_rfl

theorem known {env : Env} (hF : EnvF Φ env) {n : Nat} (h : checkF (canonV.map (E.den env)) 0 (env.v 35) (n : Int) (env.v 37) ≠ 0) :
    KnownOk env (kn n ((bitB 1).tt env) ((bitB 2).tt env) ((bitB 4).tt env)) := by
  obtain ⟨h3, hb⟩ := bytes_law h
  have d : ∀ m a s : E, (c32 m a s).den env = checkF (canonV.map (E.den env)) (m.den env) (a.den env) (s.den env) (env.v 37) := fun m a s => c32_den hF m a s (.var 37)
  have hbit : ∀ k : Int, binDen .and .i64 k 7 = k → KnownOk env (knBit n k ((bitB k).tt env)) := fun k hk p hp => by
    unfold knBit at hp
    split at hp
    · rename_i ht
      rcases List.mem_cons.1 hp with rfl | hp
      · exact ht
      · obtain ⟨i, hi, rfl⟩ := List.mem_map.1 hp
        have hi : i < n := by simpa using hi
        have hne : binDen .and .i64 (env.v 37) k ≠ 0 := of_decide_eq_true ht
        have := (hb i (by simpa using hi)).2 k hk hne
        show decide ((E.app 33 (argV [byA i, .lit k])).den env ≠ 0) = true
        rw [c33_den hF]
        have e : grantF (canonV.map (E.den env)) ((byA i).den env) ((E.lit k).den env) = 1 := this
        rw [e]; rfl
    · rename_i ht
      rw [List.mem_singleton.1 hp]
      simpa using ht
  intro p hp
  rcases List.mem_cons.1 hp with rfl | hp
  · show decide ((c32 (.lit 0) (.var 35) (.lit (Int.ofNat n))).den env ≠ 0) = true
    rw [d]; exact decide_eq_true h
  · rcases List.mem_cons.1 hp with rfl | hp
    · show decide ((c32 (.lit 3) (.var 35) (.lit (Int.ofNat n))).den env ≠ 0) = true
      rw [d]
      have e : checkF (canonV.map (E.den env)) ((E.lit 3).den env) ((E.var 35).den env) ((E.lit (Int.ofNat n)).den env) (env.v 37) = 1 := h3
      rw [e]; rfl
    · rcases List.mem_append.1 hp with hp | hp
      · obtain ⟨i, hi, rfl⟩ := List.mem_map.1 hp
        have hi : i < n := by simpa using hi
        have := (hb i (by simpa using hi)).1
        show decide ((c32 (.lit 0) (byA i) (.lit 1)).den env ≠ 0) = true
        rw [d]
        have e : checkF (canonV.map (E.den env)) ((E.lit 0).den env) ((byA i).den env) ((E.lit 1).den env) (env.v 37) = 1 := this
        rw [e]; rfl
      · rcases List.mem_append.1 hp with hp | hp
        · exact hbit 1 (by decide) p hp
        · rcases List.mem_append.1 hp with hp | hp
          · exact hbit 2 (by decide) p hp
          · exact hbit 4 (by decide) p hp

set_option maxRecDepth 100000 in
theorem cases (env : Env) (hF : EnvF Φ env) (_hW : WfEnv env kds) : Case Try.prog 28 kds cs env := by
  have d : (c32 (.lit 0) (.var 35) (.var 36)).den env = checkF (canonV.map (E.den env)) 0 (env.v 35) (env.v 36) (env.v 37) := c32_den hF _ _ _ _
  by_cases h : checkF (canonV.map (E.den env)) 0 (env.v 35) (env.v 36) (env.v 37) = 0
  · refine case_lawW hF false 1000 noEqs _ [] (fun p hp => ?_) KnownOk.nil runNo
    rw [List.mem_singleton.1 hp]
    show (c32 (.lit 0) (.var 35) (.var 36)).den env = 0
    rw [d, h]
  · obtain ⟨s1, s8⟩ := check_size h
    obtain ⟨n, hn⟩ : ∃ n : Nat, env.v 36 = (n : Int) := ⟨(env.v 36).toNat, by omega⟩
    rw [hn] at h
    refine Case.fixed (.var 36) (Int.ofNat n) hn ?_
    exact case_lawW hF false 1000 [] _ _ (by simp) (known hF h) (runN_all (runs n (by omega) (by omega)) _ _ _)
set_option maxRecDepth 100000 in
theorem lifted (os : Os) (started : os.Started) (H : Type) (enc : TypeId × Value → H) :
    ReturnsInHanded {} Try.checked os 28 .any (Rows.pmpBytesSpec.pre6 enc Try.prog Try.f28 Rows.pmpBytesRow.domain false) (Rows.pmpBytesSpec.post enc Try.prog Try.f28 false true false false) := by
  refine returnsInHanded_of_change (C := Try.checked) own started (by kernel_rfl) Try.func28
    (ChangeSpec.witness6 (enc := enc) (C := Try.checked) false ⟨#[], #[.agg (List.replicate 16 (Value.int .u8 0) ++ List.replicate 16 (Value.int .u64 0) ++ [Value.int .i64 0] ++ [Value.int .u64 0] ++ [Value.int .i64 0] ++ [Value.int .u64 0] ++ List.replicate 2 (Value.int .i64 0)).toArray], []⟩ 8 (by kernel_rfl) (by kernel_rfl) (by kernel_rfl) (by kernel_rfl)) ?_
  intro W base args ds gs before hval0 hW hcnd _
  have hval : ∀ (j : Nat) t v, Try.f28.params[j]? = some t → args[j]? = some v → Value.okWide Try.prog W .any base t v := hval0
  have hW' := hW
  obtain ⟨p, q, hA0, hV, rfl, hfz, hnd⟩ := hW
  have hA : DataW.TrodAll enc Try.prog W 0 (fun _ => true) true [37] args.toList ds p := hA0
  obtain ⟨rfl, rfl⟩ := trodVars_none hV
  have hA1 := hA
  obtain ⟨v0, vs0, d0, ds0, p0, q0, hargs0, rfl, hp0, _, r0⟩ := trodAll_cons hA1
  obtain ⟨_, rfl, _⟩ := trodAll_nil r0
  simp only [List.append_nil] at hW'
  refine (law_calls Φ hA (fun j t v ht hv => hval j t v (by simpa using ht) hv) hargs (by decide) cases).mono fun e W' ⟨he, bel⟩ => ?_
  subst he
  exact ⟨_, rfl, _, _, _, [], _, [], hW', trodAll_mk1 (shut_bool Try.underlying4 _), trodAll_stays laidOut bel _ _ _ _ (by kernel_rfl) hA, rfl, bel.frame _, fun h => by cases h⟩

theorem c1 : Try.pinned.checked.prog.funcNamed Rows.pmpBytesRow.func = some 28 := by kernel_rfl
theorem c2 : joinedFacts Try.pinned.checked.prog 28 Try.f28 Rows.pmpBytesSpec Rows.pmpBytesRow = true := joined_mk rfl rfl (by kernel_rfl)
theorem c3 : Try.f28.isInstance Try.pinned.checked.prog Rows.pmpBytesRow.origin Rows.pmpBytesRow.targs := of_decide_eq_true (by kernel_rfl)
theorem c4 : Try.f28.isWrapper Try.pinned.checked.prog Rows.pmpBytesRow.wrapper Rows.pmpBytesRow.mainSum := by unfold Func.isWrapper; first | (rw [if_pos (by decide +kernel)]; kernel_rfl) | (rw [if_neg (by decide +kernel)]; exact ⟨rfl, rfl⟩)
theorem holds : Rows.PmpBytesSaid :=
  OpenClaim.holds_of_wide 28 Try.f28 rfl rfl rfl rfl rfl rfl rfl ⟨rfl, rfl, rfl, rfl, rfl⟩ rfl rfl rfl rfl rfl c1 Try.func28 c2 c3 c4
    (fun os started H enc _ => lifted os started H enc)
end PmpBytes
#print axioms PmpBytes.holds
end Go.Proofs.Ytibfaifjnifgjaa
