/- The law PmpTakes returns true for every input and leaves its argument as it was. No condition. -/
import Derived.Test.YtibfaifjnifgjaaRows
import Derived.Test.YtibfaifjnifgjaaSx15
import Derived.Test.YtibfaifjnifgjaaSeat
import Derived.Test.YtibfaifjnifgjaaPmpRule2
namespace Go.Proofs.Ytibfaifjnifgjaa
open Go.ChangeShapes Go.WideShapes Go.ChangeAt Go.RowKit Go.Sx
namespace PmpTakes
def kds : List Kd := List.replicate 16 (Kd.num (some .u8)) ++ List.replicate 16 (Kd.num (some .u64)) ++ [Kd.num (some .i64)] ++ [Kd.num (some .u64)] ++ [Kd.num (some .i64)] ++ [Kd.num (some .u64)] ++ List.replicate 2 (Kd.num (some .i64))
noncomputable def cs : List C := match argsC Try.prog [37] 0 with | some r => r.1 | none => []
theorem hargs : argsC Try.prog [37] 0 = some (cs, kds) := by kernel_rfl
abbrev Φ := Phi
def vV : E := .var 33
def k8 (k : Nat) : E := .bin .shr .u64 vV (.lit (Int.ofNat (8 * k)))
def b0 (k : Nat) : E := .conv .u8 (.bin .and .u64 (k8 k) (.lit 159))
def bT (k : Nat) : E := .ite (.bin .eql .u8 (.bin .and .u8 (b0 k) (.lit 1)) (.lit 0)) (.bin .and .u8 (b0 k) (.lit 157)) (b0 k)
def nT (k : Nat) : E := .app 21 (.cons (.conv .u8 (k8 k)) .nil)
def eqs : List (E × E) := (.bin .shr .u64 (.bin .shl .u64 vV (.lit 10)) (.lit 10), .bin .and .u64 vV (.lit m54)) :: (List.range 8).map fun k => (.bin .eql .u8 (nT k) (bT k), .lit 1)

def okB (y : Nat) : Bool := decide (byteF (y : Int) = if binDen .and .u8 ((y &&& 159 : Nat) : Int) 1 = 0 then binDen .and .u8 ((y &&& 159 : Nat) : Int) 157 else ((y &&& 159 : Nat) : Int))
theorem okB_all : (List.range 256).all okB = true := by decide +kernel

theorem vV_nat {env : Env} (h : In64 env vV) : ∃ n : Nat, vV.den env = (n : Int) ∧ n < 2 ^ 64 := ⟨nOf env vV, nOf_den h, nOf_lt h⟩

theorem eq1_ok {env : Env} (h : In64 env vV) : (E.bin .shr .u64 (.bin .shl .u64 vV (.lit 10)) (.lit 10)).den env = (E.bin .and .u64 vV (.lit m54)).den env := by
  obtain ⟨n, hn, hlt⟩ := vV_nat h
  have e1 : (E.bin .shl .u64 vV (.lit 10)).den env = ((n * 1024 % 2 ^ 64 : Nat) : Int) := by
    show IntKind.u64.wrap (vV.den env * 2 ^ (min (10 : Int).toNat 64)) = _
    rw [hn, show (2 : Int) ^ (min (10 : Int).toNat 64) = ((1024 : Nat) : Int) from rfl, ← Int.natCast_mul]
    simp only [IntKind.wrap, IntKind.signed, IntKind.bits]
    simp
  have e2 : (E.bin .shr .u64 (.bin .shl .u64 vV (.lit 10)) (.lit 10)).den env = ((n * 1024 % 2 ^ 64 / 1024 : Nat) : Int) := by
    show ((E.bin .shl .u64 vV (.lit 10)).den env).fdiv (2 ^ (min (10 : Int).toNat 64)) = _
    rw [e1, show (2 : Int) ^ (min (10 : Int).toNat 64) = ((1024 : Nat) : Int) from rfl, Int.fdiv_eq_ediv_of_nonneg _ (by decide)]
    omega
  have e3 : (E.bin .and .u64 vV (.lit m54)).den env = ((n % 2 ^ 54 : Nat) : Int) := by
    show binDen .and .u64 (vV.den env) ((m54.toNat : Nat) : Int) = _
    rw [hn, and_nat hlt (by decide), show m54.toNat = 2 ^ 54 - 1 from rfl, Nat.and_two_pow_sub_one_eq_mod]
  rw [e2, e3]
  congr 1; omega

theorem eq2_ok {env : Env} (hF : EnvF Φ env) (h : In64 env vV) {k : Nat} (hk : k < 8) : (E.bin .eql .u8 (nT k) (bT k)).den env = 1 := by
  obtain ⟨n, hn, hlt⟩ := vV_nat h
  have e1 : (k8 k).den env = ((n >>> (8 * k) : Nat) : Int) := by
    show binDen .shr .u64 (vV.den env) ((8 * k : Nat) : Int) = _
    rw [hn, shr_nat (by omega)]
  generalize hx : n >>> (8 * k) = x at e1
  have hx64 : x < 2 ^ 64 := by
    rw [← hx, Nat.shiftRight_eq_div_pow]; exact Nat.lt_of_le_of_lt (Nat.div_le_self _ _) hlt
  have e2 : (nT k).den env = byteF ((x % 256 : Nat) : Int) := by
    show env.f 21 [IntKind.u8.wrap ((k8 k).den env)] = _
    rw [f21 hF, e1]
    congr 1
  have e3 : (b0 k).den env = (((x % 256) &&& 159 : Nat) : Int) := by
    show IntKind.u8.wrap (binDen .and .u64 ((k8 k).den env) ((159 : Nat) : Int)) = _
    rw [e1, and_nat hx64 (by decide)]
    have e4 : x &&& 159 = (x % 256) &&& 159 := by
      have : x % 256 = x &&& 255 := (Nat.and_two_pow_sub_one_eq_mod x 8).symm
      rw [this, Nat.and_assoc]; rfl
    rw [e4]
    have : (x % 256) &&& 159 ≤ 159 := Nat.and_le_right
    simp only [IntKind.wrap, IntKind.signed, IntKind.bits]
    simp <;> omega
  have e5 : (bT k).den env = if binDen .and .u8 (((x % 256) &&& 159 : Nat) : Int) 1 = 0 then binDen .and .u8 (((x % 256) &&& 159 : Nat) : Int) 157 else (((x % 256) &&& 159 : Nat) : Int) := by
    show (if b2i (binDen .and .u8 ((b0 k).den env) 1 == 0) ≠ 0 then binDen .and .u8 ((b0 k).den env) 157 else (b0 k).den env) = _
    rw [e3]
    by_cases hz : binDen .and .u8 (((x % 256) &&& 159 : Nat) : Int) 1 = 0
    · simp [hz, b2i]
    · have : (binDen .and .u8 (((x % 256) &&& 159 : Nat) : Int) 1 == 0) = false := by simpa using hz
      rw [this]; simp [hz, b2i]
  have hb := List.all_eq_true.1 okB_all (x % 256) (by simp; omega)
  have hb : byteF ((x % 256 : Nat) : Int) = _ := of_decide_eq_true hb
  show b2i ((nT k).den env == (bT k).den env) = 1
  rw [e2, e5, hb]
  simp [b2i]

theorem eqs_ok {env : Env} (hF : EnvF Φ env) (h : In64 env vV) : ∀ p ∈ eqs, p.1.den env = p.2.den env := by
  intro p hp
  rcases List.mem_cons.1 hp with rfl | hp
  · exact eq1_ok h
  · obtain ⟨k, hk, rfl⟩ := List.mem_map.1 hp
    exact eq2_ok hF h (by simpa using hk)

theorem run0 : isTrueK [] (evFn (lawW false (oszOf kds) eqs (fun _ => false)) 1000 26 (cs.map (C.fix iV (Int.ofNat 0))) []) = true := by kernel_rfl
theorem run1 : isTrueK [] (evFn (lawW false (oszOf kds) eqs (fun _ => false)) 1000 26 (cs.map (C.fix iV (Int.ofNat 1))) []) = true := by kernel_rfl
theorem run2 : isTrueK [] (evFn (lawW false (oszOf kds) eqs (fun _ => false)) 1000 26 (cs.map (C.fix iV (Int.ofNat 2))) []) = true := by kernel_rfl
theorem run3 : isTrueK [] (evFn (lawW false (oszOf kds) eqs (fun _ => false)) 1000 26 (cs.map (C.fix iV (Int.ofNat 3))) []) = true := by kernel_rfl
theorem run4 : isTrueK [] (evFn (lawW false (oszOf kds) eqs (fun _ => false)) 1000 26 (cs.map (C.fix iV (Int.ofNat 4))) []) = true := by kernel_rfl
theorem run5 : isTrueK [] (evFn (lawW false (oszOf kds) eqs (fun _ => false)) 1000 26 (cs.map (C.fix iV (Int.ofNat 5))) []) = true := by kernel_rfl
theorem run6 : isTrueK [] (evFn (lawW false (oszOf kds) eqs (fun _ => false)) 1000 26 (cs.map (C.fix iV (Int.ofNat 6))) []) = true := by kernel_rfl
theorem run7 : isTrueK [] (evFn (lawW false (oszOf kds) eqs (fun _ => false)) 1000 26 (cs.map (C.fix iV (Int.ofNat 7))) []) = true := by kernel_rfl
theorem run8 : isTrueK [] (evFn (lawW false (oszOf kds) eqs (fun _ => false)) 1000 26 (cs.map (C.fix iV (Int.ofNat 8))) []) = true := by kernel_rfl
theorem run9 : isTrueK [] (evFn (lawW false (oszOf kds) eqs (fun _ => false)) 1000 26 (cs.map (C.fix iV (Int.ofNat 9))) []) = true := by kernel_rfl
theorem run10 : isTrueK [] (evFn (lawW false (oszOf kds) eqs (fun _ => false)) 1000 26 (cs.map (C.fix iV (Int.ofNat 10))) []) = true := by kernel_rfl
theorem run11 : isTrueK [] (evFn (lawW false (oszOf kds) eqs (fun _ => false)) 1000 26 (cs.map (C.fix iV (Int.ofNat 11))) []) = true := by kernel_rfl
theorem run12 : isTrueK [] (evFn (lawW false (oszOf kds) eqs (fun _ => false)) 1000 26 (cs.map (C.fix iV (Int.ofNat 12))) []) = true := by kernel_rfl
theorem run13 : isTrueK [] (evFn (lawW false (oszOf kds) eqs (fun _ => false)) 1000 26 (cs.map (C.fix iV (Int.ofNat 13))) []) = true := by kernel_rfl
theorem run14 : isTrueK [] (evFn (lawW false (oszOf kds) eqs (fun _ => false)) 1000 26 (cs.map (C.fix iV (Int.ofNat 14))) []) = true := by kernel_rfl
theorem run15 : isTrueK [] (evFn (lawW false (oszOf kds) eqs (fun _ => false)) 1000 26 (cs.map (C.fix iV (Int.ofNat 15))) []) = true := by kernel_rfl
theorem runs : ∀ i, i < 16 → isTrueK [] (evFn (lawW false (oszOf kds) eqs (fun _ => false)) 1000 26 (cs.map (C.fix iV (Int.ofNat i))) []) = true := below16P (p := fun i => isTrueK [] (evFn (lawW false (oszOf kds) eqs (fun _ => false)) 1000 26 (cs.map (C.fix iV (Int.ofNat i))) []) = true) run0 run1 run2 run3 run4 run5 run6 run7 run8 run9 run10 run11 run12 run13 run14 run15
theorem out_lo : isTrueK [] (evFn (lawW false (oszOf kds) (outLo ++ eqs) (fun _ => false)) 1000 26 cs []) = true := by kernel_rfl
theorem out_hi : isTrueK [] (evFn (lawW false (oszOf kds) (outHi ++ eqs) (fun _ => false)) 1000 26 cs []) = true := by kernel_rfl
theorem k33 : kds[33]? = some (.num (some .u64)) := by kernel_rfl
theorem cases (env : Env) (hF : EnvF Φ env) (hW : WfEnv env kds) : Case Try.prog 26 kds cs env := by
  have h33 : In64 env vV := In64.var hW k33
  have he := eqs_ok hF h33
  rcases entry_cases env with ⟨i, hi, hiv⟩ | hl | hh
  · exact Case.fixed iV (Int.ofNat i) hiv (case_lawW hF false 1000 eqs _ [] he KnownOk.nil (runs i hi))
  · exact case_lawW hF false 1000 (outLo ++ eqs) _ [] (eqs_app hl he) KnownOk.nil out_lo
  · exact case_lawW hF false 1000 (outHi ++ eqs) _ [] (eqs_app hh he) KnownOk.nil out_hi
set_option maxRecDepth 100000 in
theorem lifted (os : Os) (started : os.Started) (H : Type) (enc : TypeId × Value → H) :
    ReturnsInHanded {} Try.checked os 26 .any (Rows.pmpTakesSpec.pre6 enc Try.prog Try.f26 Rows.pmpTakesRow.domain false) (Rows.pmpTakesSpec.post enc Try.prog Try.f26 false true false false) := by
  refine returnsInHanded_of_change (C := Try.checked) own started (by kernel_rfl) Try.func26
    (ChangeSpec.witness6 (enc := enc) (C := Try.checked) false ⟨#[], #[.agg (List.replicate 16 (Value.int .u8 0) ++ List.replicate 16 (Value.int .u64 0) ++ [Value.int .i64 0] ++ [Value.int .u64 0] ++ [Value.int .i64 0] ++ [Value.int .u64 0] ++ List.replicate 2 (Value.int .i64 0)).toArray], []⟩ 8 (by kernel_rfl) (by kernel_rfl) (by kernel_rfl) (by kernel_rfl)) ?_
  intro W base args ds gs before hval0 hW hcnd _
  have hval : ∀ (j : Nat) t v, Try.f26.params[j]? = some t → args[j]? = some v → Value.okWide Try.prog W .any base t v := hval0
  have hW' := hW
  obtain ⟨p, q, hA0, hV, rfl, hfz, hnd⟩ := hW
  have hA : DataW.TrodAll enc Try.prog W 0 (fun _ => true) true [37] args.toList ds p := hA0
  obtain ⟨rfl, rfl⟩ := trodVars_none hV
  have hA1 := hA
  obtain ⟨v0, vs0, d0, ds0, p0, q0, hargs0, rfl, hp0, _, r0⟩ := trodAll_cons hA1
  obtain ⟨_, rfl, _⟩ := trodAll_nil r0
  simp only [List.append_nil] at hW'
  refine (law_calls Φ hA (fun j t v ht hv => hval j t v (by simpa using ht) hv) hargs (by decide) cases).mono fun e W' ⟨he, bel⟩ => ?_
  subst he
  exact ⟨_, rfl, _, _, _, [], _, [], hW', trodAll_mk1 (shut_bool Try.underlying4 _), trodAll_stays laidOut bel _ _ _ _ (by kernel_rfl) hA, rfl, bel.frame _, fun h => by cases h⟩

theorem c1 : Try.pinned.checked.prog.funcNamed Rows.pmpTakesRow.func = some 26 := by kernel_rfl
theorem c2 : joinedFacts Try.pinned.checked.prog 26 Try.f26 Rows.pmpTakesSpec Rows.pmpTakesRow = true := joined_mk rfl rfl (by kernel_rfl)
theorem c3 : Try.f26.isInstance Try.pinned.checked.prog Rows.pmpTakesRow.origin Rows.pmpTakesRow.targs := of_decide_eq_true (by kernel_rfl)
theorem c4 : Try.f26.isWrapper Try.pinned.checked.prog Rows.pmpTakesRow.wrapper Rows.pmpTakesRow.mainSum := by unfold Func.isWrapper; first | (rw [if_pos (by decide +kernel)]; kernel_rfl) | (rw [if_neg (by decide +kernel)]; exact ⟨rfl, rfl⟩)
theorem holds : Rows.PmpTakesSaid :=
  OpenClaim.holds_of_wide 26 Try.f26 rfl rfl rfl rfl rfl rfl rfl ⟨rfl, rfl, rfl, rfl, rfl⟩ rfl rfl rfl rfl rfl c1 Try.func26 c2 c3 c4
    (fun os started H enc _ => lifted os started H enc)
end PmpTakes
#print axioms PmpTakes.holds
end Go.Proofs.Ytibfaifjnifgjaa
