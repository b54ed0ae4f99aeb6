/-
  The summaries of SetAddr, SetCfg and Cfg. No condition.
-/
import Derived.Test.YtibfaifjnifgjaaPmpCheck
namespace Go.Proofs.Ytibfaifjnifgjaa
open Go.Sx Go.RowKit

/-! ### The runs' answers -/

def cells (f g : Nat → E) : List E := (List.range 16).map f ++ (List.range 16).map g

def heldI (i : Nat) : E := .ite (lockT (.var i)) (.ite (lockT (.var (i + 1))) (.lit 0) (isKind (.var (i + 1)) 1)) (.lit 1)
def heldR (i : Nat) : E := .ite (.ite (lockT (.var (i + 1))) (.lit 0) (isKind (.var (i + 1)) 1)) (.lit 1) (ntE (lockT (.var i)))
def adrT (held : Nat → E) (i : Nat) : E := if Nat.beq i 15 then .ite (lockT (.var 15)) (a54 (.var 33)) (aT 15) else .ite (held i) (aT i) (a54 (.var 33))
def setA (held : Nat → E) (i : Nat) : List E := cells cT (fun j => if Nat.beq j i then adrT held i else aT j)

def newT (k : Nat) : E := .app 21 (.cons (.conv .u8 (.bin .shr .u64 (.var 33) (.lit (Int.ofNat (8 * k))))) .nil)
def setC (o : Nat) : List E := cells (fun j => if Nat.ble o j && Nat.blt j (o + 8) then .ite (lockT (.var j)) (newT (j - o)) (cT j) else cT j) aT

def setSh : List Sh := [.agg pmpKs, .one (some .i64), .one (some .u64)]

noncomputable def setRun (f : Nat) (R : List E) (j : Int) : Bool := leafIs (.agg (.toC (flatE pmpKs R))) (evFn (sumK (sgM (nrmS [])) [] (fun _ => false)) 1000 f ((varsA setSh 0).map (C.fix (.var 32) j)) [])
noncomputable def setRunE (f : Nat) (R : List E) (eqs : List (E × E)) : Bool := leafIs (.agg (.toC (flatE pmpKs R))) (evFn (sumK (sgM (nrmS eqs)) eqs (fun _ => false)) 1000 f (varsA setSh 0) [])

def noReg : List (E × E) := isE2 (eqE iV (.lit 0)) false ++ isE2 (eqE iV (.lit 2)) false

def cfgSh : List Sh := [.agg pmpKs, .one (some .i64)]
noncomputable def cfgRun (f : Nat) (o : Nat) (j : Int) : Bool := leafIs (.int .u64 (orE o 8)) (evFn (sumK (sgM (nrmS cfgEqs)) cfgEqs (fun _ => false)) 1000 f ((varsA cfgSh 0).map (C.fix (.var 32) j)) [])
noncomputable def cfgRunE (f : Nat) : Bool := leafIs (.int .u64 (.lit 0)) (evFn (sumK (sgM (nrmS noReg)) noReg (fun _ => false)) 1000 f (varsA cfgSh 0) [])

theorem a51_0 : setRun 51 (setA heldI 0) (Int.ofNat 0) = true := by kernel_rfl
theorem a51_1 : setRun 51 (setA heldI 1) (Int.ofNat 1) = true := by kernel_rfl
theorem a51_2 : setRun 51 (setA heldI 2) (Int.ofNat 2) = true := by kernel_rfl
theorem a51_3 : setRun 51 (setA heldI 3) (Int.ofNat 3) = true := by kernel_rfl
theorem a51_4 : setRun 51 (setA heldI 4) (Int.ofNat 4) = true := by kernel_rfl
theorem a51_5 : setRun 51 (setA heldI 5) (Int.ofNat 5) = true := by kernel_rfl
theorem a51_6 : setRun 51 (setA heldI 6) (Int.ofNat 6) = true := by kernel_rfl
theorem a51_7 : setRun 51 (setA heldI 7) (Int.ofNat 7) = true := by kernel_rfl
theorem a51_8 : setRun 51 (setA heldI 8) (Int.ofNat 8) = true := by kernel_rfl
theorem a51_9 : setRun 51 (setA heldI 9) (Int.ofNat 9) = true := by kernel_rfl
theorem a51_10 : setRun 51 (setA heldI 10) (Int.ofNat 10) = true := by kernel_rfl
theorem a51_11 : setRun 51 (setA heldI 11) (Int.ofNat 11) = true := by kernel_rfl
theorem a51_12 : setRun 51 (setA heldI 12) (Int.ofNat 12) = true := by kernel_rfl
theorem a51_13 : setRun 51 (setA heldI 13) (Int.ofNat 13) = true := by kernel_rfl
theorem a51_14 : setRun 51 (setA heldI 14) (Int.ofNat 14) = true := by kernel_rfl
theorem a51_15 : setRun 51 (setA heldI 15) (Int.ofNat 15) = true := by kernel_rfl
theorem a51 : ∀ i, i < 16 → setRun 51 (setA heldI i) (Int.ofNat i) = true := below16P (p := fun i => setRun 51 (setA heldI i) (Int.ofNat i) = true) a51_0 a51_1 a51_2 a51_3 a51_4 a51_5 a51_6 a51_7 a51_8 a51_9 a51_10 a51_11 a51_12 a51_13 a51_14 a51_15
theorem a51_lo : setRunE 51 (cells cT aT) outLo = true := by kernel_rfl
theorem a51_hi : setRunE 51 (cells cT aT) outHi = true := by kernel_rfl
theorem a52_0 : setRun 52 (setA heldR 0) (Int.ofNat 0) = true := by kernel_rfl
theorem a52_1 : setRun 52 (setA heldR 1) (Int.ofNat 1) = true := by kernel_rfl
theorem a52_2 : setRun 52 (setA heldR 2) (Int.ofNat 2) = true := by kernel_rfl
theorem a52_3 : setRun 52 (setA heldR 3) (Int.ofNat 3) = true := by kernel_rfl
theorem a52_4 : setRun 52 (setA heldR 4) (Int.ofNat 4) = true := by kernel_rfl
theorem a52_5 : setRun 52 (setA heldR 5) (Int.ofNat 5) = true := by kernel_rfl
theorem a52_6 : setRun 52 (setA heldR 6) (Int.ofNat 6) = true := by kernel_rfl
theorem a52_7 : setRun 52 (setA heldR 7) (Int.ofNat 7) = true := by kernel_rfl
theorem a52_8 : setRun 52 (setA heldR 8) (Int.ofNat 8) = true := by kernel_rfl
theorem a52_9 : setRun 52 (setA heldR 9) (Int.ofNat 9) = true := by kernel_rfl
theorem a52_10 : setRun 52 (setA heldR 10) (Int.ofNat 10) = true := by kernel_rfl
theorem a52_11 : setRun 52 (setA heldR 11) (Int.ofNat 11) = true := by kernel_rfl
theorem a52_12 : setRun 52 (setA heldR 12) (Int.ofNat 12) = true := by kernel_rfl
theorem a52_13 : setRun 52 (setA heldR 13) (Int.ofNat 13) = true := by kernel_rfl
theorem a52_14 : setRun 52 (setA heldR 14) (Int.ofNat 14) = true := by kernel_rfl
theorem a52_15 : setRun 52 (setA heldR 15) (Int.ofNat 15) = true := by kernel_rfl
theorem a52 : ∀ i, i < 16 → setRun 52 (setA heldR i) (Int.ofNat i) = true := below16P (p := fun i => setRun 52 (setA heldR i) (Int.ofNat i) = true) a52_0 a52_1 a52_2 a52_3 a52_4 a52_5 a52_6 a52_7 a52_8 a52_9 a52_10 a52_11 a52_12 a52_13 a52_14 a52_15
theorem a52_lo : setRunE 52 (cells cT aT) outLo = true := by kernel_rfl
theorem a52_hi : setRunE 52 (cells cT aT) outHi = true := by kernel_rfl
theorem s49_0 : setRun 49 (setC 0) 0 = true := by kernel_rfl
theorem s49_2 : setRun 49 (setC 8) 2 = true := by kernel_rfl
theorem s49_n : setRunE 49 (cells cT aT) noReg = true := by kernel_rfl
theorem s50_0 : setRun 50 (setC 0) 0 = true := by kernel_rfl
theorem s50_2 : setRun 50 (setC 8) 2 = true := by kernel_rfl
theorem s50_n : setRunE 50 (cells cT aT) noReg = true := by kernel_rfl
theorem r45_0 : cfgRun 45 0 0 = true := by kernel_rfl
theorem r45_2 : cfgRun 45 8 2 = true := by kernel_rfl
theorem r45_n : cfgRunE 45 = true := by kernel_rfl
theorem r46_0 : cfgRun 46 0 0 = true := by kernel_rfl
theorem r46_2 : cfgRun 46 8 2 = true := by kernel_rfl
theorem r46_n : cfgRunE 46 = true := by kernel_rfl

/-! ### What they say -/

theorem and54_twice (x : Int) : binDen .and .u64 (binDen .and .u64 x m54) m54 = binDen .and .u64 x m54 := by
  rw [and_u64, and_u64, ofInt_toNat, BitVec.and_assoc, BitVec.and_self]

theorem fA {env : Env} (h : EnvF Phi env) (l : List Int) {j : Nat} (hj : j < 32) : env.f (100 + j) l = cAt (setAddrF l (cAt l 32) (cAt l 33)) j := by
  rw [h.1 (100 + j) l (by omega)]
  unfold Phi PhiX
  simp only [show ¬ 100 + j = 20 by omega, show ¬ 100 + j = 21 by omega, show ¬ 100 + j = 22 by omega, show ¬ 100 + j = 23 by omega, show ¬ 100 + j = 24 by omega, show ¬ 100 + j = 25 by omega, show ¬ 100 + j = 26 by omega, show ¬ 100 + j = 30 by omega,
    show ¬ 100 + j = 31 by omega, show ¬ 100 + j = 32 by omega, show ¬ 100 + j = 33 by omega, show ¬ 100 + j = 34 by omega, if_false]
  rw [if_pos ⟨by omega, by omega⟩, Nat.add_sub_cancel_left]

theorem fC {env : Env} (h : EnvF Phi env) (l : List Int) {j : Nat} (hj : j < 32) : env.f (140 + j) l = cAt (setCfgF l (cAt l 32) (cAt l 33)) j := by
  rw [h.1 (140 + j) l (by omega)]
  unfold Phi PhiX
  simp only [show ¬ 140 + j = 20 by omega, show ¬ 140 + j = 21 by omega, show ¬ 140 + j = 22 by omega, show ¬ 140 + j = 23 by omega, show ¬ 140 + j = 24 by omega, show ¬ 140 + j = 25 by omega, show ¬ 140 + j = 26 by omega, show ¬ 140 + j = 30 by omega,
    show ¬ 140 + j = 31 by omega, show ¬ 140 + j = 32 by omega, show ¬ 140 + j = 33 by omega, show ¬ 140 + j = 34 by omega, if_false]
  rw [if_neg (by omega), if_pos ⟨by omega, by omega⟩, Nat.add_sub_cancel_left]

theorem f34 {env : Env} (h : EnvF Phi env) (l : List Int) : env.f 34 l = cfgF l (cAt l 32) := h.1 34 l (by decide)

theorem setAddr_at (l : List Int) (i v : Int) {j : Nat} (hj : j < 16) : cAt (setAddrF l i v) (16 + j) = if i = (j : Int) ∧ heldF l j = false then binDen .and .u64 v m54 else binDen .and .u64 (adrAt l j) m54 := by
  unfold cAt setAddrF
  rw [List.getElem?_map, List.getElem?_range (by omega)]
  show (if 16 + j < 16 then _ else _) = _
  rw [if_neg (by omega), Nat.add_sub_cancel_left]

theorem setCfg_at (l : List Int) (r v : Int) {j : Nat} (hj : j < 16) : cAt (setCfgF l r v) j = if (r = 0 ∧ j < 8 ∨ r = 2 ∧ 8 ≤ j) ∧ lockB (cfgAt l j) = false then byteF (IntKind.u8.wrap (binDen .shr .u64 v ((8 * (j % 8) : Nat) : Int))) else byteF (cfgAt l j) := by
  unfold cAt setCfgF
  rw [List.getElem?_map, List.getElem?_range (by omega)]
  show (if j < 16 then _ else _) = _
  rw [if_pos hj]

theorem cells_same {env env' : Env} {f g f' g' : Nat → E} (h1 : ∀ i, i < 16 → (f i).den env = (f' i).den env') (h2 : ∀ i, i < 16 → (g i).den env = (g' i).den env') :
    (C.agg (.toC (flatE pmpKs (cells f g)))).same env env' (.agg (.toC (flatE pmpKs (cells f' g')))) := by
  refine same_flat pmpKs _ _ (by simp [cells]) (fun i e e' he he' => ?_)
  unfold cells at he he'
  rw [List.getElem?_append] at he he'
  simp only [List.length_map, List.length_range] at he he'
  split at he
  · rename_i hi
    rw [if_pos hi] at he'
    rw [List.getElem?_map, List.getElem?_range hi] at he he'
    simp only [Option.map_some, Option.some.injEq] at he he'
    rw [← he, ← he']; exact h1 i hi
  · rename_i hi
    rw [if_neg hi] at he'
    rw [List.getElem?_map] at he he'
    by_cases hj : i - 16 < 16
    · rw [List.getElem?_range hj] at he he'
      simp only [Option.map_some, Option.some.injEq] at he he'
      rw [← he, ← he']; exact h2 _ hj
    · rw [List.getElem?_eq_none (by simp; omega)] at he; cases he

section
variable {env : Env} {nrm : E → E} {es : List E}

theorem adr_app {L r : List Int} (hl : L.length = 32) {i : Nat} (hi : i < 16) : adrAt (L ++ r) i = adrAt L i := by
  unfold adrAt; rw [List.getElem?_append_left (by omega)]

theorem At.adr {env' : Env} {L : List Int} (h : At env nrm es env' L) {i : Nat} (hi : i < 16) : (aT i).den env' = adrAt L i := by
  rw [← h.canon]
  unfold adrAt canonV
  rw [List.getElem?_map, List.getElem?_append_right (by simp), List.getElem?_map]
  rw [show 16 + i - (List.map cT (List.range 16)).length = i by simp, List.getElem?_range hi]; rfl

theorem At.cT {env' : Env} {L : List Int} (h : At env nrm es env' L) {i : Nat} (hi : i < 16) : (Go.Proofs.Ytibfaifjnifgjaa.cT i).den env' = cfgAt L i := by
  rw [h.cfg i hi]
  show env'.f 21 [env'.v i] = _
  rw [f21 h.f]; rfl

theorem At.adr_twice {env' : Env} {L : List Int} (h : At env nrm es env' L) {i : Nat} (hi : i < 16) : binDen .and .u64 (adrAt L i) m54 = adrAt L i := by
  rw [← h.adr hi]
  exact and54_twice _

theorem lock_at {env' : Env} {L : List Int} (h : At env nrm es env' L) {i : Nat} (hi : i < 16) : (lockT (.var i)).tt env' = !lockB (cfgAt L i) := by
  rw [lock_byte _ env' (.var i) rfl, h.cfg i hi]

theorem kind_at {env' : Env} {L : List Int} (h : At env nrm es env' L) {i : Nat} (hi : i < 16) (n : Int) : (isKind (.var i) n).tt env' = decide (kindF (cfgAt L i) = n) := by
  have : (kindT (.var i)).den env' = kindF (cfgAt L i) := by
    rw [fkind (env'.v i) env' (.var i) rfl, h.cfg i hi]; rfl
  unfold isKind
  rw [eqE_tt, this, den_lit, beq_dec]

theorem heldI_tt {env' : Env} {L : List Int} (h : At env nrm es env' L) {i : Nat} (hi : i < 15) : (heldI i).tt env' = heldF L i := by
  unfold heldI heldF
  rw [tt_ite, tt_ite, lock_at h (by omega), lock_at h (by omega), kind_at h (by omega), tt_lit, tt_lit]
  simp only [hi, decide_true, Bool.true_and]
  cases lockB (cfgAt L i) <;> cases lockB (cfgAt L (i + 1)) <;> simp [intBeq_eq]

theorem heldR_tt {env' : Env} {L : List Int} (h : At env nrm es env' L) {i : Nat} (hi : i < 15) : (heldR i).tt env' = heldF L i := by
  unfold heldR heldF
  rw [tt_ite, tt_ite, ntE_tt, lock_at h (by omega), lock_at h (by omega), kind_at h (by omega), tt_lit, tt_lit]
  simp only [hi, decide_true, Bool.true_and]
  cases lockB (cfgAt L i) <;> cases lockB (cfgAt L (i + 1)) <;> simp [intBeq_eq] <;> split <;> simp_all

theorem held_last (L : List Int) : heldF L 15 = lockB (cfgAt L 15) := by simp [heldF]

theorem adrT_den {env' : Env} {L : List Int} (h : At env nrm es env' L) {held : Nat → E} (hh : ∀ i, i < 15 → (held i).tt env' = heldF L i) {i : Nat} (hi : i < 16) :
    (adrT held i).den env' = if heldF L i = false then binDen .and .u64 (env'.v 33) m54 else adrAt L i := by
  unfold adrT
  have hv : (a54 (.var 33)).den env' = binDen .and .u64 (env'.v 33) m54 := rfl
  split
  · rename_i h15
    have h15 := Nat.eq_of_beq_eq_true h15
    subst h15
    rw [den_ite, lock_at h (by omega), hv, h.adr (by omega), held_last]
    cases lockB (cfgAt L 15) <;> rfl
  · rename_i h15
    have h15 : i < 15 := by
      have : i ≠ 15 := fun he => h15 (by rw [he]; rfl)
      omega
    rw [den_ite, hh i h15, hv, h.adr (by omega)]
    cases heldF L i <;> rfl
end

/-! ### The summaries -/

noncomputable def args2 (nrm : E → E) (es : List E) : E := listE (canonP nrm es ++ [getE es 32, getE es 33])

noncomputable def sgAddr (nrm : E → E) (f : FuncId) (vs : List C) : Option C :=
  if Nat.beq f 51 || Nat.beq f 52 then match parseA setSh vs with
    | some es => some (.agg (.toC (flatE pmpKs (cells (fun j => pushB (getE es j)) (fun j => nrm (.app (100 + (16 + j)) (args2 nrm es)))))))
    | none => none
  else none

noncomputable def sgCfg (nrm : E → E) (f : FuncId) (vs : List C) : Option C :=
  if Nat.beq f 49 || Nat.beq f 50 then match parseA setSh vs with
    | some es => some (.agg (.toC (flatE pmpKs (cells (fun j => nrm (.app (140 + j) (args2 nrm es))) (fun j => nrm (mkBin .and .u64 (getE es (16 + j)) (.lit m54)))))))
    | none => none
  else none

noncomputable def sgGet (nrm : E → E) (f : FuncId) (vs : List C) : Option C :=
  if Nat.beq f 45 || Nat.beq f 46 then match parseA cfgSh vs with
    | some es => some (.int .u64 (nrm (.app 34 (listE (canonP nrm es ++ [getE es 32])))))
    | none => none
  else none

theorem args2_den {env : Env} {nrm : E → E} {es : List E} {L : List Int} (hA : At env nrm es (withV env (es.map (E.den env))) L) (g : Nat) :
    (E.app g (args2 nrm es)).den env = env.f g (L ++ [(getE es 32).den env, (getE es 33).den env]) := by
  unfold args2; rw [appL_den, List.map_append, ← hA.e]; rfl

theorem held_app {L r : List Int} (hl : L.length = 32) {i : Nat} (hi : i < 16) : heldF (L ++ r) i = heldF L i := by
  unfold heldF
  rw [cfg_app hl hi]
  by_cases h15 : i < 15
  · rw [cfg_app hl (by omega)]
  · simp [h15]

set_option maxRecDepth 100000 in
theorem addr_same {env : Env} (hF : EnvF Phi env) {nrm : E → E} (hn : ∀ e, (nrm e).den env = e.den env) (es : List E) (hlen : es.length = 34) {f : Nat} (hf : Nat.beq f 51 = true ∨ Nat.beq f 52 = true) :
    ∃ (eqs : List (E × E)) (vs' : List C) (R : C), (∀ p ∈ eqs, p.1.den (withV env (es.map (E.den env))) = p.2.den (withV env (es.map (E.den env)))) ∧ (∀ xs, Rels (withV env (es.map (E.den env))) [] (varsA setSh 0) xs → Rels (withV env (es.map (E.den env))) [] vs' xs) ∧
      leafIs R (evFn (sumK (sgM (nrmS eqs)) eqs (fun _ => false)) 1000 f vs' []) = true ∧
      C.same (withV env (es.map (E.den env))) env R (.agg (.toC (flatE pmpKs (cells (fun j => pushB (getE es j)) (fun j => nrm (.app (100 + (16 + j)) (args2 nrm es))))))) := by
  have hA := at_of (nrm := nrm) (es := es) hF hn (by omega)
  generalize hL : (canonP nrm es).map (E.den env) = L at hA
  have v32 : (withV env (es.map (E.den env))).v 32 = (getE es 32).den env := hA.v 32 (by omega)
  have v33 : (withV env (es.map (E.den env))).v 33 = (getE es 33).den env := hA.v 33 (by omega)
  have c1 : ∀ i, i < 16 → (cT i).den (withV env (es.map (E.den env))) = (pushB (getE es i)).den env := fun i hi => by
    rw [hA.cT hi, hA.cfg i hi, pushB_den hF]; congr 1; exact hA.v i (by omega)
  have c2 : ∀ j, j < 16 → (nrm (.app (100 + (16 + j)) (args2 nrm es))).den env = if (getE es 32).den env = (j : Int) ∧ heldF L j = false then binDen .and .u64 ((getE es 33).den env) m54 else adrAt L j := fun j hj => by
    rw [hn, args2_den hA, fA hF _ (by omega), setAddr_at _ _ _ hj]
    have r0 : cAt (L ++ [(getE es 32).den env, (getE es 33).den env]) 32 = (getE es 32).den env := rest_app hA.l _ 0
    have r1 : cAt (L ++ [(getE es 32).den env, (getE es 33).den env]) 33 = (getE es 33).den env := rest_app hA.l _ 1
    rw [r0, r1, adr_app hA.l hj, held_app hA.l hj, hA.adr_twice hj]
  have out : (∀ j : Nat, j < 16 → (getE es 32).den env ≠ (j : Int)) → C.same (withV env (es.map (E.den env))) env (.agg (.toC (flatE pmpKs (cells cT aT)))) (.agg (.toC (flatE pmpKs (cells (fun j => pushB (getE es j)) (fun j => nrm (.app (100 + (16 + j)) (args2 nrm es))))))) := fun ho =>
    cells_same c1 (fun j hj => by rw [c2 j hj, if_neg (fun h => ho j hj h.1), hA.adr hj])
  rcases entry_cases (withV env (es.map (E.den env))) with ⟨i, hi, he⟩ | hl | hh
  · have he' : (getE es 32).den env = (i : Int) := by rw [← v32]; exact he
    have key : ∀ held : Nat → E, (∀ i, i < 15 → (held i).tt (withV env (es.map (E.den env))) = heldF L i) → C.same (withV env (es.map (E.den env))) env (.agg (.toC (flatE pmpKs (setA held i)))) (.agg (.toC (flatE pmpKs (cells (fun j => pushB (getE es j)) (fun j => nrm (.app (100 + (16 + j)) (args2 nrm es))))))) := fun held hh =>
      cells_same c1 (fun j hj => by
        rw [c2 j hj, he']
        show E.den _ (if Nat.beq j i then adrT held i else aT j) = _
        by_cases hji : j = i
        · subst hji
          rw [if_pos (by simp), adrT_den hA hh hj, v33]
          simp only [true_and]
        · rw [if_neg (by simpa using hji), hA.adr hj, if_neg (fun h => hji (by omega))])
    rcases hf with hf | hf
    · have hf := Nat.eq_of_beq_eq_true hf
      subst hf
      exact ⟨[], (varsA setSh 0).map (C.fix (.var 32) (Int.ofNat i)), _, by simp, fun xs hr => fix_rels he hr, a51 i hi, key heldI (fun i hi => heldI_tt hA hi)⟩
    · have hf := Nat.eq_of_beq_eq_true hf
      subst hf
      exact ⟨[], (varsA setSh 0).map (C.fix (.var 32) (Int.ofNat i)), _, by simp, fun xs hr => fix_rels he hr, a52 i hi, key heldR (fun i hi => heldR_tt hA hi)⟩
  · refine ⟨outLo, varsA setSh 0, _, hl, fun _ h => h, ?_, out (fun j hj hj' => ?_)⟩
    · rcases hf with hf | hf
      · rw [Nat.eq_of_beq_eq_true hf]; exact a51_lo
      · rw [Nat.eq_of_beq_eq_true hf]; exact a52_lo
    · have h0 := hl (ltE iV (.lit 0), .lit (b2i true)) (by simp [outLo, isE2])
      have h1 : (ltE iV (.lit 0)).den (withV env (es.map (E.den env))) = b2i (decide ((withV env (es.map (E.den env))).v 32 < 0)) := rfl
      rw [h1, v32, hj'] at h0
      rw [decide_eq_false (by omega)] at h0
      cases h0
  · refine ⟨outHi, varsA setSh 0, _, hh, fun _ h => h, ?_, out (fun j hj hj' => ?_)⟩
    · rcases hf with hf | hf
      · rw [Nat.eq_of_beq_eq_true hf]; exact a51_hi
      · rw [Nat.eq_of_beq_eq_true hf]; exact a52_hi
    · have h0 := hh (ltE (.lit 15) iV, .lit (b2i true)) (by simp [outHi, isE2])
      have h1 : (ltE (.lit 15) iV).den (withV env (es.map (E.den env))) = b2i (decide (15 < (withV env (es.map (E.den env))).v 32)) := rfl
      rw [h1, v32, hj'] at h0
      rw [decide_eq_false (by omega)] at h0
      cases h0

theorem reg_cases (env : Env) : iV.den env = 0 ∨ iV.den env = 2 ∨ ((iV.den env ≠ 0 ∧ iV.den env ≠ 2) ∧ ∀ p ∈ noReg, p.1.den env = p.2.den env) := by
  by_cases h0 : iV.den env = 0
  · exact .inl h0
  · by_cases h2 : iV.den env = 2
    · exact .inr (.inl h2)
    · refine .inr (.inr ⟨⟨h0, h2⟩, eqs_app (isE2_ok rfl (by rw [eqE_tt, den_lit]; simpa using h0)) (isE2_ok rfl (by rw [eqE_tt, den_lit]; simpa using h2))⟩)

set_option maxRecDepth 100000 in
theorem cfg_same {env : Env} (hF : EnvF Phi env) {nrm : E → E} (hn : ∀ e, (nrm e).den env = e.den env) (es : List E) (hlen : es.length = 34) {f : Nat} (hf : Nat.beq f 49 = true ∨ Nat.beq f 50 = true) :
    ∃ (eqs : List (E × E)) (vs' : List C) (R : C), (∀ p ∈ eqs, p.1.den (withV env (es.map (E.den env))) = p.2.den (withV env (es.map (E.den env)))) ∧ (∀ xs, Rels (withV env (es.map (E.den env))) [] (varsA setSh 0) xs → Rels (withV env (es.map (E.den env))) [] vs' xs) ∧
      leafIs R (evFn (sumK (sgM (nrmS eqs)) eqs (fun _ => false)) 1000 f vs' []) = true ∧
      C.same (withV env (es.map (E.den env))) env R (.agg (.toC (flatE pmpKs (cells (fun j => nrm (.app (140 + j) (args2 nrm es))) (fun j => nrm (mkBin .and .u64 (getE es (16 + j)) (.lit m54))))))) := by
  have hA := at_of (nrm := nrm) (es := es) hF hn (by omega)
  generalize hL : (canonP nrm es).map (E.den env) = L at hA
  have v32 : (withV env (es.map (E.den env))).v 32 = (getE es 32).den env := hA.v 32 (by omega)
  have v33 : (withV env (es.map (E.den env))).v 33 = (getE es 33).den env := hA.v 33 (by omega)
  have c1 : ∀ i, i < 16 → (aT i).den (withV env (es.map (E.den env))) = (nrm (mkBin .and .u64 (getE es (16 + i)) (.lit m54))).den env := fun i hi => a54_nrm hn es (16 + i) (by omega)
  have tw : ∀ j, j < 16 → byteF (cfgAt L j) = cfgAt L j := fun j hj => by rw [hA.cfg j hj, byteF_twice]
  have c2 : ∀ j, j < 16 → (nrm (.app (140 + j) (args2 nrm es))).den env = if ((getE es 32).den env = 0 ∧ j < 8 ∨ (getE es 32).den env = 2 ∧ 8 ≤ j) ∧ lockB (cfgAt L j) = false then byteF (IntKind.u8.wrap (binDen .shr .u64 ((getE es 33).den env) ((8 * (j % 8) : Nat) : Int))) else cfgAt L j := fun j hj => by
    rw [hn, args2_den hA, fC hF _ (by omega), setCfg_at _ _ _ hj]
    have r0 : cAt (L ++ [(getE es 32).den env, (getE es 33).den env]) 32 = (getE es 32).den env := rest_app hA.l _ 0
    have r1 : cAt (L ++ [(getE es 32).den env, (getE es 33).den env]) 33 = (getE es 33).den env := rest_app hA.l _ 1
    rw [r0, r1, cfg_app hA.l hj, tw j hj]
  have nw : ∀ k, (newT k).den (withV env (es.map (E.den env))) = byteF (IntKind.u8.wrap (binDen .shr .u64 ((getE es 33).den env) ((8 * k : Nat) : Int))) := fun k => by
    show (withV env (es.map (E.den env))).f 21 [IntKind.u8.wrap (binDen .shr .u64 ((withV env (es.map (E.den env))).v 33) (Int.ofNat (8 * k)))] = _
    rw [f21 hA.f, v33]; rfl
  have key : ∀ o : Nat, (o = 0 ∧ (getE es 32).den env = 0 ∨ o = 8 ∧ (getE es 32).den env = 2) → C.same (withV env (es.map (E.den env))) env (.agg (.toC (flatE pmpKs (setC o)))) (.agg (.toC (flatE pmpKs (cells (fun j => nrm (.app (140 + j) (args2 nrm es))) (fun j => nrm (mkBin .and .u64 (getE es (16 + j)) (.lit m54))))))) := fun o ho =>
    cells_same (fun j hj => by
      rw [c2 j hj]
      show E.den _ (if Nat.ble o j && Nat.blt j (o + 8) then .ite (lockT (.var j)) (newT (j - o)) (cT j) else cT j) = _
      have hb : (Nat.ble o j && Nat.blt j (o + 8)) = decide (o ≤ j ∧ j < o + 8) := by
        rw [Bool.eq_iff_iff, Bool.and_eq_true, decide_eq_true_eq]
        exact ⟨fun h => ⟨Nat.le_of_ble_eq_true h.1, Nat.le_of_ble_eq_true h.2⟩, fun h => ⟨Nat.ble_eq_true_of_le h.1, Nat.ble_eq_true_of_le h.2⟩⟩
      rw [hb]
      by_cases hr : o ≤ j ∧ j < o + 8
      · rw [if_pos (by simpa using hr), den_ite, lock_at hA hj, nw, hA.cT hj]
        have e1 : j - o = j % 8 := by omega
        have e2 : ((getE es 32).den env = 0 ∧ j < 8 ∨ (getE es 32).den env = 2 ∧ 8 ≤ j) := by omega
        rw [e1]
        cases hlk : lockB (cfgAt L j)
        · rw [if_pos (show (!false) = true from rfl), if_pos ⟨e2, rfl⟩]
        · rw [if_neg (show ¬ (!true) = true by simp), if_neg (fun h => by simpa using h.2)]
      · rw [if_neg (by simpa using hr), hA.cT hj, if_neg (fun h => hr (by omega))]) c1
  rcases reg_cases (withV env (es.map (E.den env))) with he | he | ⟨hne, he⟩
  · have he' : (getE es 32).den env = 0 := by rw [← v32]; exact he
    refine ⟨[], (varsA setSh 0).map (C.fix (.var 32) 0), _, by simp, fun xs hr => fix_rels he hr, ?_, key 0 (.inl ⟨rfl, he'⟩)⟩
    rcases hf with hf | hf
    · rw [Nat.eq_of_beq_eq_true hf]; exact s49_0
    · rw [Nat.eq_of_beq_eq_true hf]; exact s50_0
  · have he' : (getE es 32).den env = 2 := by rw [← v32]; exact he
    refine ⟨[], (varsA setSh 0).map (C.fix (.var 32) 2), _, by simp, fun xs hr => fix_rels he hr, ?_, key 8 (.inr ⟨rfl, he'⟩)⟩
    rcases hf with hf | hf
    · rw [Nat.eq_of_beq_eq_true hf]; exact s49_2
    · rw [Nat.eq_of_beq_eq_true hf]; exact s50_2
  · have hne : (getE es 32).den env ≠ 0 ∧ (getE es 32).den env ≠ 2 := by rw [← v32]; exact hne
    refine ⟨noReg, varsA setSh 0, _, he, fun _ h => h, ?_, cells_same (fun j hj => by rw [c2 j hj, hA.cT hj, if_neg (fun h => by omega)]) c1⟩
    rcases hf with hf | hf
    · rw [Nat.eq_of_beq_eq_true hf]; exact s49_n
    · rw [Nat.eq_of_beq_eq_true hf]; exact s50_n

theorem cfgEqs_ok {env : Env} (hF : EnvF Phi env) : ∀ p ∈ cfgEqs, p.1.den env = p.2.den env := by
  intro p hpm
  simp only [cfgEqs, List.mem_cons, List.not_mem_nil, or_false] at hpm
  rcases hpm with rfl | rfl
  · exact cfg_eq hF 0
  · exact cfg_eq hF 8

theorem orE_sum {env : Env} (hF : EnvF Phi env) {L : List Int} {o : Nat} (hc : ∀ k, k < 8 → cfgAt L (o + k) = byteF (env.v (o + k))) : (orE o 8).den env = cfgSum L o 8 := by
  have key : ∀ n, n ≤ 8 → ∃ x : Nat, (orE o n).den env = (x : Int) ∧ cfgSum L o n = (x : Int) ∧ x < 2 ^ (8 * n) := by
    intro n
    induction n with
    | zero => intro _; exact ⟨0, rfl, rfl, by decide⟩
    | succ n ih =>
      intro hn
      obtain ⟨x, h1, h2, h3⟩ := ih (by omega)
      obtain ⟨b, hb, hb256⟩ := cb_den hF o n
      have hbv : cfgAt L (o + n) = (b : Int) := by
        rw [hc n (by omega)]
        have hr := byteF_range (env.v (o + n))
        have e : (cbE o n).den env = IntKind.u64.wrap (byteF (env.v (o + n))) := by
          show IntKind.u64.wrap (env.f 21 [env.v (o + n)]) = _
          rw [f21 hF]; rfl
        rw [← hb, e]
        simp only [IntKind.wrap, IntKind.signed, IntKind.bits]
        simp
        omega
      have hbb : byteF (cfgAt L (o + n)) = (b : Int) := by rw [hc n (by omega), byteF_twice, ← hc n (by omega), hbv]
      have e8 : 2 ^ (8 * (n + 1)) = 2 ^ (8 * n) * 256 := by rw [Nat.mul_succ, Nat.pow_add]
      refine ⟨x + b * 2 ^ (8 * n), ?_, ?_, ?_⟩
      · show binDen .or .u64 ((orE o n).den env) (binDen .shl .u64 ((cbE o n).den env) ((8 * n : Nat) : Int)) = _
        rw [h1, hb, or_step h3 hb256 (by omega)]
      · show cfgSum L o n + byteF (cfgAt L (o + n)) * 256 ^ n = _
        rw [h2, hbb, show (2 : Nat) ^ (8 * n) = 256 ^ n by rw [Nat.pow_mul], Int.natCast_add, Int.natCast_mul, Int.natCast_pow]; rfl
      · rw [e8]
        have := Nat.two_pow_pos (8 * n)
        have : b * 2 ^ (8 * n) ≤ 255 * 2 ^ (8 * n) := Nat.mul_le_mul_right _ (by omega)
        omega
  obtain ⟨x, h1, h2, _⟩ := key 8 (Nat.le_refl _)
  rw [h1, h2]

set_option maxRecDepth 100000 in
theorem get_same {env : Env} (hF : EnvF Phi env) {nrm : E → E} (hn : ∀ e, (nrm e).den env = e.den env) (es : List E) (hlen : es.length = 33) {f : Nat} (hf : Nat.beq f 45 = true ∨ Nat.beq f 46 = true) :
    ∃ (eqs : List (E × E)) (vs' : List C) (R : C), (∀ p ∈ eqs, p.1.den (withV env (es.map (E.den env))) = p.2.den (withV env (es.map (E.den env)))) ∧ (∀ xs, Rels (withV env (es.map (E.den env))) [] (varsA cfgSh 0) xs → Rels (withV env (es.map (E.den env))) [] vs' xs) ∧
      leafIs R (evFn (sumK (sgM (nrmS eqs)) eqs (fun _ => false)) 1000 f vs' []) = true ∧ C.same (withV env (es.map (E.den env))) env R (.int .u64 (nrm (.app 34 (listE (canonP nrm es ++ [getE es 32]))))) := by
  have hA := at_of (nrm := nrm) (es := es) hF hn (by omega)
  have hLe := hA.e
  generalize hL : (canonP nrm es).map (E.den env) = L at hA
  have v32 : (withV env (es.map (E.den env))).v 32 = (getE es 32).den env := hA.v 32 (by omega)
  have e34 : (nrm (.app 34 (listE (canonP nrm es ++ [getE es 32])))).den env = cfgF (L ++ [(getE es 32).den env]) ((getE es 32).den env) := by
    rw [hn, appL_den, f34 hF, List.map_append, hL]
    have r0 : cAt (L ++ [(getE es 32).den env]) 32 = (getE es 32).den env := rest_app hA.l _ 0
    show cfgF (L ++ [(getE es 32).den env]) (cAt (L ++ [(getE es 32).den env]) 32) = _
    rw [r0]
  have hc : ∀ k, k < 16 → cfgAt (L ++ [(getE es 32).den env]) k = byteF ((withV env (es.map (E.den env))).v k) := fun k hk => by
    rw [cfg_app hA.l hk]; exact hA.cfg k hk
  rcases reg_cases (withV env (es.map (E.den env))) with he | he | ⟨hne, he⟩
  · have he' : (getE es 32).den env = 0 := by rw [← v32]; exact he
    refine ⟨cfgEqs, (varsA cfgSh 0).map (C.fix (.var 32) 0), .int .u64 (orE 0 8), cfgEqs_ok hA.f, fun xs hr => fix_rels he hr, ?_, ⟨rfl, ?_⟩⟩
    · rcases hf with hf | hf
      · rw [Nat.eq_of_beq_eq_true hf]; exact r45_0
      · rw [Nat.eq_of_beq_eq_true hf]; exact r46_0
    · rw [e34]; unfold cfgF; rw [if_pos he']
      exact orE_sum hA.f (fun k hk => hc (0 + k) (by omega))
  · have he' : (getE es 32).den env = 2 := by rw [← v32]; exact he
    refine ⟨cfgEqs, (varsA cfgSh 0).map (C.fix (.var 32) 2), .int .u64 (orE 8 8), cfgEqs_ok hA.f, fun xs hr => fix_rels he hr, ?_, ⟨rfl, ?_⟩⟩
    · rcases hf with hf | hf
      · rw [Nat.eq_of_beq_eq_true hf]; exact r45_2
      · rw [Nat.eq_of_beq_eq_true hf]; exact r46_2
    · rw [e34]; unfold cfgF; rw [if_neg (by omega), if_pos he']
      exact orE_sum hA.f (fun k hk => hc (8 + k) (by omega))
  · have hne : (getE es 32).den env ≠ 0 ∧ (getE es 32).den env ≠ 2 := by rw [← v32]; exact hne
    refine ⟨noReg, varsA cfgSh 0, .int .u64 (.lit 0), he, fun _ h => h, ?_, ⟨rfl, ?_⟩⟩
    · rcases hf with hf | hf
      · rw [Nat.eq_of_beq_eq_true hf]; exact r45_n
      · rw [Nat.eq_of_beq_eq_true hf]; exact r46_n
    · rw [e34]; unfold cfgF; rw [if_neg hne.1, if_neg hne.2]; rfl

/-- A summary out of runs, each under equations. -/
theorem sg_of_runs {env : Env} (hF : EnvF Phi env) {sh : List Sh} {f : FuncId} {ans : C} {vs : List C} {es : List E} (hes : parseA sh vs = some es)
    (h : ∃ (eqs : List (E × E)) (vs' : List C) (R : C), (∀ p ∈ eqs, p.1.den (withV env (es.map (E.den env))) = p.2.den (withV env (es.map (E.den env)))) ∧ (∀ xs, Rels (withV env (es.map (E.den env))) [] (varsA sh 0) xs → Rels (withV env (es.map (E.den env))) [] vs' xs) ∧
      leafIs R (evFn (sumK (sgM (nrmS eqs)) eqs (fun _ => false)) 1000 f vs' []) = true ∧ C.same (withV env (es.map (E.den env))) env R ans) {ρ : List Nat} {xs : List Value} (hr : Rels env ρ vs xs) (w : World) :
    (∀ w, (callFunc f xs.toArray).run Try.prog w = .ok (.enter f xs.toArray) w) ∧ Calls Try.prog f xs.toArray w fun e w' => ∃ z, e = .returned z ∧ ans.r env ρ [z] ∧ Below w.heap.size w w' := by
  obtain ⟨eqs, vs', R, he, hv', hrun, hsame⟩ := h
  have hn' := nrmS_den (hF.withV (es.map (E.den env))) he
  obtain ⟨h1, h2⟩ := sum_calls_at (K := sumK (sgM (nrmS eqs)) eqs (fun _ => false)) rfl hrun hF hn' (sgM_ok (hF.withV _) hn') hes hv' hr w
  refine ⟨h1, h2.mono ?_⟩
  rintro e w' ⟨z, ρ', rfl, hz, hb⟩
  exact ⟨z, rfl, same_r hsame hz, hb⟩

theorem sgAddr_ok {env : Env} (hF : EnvF Phi env) {nrm : E → E} (hn : ∀ e, (nrm e).den env = e.den env) : SgF env Try.prog (sgAddr nrm) := by
  intro f vs v hv ρ xs w hr
  unfold sgAddr at hv
  split at hv
  · rename_i hf
    simp only [Bool.or_eq_true] at hf
    split at hv
    · rename_i es hes
      simp only [Option.some.injEq] at hv; subst hv
      exact sg_of_runs hF hes (addr_same hF hn es (parse_length _ _ _ hes) hf) hr w
    · cases hv
  · cases hv

theorem sgCfg_ok {env : Env} (hF : EnvF Phi env) {nrm : E → E} (hn : ∀ e, (nrm e).den env = e.den env) : SgF env Try.prog (sgCfg nrm) := by
  intro f vs v hv ρ xs w hr
  unfold sgCfg at hv
  split at hv
  · rename_i hf
    simp only [Bool.or_eq_true] at hf
    split at hv
    · rename_i es hes
      simp only [Option.some.injEq] at hv; subst hv
      exact sg_of_runs hF hes (cfg_same hF hn es (parse_length _ _ _ hes) hf) hr w
    · cases hv
  · cases hv

theorem sgGet_ok {env : Env} (hF : EnvF Phi env) {nrm : E → E} (hn : ∀ e, (nrm e).den env = e.den env) : SgF env Try.prog (sgGet nrm) := by
  intro f vs v hv ρ xs w hr
  unfold sgGet at hv
  split at hv
  · rename_i hf
    simp only [Bool.or_eq_true] at hf
    split at hv
    · rename_i es hes
      simp only [Option.some.injEq] at hv; subst hv
      exact sg_of_runs hF hes (get_same hF hn es (parse_length _ _ _ hes) hf) hr w
    · cases hv
  · cases hv

end Go.Proofs.Ytibfaifjnifgjaa
