/-
  Read and Write of a CSR on numbers: what the terms of the runs mean. No condition.
-/
import Derived.Test.YtibfaifjnifgjaaCsrWant
namespace Go.Proofs.Ytibfaifjnifgjaa
open Go.Sx Go.RowKit

noncomputable def lE : List E → E
  | [] => .nil
  | e :: l => .cons e (lE l)

theorem lE_d (env : Env) : ∀ l : List E, ((lE l).d env).2 = l.map (E.den env) := by
  intro l
  induction l with
  | nil => rfl
  | cons e l ih => show (e.d env).1 :: ((lE l).d env).2 = _; rw [ih]; rfl

theorem app_den (env : Env) (f : Nat) (l : List E) : (E.app f (lE l)).den env = env.f f (l.map (E.den env)) := by
  show env.f f ((lE l).d env).2 = _
  rw [lE_d]

theorem elE_den (env : Env) (l : List E) (i : Nat) : (elE l i).den env = cAt (l.map (E.den env)) i := by
  unfold elE cAt
  rw [getL_eq, List.getElem?_map]
  cases l[i]? <;> rfl

/-! ### Write -/

def wGoS (m n v : Int) (cf : List Int) : Nat → List Fo → List Int → List Int
  | _, [], xs => xs
  | j, o :: os, xs => match xs with
    | [] => []
    | x :: xs => o.sem (wF j [m, n, x, v, cAt cf (j - 63), cAt cf (j - 62)]) :: wGoS m n v cf (j + 1) os xs

/-- A Cpu such as can be, behind Write. -/
def writeS (L : List Int) (n v : Int) : List Int := L.take 35 ++ wGoS (cAt L 33) n v ((L.drop 47).take 16) 35 (cpuOs.drop 35) (L.drop 35)

noncomputable def kE (m n v : E) (cf : List E) (j : Nat) (e : E) : E :=
  if Nat.blt j 63 then .app (210 + j) (lE [m, n, e, v]) else .app (210 + j) (lE [m, n, e, v, elE cf (j - 63), elE cf (j - 62)])

noncomputable def wGo (nrm : E → E) (m n v : E) (cf : List E) : Nat → List Fo → List E → List E
  | _, [], es => es
  | j, o :: os, es => match es with
    | [] => []
    | e :: es => o.ap nrm (nrm (kE m n v cf j e)) :: wGo nrm m n v cf (j + 1) os es

noncomputable def wCells (nrm : E → E) (ps : List E) (n v : E) : List E := takeL ps 35 ++ wGo nrm (elE ps 33) n v (takeL (dropL ps 47) 16) 35 (dropL cpuOs 35) (dropL ps 35)

theorem fW {env : Env} (h : EnvF Phi env) (l : List Int) {j : Nat} (hj : j < 79) : env.f (210 + j) l = wF j l := by
  rw [h.1 (210 + j) l (by omega)]
  unfold Phi PhiX
  simp only [show ¬ 210 + j = 20 by omega, show ¬ 210 + j = 21 by omega, show ¬ 210 + j = 22 by omega, show ¬ 210 + j = 23 by omega, show ¬ 210 + j = 24 by omega, show ¬ 210 + j = 25 by omega, show ¬ 210 + j = 26 by omega, show ¬ 210 + j = 30 by omega,
    show ¬ 210 + j = 31 by omega, show ¬ 210 + j = 32 by omega, show ¬ 210 + j = 33 by omega, show ¬ 210 + j = 34 by omega, show ¬ 210 + j = 200 by omega, show ¬ 210 + j = 201 by omega, show ¬ 210 + j = 203 by omega, show ¬ 210 + j = 204 by omega, if_false]
  rw [if_neg (by omega), if_neg (by omega), if_pos ⟨by omega, by omega⟩, Nat.add_sub_cancel_left]

theorem wF_short (j : Nat) (hj : j < 63) (m n x v c d : Int) : wF j [m, n, x, v] = wF j [m, n, x, v, c, d] := by
  show (if m = 3 ∧ n = numOf j then newF j x v 0 0 else x) = (if m = 3 ∧ n = numOf j then newF j x v c d else x)
  have : newF j x v 0 0 = newF j x v c d := by
    unfold newF
    by_cases h1 : j = 35
    · simp [h1]
    · by_cases h2 : j < 47
      · simp [h1, h2]
      · simp [h1, h2, hj]
  rw [this]

theorem kE_den {env : Env} (hF : EnvF Phi env) (m n v : E) (cf : List E) (j : Nat) (hj : j < 79) (e : E) :
    (kE m n v cf j e).den env = wF j [m.den env, n.den env, e.den env, v.den env, cAt (cf.map (E.den env)) (j - 63), cAt (cf.map (E.den env)) (j - 62)] := by
  unfold kE
  split
  · rename_i h
    have h : j < 63 := Nat.le_of_ble_eq_true h
    rw [app_den, fW hF _ hj, ← wF_short j h]; rfl
  · rw [app_den, fW hF _ hj]
    simp only [List.map_cons, List.map_nil, elE_den]

theorem wGo_den {env : Env} (hF : EnvF Phi env) {nrm : E → E} (hn : ∀ e, (nrm e).den env = e.den env) (m n v : E) (cf : List E) : ∀ (os : List Fo) (j : Nat) (es : List E), j + os.length ≤ 79 →
    (wGo nrm m n v cf j os es).map (E.den env) = wGoS (m.den env) (n.den env) (v.den env) (cf.map (E.den env)) j os (es.map (E.den env)) := by
  intro os
  induction os with
  | nil => intro j es _; rfl
  | cons o os ih =>
    intro j es hj
    simp only [List.length_cons] at hj
    cases es with
    | nil => rfl
    | cons e es =>
      show (o.ap nrm (nrm (kE m n v cf j e))).den env :: (wGo nrm m n v cf (j + 1) os es).map (E.den env) = _
      rw [ih (j + 1) es (by omega), Fo.ap_den hF hn, hn, kE_den hF m n v cf j (by omega)]
      rfl

theorem cpu_len : cpuOs.length = 79 := rfl

theorem wCells_den {env : Env} (hF : EnvF Phi env) {nrm : E → E} (hn : ∀ e, (nrm e).den env = e.den env) (ps : List E) (n v : E) :
    (wCells nrm ps n v).map (E.den env) = writeS (ps.map (E.den env)) (n.den env) (v.den env) := by
  unfold wCells writeS
  rw [List.map_append, takeL_eq, takeL_eq, dropL_eq, dropL_eq, dropL_eq, wGo_den hF hn _ _ _ _ _ _ _ (by rw [List.length_drop, cpu_len]; decide), elE_den]
  simp only [List.map_take, List.map_drop]

/-! ### Cells -/

theorem opsS_at : ∀ (os : List Fo) (xs : List Int) (i : Nat) (o : Fo) (x : Int), os[i]? = some o → xs[i]? = some x → (opsS os xs)[i]? = some (o.sem x) := by
  intro os
  induction os with
  | nil => intro xs i o x h; simp at h
  | cons o os ih =>
    intro xs i o' x ho hx
    cases xs with
    | nil => simp at hx
    | cons y ys =>
      show (o.sem y :: opsS os ys)[i]? = _
      cases i with
      | zero => simp at ho hx ⊢; rw [ho, hx]
      | succ i => simp only [List.getElem?_cons_succ] at ho hx ⊢; exact ih ys i o' x ho hx

theorem andNot_u64 (x y : Int) : binDen .andNot .u64 x y = ((BitVec.ofInt 64 x &&& ~~~BitVec.ofInt 64 y).toNat : Int) := wrap_u64 _

theorem sem_twice (o : Fo) (x : Int) : o.sem (o.sem x) = o.sem x := by
  cases o with
  | id => rfl
  | zero => rfl
  | off m => simp only [Fo.sem, andNot_u64, ofInt_toNat, BitVec.and_assoc, BitVec.and_self]
  | on m => simp only [Fo.sem, and_u64, ofInt_toNat, BitVec.and_assoc, BitVec.and_self]
  | mode => simp only [Fo.sem, modeF]; split <;> simp
  | stat => exact stat_twice x
  | byte => exact byteF_twice x

theorem opsS_len : ∀ (os : List Fo) (xs : List Int), xs.length = os.length + 3 → (opsS os xs).length = os.length + 3 := by
  intro os
  induction os with
  | nil => intro xs h; match xs, h with | [a, b, c], _ => rfl
  | cons o os ih =>
    intro xs h
    cases xs with
    | nil => simp at h
    | cons x xs =>
      show (opsS os xs).length + 1 = _
      rw [ih xs (by simpa using h)]; simp

/-- The 82 numbers of a Cpu. -/
def cpuV (env : Env) : List Int := (List.range 82).map env.v

theorem vars_range (env : Env) : ∀ n o : Nat, (vars n o).map (E.den env) = (List.range n).map fun i => env.v (o + i) := by
  intro n
  induction n with
  | zero => intro o; rfl
  | succ n ih =>
    intro o
    rw [List.range_succ_eq_map, List.map_cons, List.map_map]
    show (env.v o) :: (vars n (o + 1)).map (E.den env) = _
    rw [ih]
    congr 1
    apply List.map_congr_left
    intro i _
    show env.v (o + 1 + i) = env.v (o + (i + 1))
    congr 1; omega

def properS (env : Env) : List Int := opsS cpuOs (cpuV env)

theorem cpuV_at (env : Env) {i : Nat} (h : i < 82) : (cpuV env)[i]? = some (env.v i) := by
  unfold cpuV; rw [List.getElem?_map, List.getElem?_range h]; rfl

theorem proper_at (env : Env) {i : Nat} {o : Fo} (h : cpuOs[i]? = some o) : (properS env)[i]? = some (o.sem (env.v i)) := by
  have : i < 79 := (List.getElem?_eq_some_iff.1 h).1
  exact opsS_at cpuOs _ i o _ h (cpuV_at env (by omega))

theorem properS_len (env : Env) : (properS env).length = 82 := opsS_len cpuOs _ (by simp [cpuV, cpu_len])

theorem at33 : cpuOs[33]? = some .mode := rfl

theorem properE_den {env : Env} (hF : EnvF Phi env) {b : Bool} (hm : modeF (env.v 33) = if b then 3 else 0) : (properE b).map (E.den env) = properS env := by
  have h0 : (opsE nrmG cpuOs (vars 82 0)).map (E.den env) = properS env := by
    rw [opsE_den hF nrmG_den, vars_range]
    unfold properS cpuV
    simp
  unfold properE
  rw [setL_eq, List.map_set, h0]
  apply List.ext_getElem?
  intro i
  rw [List.getElem?_set]
  split
  · rename_i hi; subst hi
    rw [if_pos (by rw [properS_len]; decide), proper_at env at33]
    show some ((E.lit (if b then 3 else 0)).den env) = some (modeF (env.v 33))
    rw [den_lit, hm]
  · rfl

theorem cAt_of {l : List Int} {i : Nat} {x : Int} (h : l[i]? = some x) : cAt l i = x := by unfold cAt; rw [h]; rfl

theorem os_byte {i : Nat} (h1 : 47 ≤ i) (h2 : i < 63) : cpuOs[i]? = some .byte := by
  have e : cpuOs = (cpuOs.take 47) ++ pmpOs := rfl
  rw [e, List.getElem?_append_right (by rw [List.length_take, cpu_len]; omega)]
  show (List.replicate 16 Fo.byte ++ List.replicate 16 (Fo.on 18014398509481983))[i - 47]? = _
  rw [List.getElem?_append_left (by simp; omega), List.getElem?_replicate, if_pos (by omega)]

theorem os_adr {i : Nat} (h1 : 63 ≤ i) (h2 : i < 79) : cpuOs[i]? = some (.on m54) := by
  have e : cpuOs = (cpuOs.take 47) ++ pmpOs := rfl
  rw [e, List.getElem?_append_right (by rw [List.length_take, cpu_len]; omega)]
  show (List.replicate 16 Fo.byte ++ List.replicate 16 (Fo.on 18014398509481983))[i - 47]? = _
  rw [List.getElem?_append_right (by simp; omega), List.getElem?_replicate]
  simp
  exact ⟨by omega, rfl⟩

/-! ### One cell behind a write -/

theorem lockT_tt (env : Env) (i : Nat) : (lockT (.var i)).tt env = !lockB (env.v i) := by
  show decide (b2i (binDen .and .u8 (env.v i) 128 == 0) ≠ 0) = !decide (binDen .and .u8 (env.v i) 128 ≠ 0)
  by_cases h : binDen .and .u8 (env.v i) 128 = 0
  · simp [h, b2i]
  · have : (binDen .and .u8 (env.v i) 128 == 0) = false := by simpa using h
    rw [this]; simp [b2i, h]

theorem lockB_byte (x : Int) : lockB (byteF x) = lockB x := by
  have h := (byte_facts x).1
  have h : b2i (binDen .and .u8 (byteF x) 128 == 0) = b2i (binDen .and .u8 x 128 == 0) := h
  unfold lockB
  have e : ∀ y : Int, decide (y ≠ 0) = !(y == 0) := fun y => by
    by_cases hy : y = 0
    · simp [hy]
    · have : (y == 0) = false := by simpa using hy
      rw [this]; simp [hy]
  rw [e, e]
  cases h1 : (binDen .and .u8 (byteF x) 128 == 0) <;> cases h2 : (binDen .and .u8 x 128 == 0) <;> rw [h1, h2] at h <;> first | rfl | cases h

theorem kindF_byte (x : Int) : kindF (byteF x) = kindF x := (byte_facts x).2.2.1

theorem isKind_tt (env : Env) (i : Nat) (n : Int) : (isKind (.var i) n).tt env = decide (kindF (env.v i) = n) := by
  unfold isKind
  rw [eqE_tt, den_lit]
  show ((kindT (.var i)).den env == n) = decide ((kindT (.var 0)).den (envL [env.v i]) = n)
  have : (kindT (.var i)).den env = (kindT (.var 0)).den (envL [env.v i]) := rfl
  rw [this, Bool.eq_iff_iff]; simp

theorem mpp_not : ∀ v : Int, binDen .andNot .u64 v 6144 = binDen .and .u64 v 18446744073709545471 := fun v => by
  rw [andNot_u64, and_u64]
  have : ~~~BitVec.ofInt 64 6144 = BitVec.ofInt 64 18446744073709545471 := by decide
  rw [this]

theorem b2i_eq (x y : Int) : decide (b2i (x == y) ≠ 0) = decide (x = y) := by
  by_cases h : x = y
  · simp [h, b2i]
  · have : (x == y) = false := by simpa using h
    rw [this]; simp [h, b2i]

theorem mppIE_tt (env : Env) : mppIE.tt env = decide (binDen .and .u64 (env.v 83) 6144 ≠ 0 ∧ binDen .and .u64 (env.v 83) 6144 ≠ 6144) := by
  unfold mppIE
  rw [tt_ite, tt_lit]
  have e1 : (E.bin .eql .u64 (m12 vE) (.lit 0)).tt env = decide (binDen .and .u64 (env.v 83) 6144 = 0) := b2i_eq _ _
  have e2 : (E.bin .eql .i64 (.bin .eql .u64 (m12 vE) (.lit 6144)) (.lit 0)).tt env = !(E.bin .eql .u64 (m12 vE) (.lit 6144)).tt env := unNot_tt rfl
  have e3 : (E.bin .eql .u64 (m12 vE) (.lit 6144)).tt env = decide (binDen .and .u64 (env.v 83) 6144 = 6144) := b2i_eq _ _
  rw [e1, e2, e3]
  by_cases h0 : binDen .and .u64 (env.v 83) 6144 = 0
  · simp [h0, intBeq_eq]
  · by_cases h1 : binDen .and .u64 (env.v 83) 6144 = 6144 <;> simp [h1, h0]

theorem mstE_den {env : Env} (hF : EnvF Phi env) {c : E} (hc : c.tt env = mppIE.tt env) : (mstE c).den env = Go.Sx.stat (mppF (env.v 83) (Go.Sx.stat (env.v 35))) := by
  unfold mstE
  rw [app1_den, f20 hF]
  show Go.Sx.stat ((E.ite c _ vE).den env) = _
  rw [den_ite, hc, mppIE_tt]
  congr 1
  unfold mppF
  by_cases h : binDen .and .u64 (env.v 83) 6144 ≠ 0 ∧ binDen .and .u64 (env.v 83) 6144 ≠ 6144
  · rw [if_pos (decide_eq_true h), if_pos h, mpp_not]
    show binDen .or .u64 (binDen .and .u64 (env.v 83) 18446744073709545471) (binDen .and .u64 (env.f 20 [env.v 35]) 6144) = _
    rw [f20 hF]; rfl
  · rw [if_neg (by simpa using h), if_neg h]; rfl

theorem cfgE_den {env : Env} (hF : EnvF Phi env) (i : Nat) : (cfgE i).den env = byteF (if lockB (byteF (env.v (47 + i))) then byteF (env.v (47 + i)) else IntKind.u8.wrap (binDen .shr .u64 (env.v 83) ((8 * (i % 8) : Nat) : Int))) := by
  unfold cfgE
  rw [den_ite, lockT_tt, lockB_byte]
  cases lockB (env.v (47 + i)) with
  | true => simp only [Bool.not_true, Bool.false_eq_true, if_false, if_true]; rw [app1_den, f21 hF, byteF_twice]; rfl
  | false =>
    simp only [Bool.not_false, Bool.false_eq_true, if_false, if_true]; rw [app1_den, f21 hF]
    rfl

theorem heldIE_tt (env : Env) (i : Nat) : (heldIE i).tt env = (lockB (env.v (47 + i)) || (lockB (env.v (48 + i)) && decide (kindF (env.v (48 + i)) = 1))) := by
  unfold heldIE
  rw [tt_ite, tt_ite, lockT_tt, lockT_tt, isKind_tt, tt_lit, tt_lit]
  cases lockB (env.v (47 + i)) <;> cases lockB (env.v (48 + i)) <;> simp [intBeq_eq]

theorem heldRE_tt (env : Env) (i : Nat) : (heldRE i).tt env = (heldIE i).tt env := by
  rw [heldIE_tt]
  unfold heldRE
  rw [tt_ite, tt_ite, ntE_tt, lockT_tt, lockT_tt, isKind_tt, tt_lit, tt_lit]
  cases lockB (env.v (47 + i)) <;> cases lockB (env.v (48 + i)) <;> simp [intBeq_eq] <;> split <;> simp_all

theorem a54_den (env : Env) (e : E) : (a54 e).den env = binDen .and .u64 (e.den env) m54 := rfl

theorem adrE_den {env : Env} {held : Nat → E} {i : Nat} (hh : i < 15 → (held i).tt env = (heldIE i).tt env) (hi : i < 16) :
    (adrE held i).den env = binDen .and .u64 (if lockB (byteF (env.v (47 + i))) || (decide (i < 15) && (lockB (byteF (env.v (48 + i))) && decide (kindF (byteF (env.v (48 + i))) = 1))) then env.v (63 + i) else env.v 83) m54 := by
  unfold adrE
  rw [lockB_byte, lockB_byte, kindF_byte]
  split
  · rename_i h
    have h := Nat.eq_of_beq_eq_true h
    subst h
    rw [den_ite, lockT_tt, a54_den, a54_den]
    simp only [Nat.lt_irrefl, decide_false, Bool.false_and, Bool.or_false]
    cases lockB (env.v (47 + 15)) <;> rfl
  · rename_i h
    have h : i < 15 := by
      have : i ≠ 15 := fun he => h (by rw [he]; rfl)
      omega
    rw [den_ite, hh h, heldIE_tt, a54_den, a54_den]
    simp only [h, decide_true, Bool.true_and]
    cases (lockB (env.v (47 + i)) || (lockB (env.v (48 + i)) && decide (kindF (env.v (48 + i)) = 1))) <;> rfl

end Go.Proofs.Ytibfaifjnifgjaa
