/-
  The summaries of Check and Granted. No condition.
-/
import Derived.Test.YtibfaifjnifgjaaPmpMatch2
namespace Go.Proofs.Ytibfaifjnifgjaa
open Go.Sx Go.RowKit

noncomputable def sgK (nrm : E → E) : FuncId → List C → Option C := sgOr (sgMatch nrm) (sgM nrm)
theorem sgK_ok {env : Env} (hF : EnvF Phi env) {nrm : E → E} (hn : ∀ e, (nrm e).den env = e.den env) : SgF env Try.prog (sgK nrm) := (sgMatch_ok hF hn).or (sgM_ok hF hn)

/-! ### The terms -/

def canonV : List E := (List.range 16).map cT ++ (List.range 16).map aT
noncomputable def argV (rest : List E) : E := listE (canonV ++ rest)

def szT : E := .ite (ltE (.var 34) (.lit 1)) (.lit 1) (.ite (ltE (.lit 8) (.var 34)) (.lit 1) (.ite (ltE (.var 35) (.lit 1)) (.lit 1) (ltE (.lit 7) (.var 35))))
def badT : E := .ite (.var 32) (.ite (eqE (.var 32) (.lit 3)) szT (.lit 1)) szT
noncomputable def okmT : E := .app 31 (argV [.var 33, .var 34])
def fitT (i : Nat) : E := eqE (.bin .and .i64 (.conv .i64 (cT i)) (.var 35)) (.var 35)
def freeT (i : Nat) : E := .ite (eqE (.var 32) (.lit 3)) (lockT (.var i)) (.lit 0)
noncomputable def checkI (i : Nat) : E := .ite badT (.lit 0) (.ite (.ite okmT (freeT i) (.lit 1)) okmT (fitT i))
noncomputable def checkR (i : Nat) : E := .ite badT (.lit 0) (.ite okmT (.ite (freeT i) (.lit 1) (fitT i)) (.lit 0))
def checkN : E := .ite badT (.lit 0) (eqE (.var 32) (.lit 3))
noncomputable def atEqs (rest : List E) (j : Int) : List (E × E) := [(.app 30 (argV rest), .lit j)]

def checkSh : List Sh := [.agg pmpKs, .one (some .i64), .one (some .u64), .one (some .i64), .one (some .i64)]
def grantSh : List Sh := [.agg pmpKs, .one (some .u64), .one (some .i64)]

noncomputable def checkRun (f : Nat) (R : E) (j : Int) : Bool := leafIs (.bool R) (evFn (sumK (sgK (nrmS (atEqs [.var 33, .var 34] j))) (atEqs [.var 33, .var 34] j) (fun _ => false)) 1000 f (varsA checkSh 0) [])

def grantT (i : Nat) : E := ntE (eqE (.bin .and .i64 (.bin .and .i64 (.conv .i64 (cT i)) (.var 33)) (.lit 7)) (.lit 0))
noncomputable def grantRun (f : Nat) (R : E) (j : Int) : Bool := leafIs (.bool R) (evFn (sumK (sgK (nrmS (atEqs [.var 32, .lit 1] j))) (atEqs [.var 32, .lit 1] j) (fun _ => false)) 1000 f (varsA grantSh 0) [])

theorem below16P {p : Nat → Prop} (h0 : p 0) (h1 : p 1) (h2 : p 2) (h3 : p 3) (h4 : p 4) (h5 : p 5) (h6 : p 6) (h7 : p 7) (h8 : p 8) (h9 : p 9) (h10 : p 10) (h11 : p 11) (h12 : p 12) (h13 : p 13) (h14 : p 14) (h15 : p 15) :
    ∀ i, i < 16 → p i := by
  intro i hi
  match i, hi with
  | 0, _ => exact h0
  | 1, _ => exact h1
  | 2, _ => exact h2
  | 3, _ => exact h3
  | 4, _ => exact h4
  | 5, _ => exact h5
  | 6, _ => exact h6
  | 7, _ => exact h7
  | 8, _ => exact h8
  | 9, _ => exact h9
  | 10, _ => exact h10
  | 11, _ => exact h11
  | 12, _ => exact h12
  | 13, _ => exact h13
  | 14, _ => exact h14
  | 15, _ => exact h15
  | n + 16, h => exact absurd h (by omega)

theorem c67_n : checkRun 67 checkN (-1) = true := by kernel_rfl
theorem c67_0 : checkRun 67 (checkI 0) (Int.ofNat 0) = true := by kernel_rfl
theorem c67_1 : checkRun 67 (checkI 1) (Int.ofNat 1) = true := by kernel_rfl
theorem c67_2 : checkRun 67 (checkI 2) (Int.ofNat 2) = true := by kernel_rfl
theorem c67_3 : checkRun 67 (checkI 3) (Int.ofNat 3) = true := by kernel_rfl
theorem c67_4 : checkRun 67 (checkI 4) (Int.ofNat 4) = true := by kernel_rfl
theorem c67_5 : checkRun 67 (checkI 5) (Int.ofNat 5) = true := by kernel_rfl
theorem c67_6 : checkRun 67 (checkI 6) (Int.ofNat 6) = true := by kernel_rfl
theorem c67_7 : checkRun 67 (checkI 7) (Int.ofNat 7) = true := by kernel_rfl
theorem c67_8 : checkRun 67 (checkI 8) (Int.ofNat 8) = true := by kernel_rfl
theorem c67_9 : checkRun 67 (checkI 9) (Int.ofNat 9) = true := by kernel_rfl
theorem c67_10 : checkRun 67 (checkI 10) (Int.ofNat 10) = true := by kernel_rfl
theorem c67_11 : checkRun 67 (checkI 11) (Int.ofNat 11) = true := by kernel_rfl
theorem c67_12 : checkRun 67 (checkI 12) (Int.ofNat 12) = true := by kernel_rfl
theorem c67_13 : checkRun 67 (checkI 13) (Int.ofNat 13) = true := by kernel_rfl
theorem c67_14 : checkRun 67 (checkI 14) (Int.ofNat 14) = true := by kernel_rfl
theorem c67_15 : checkRun 67 (checkI 15) (Int.ofNat 15) = true := by kernel_rfl
theorem c67 : ∀ i, i < 16 → checkRun 67 (checkI i) (Int.ofNat i) = true := below16P (p := fun i => checkRun 67 (checkI i) (Int.ofNat i) = true) c67_0 c67_1 c67_2 c67_3 c67_4 c67_5 c67_6 c67_7 c67_8 c67_9 c67_10 c67_11 c67_12 c67_13 c67_14 c67_15
theorem c68_n : checkRun 68 checkN (-1) = true := by kernel_rfl
theorem c68_0 : checkRun 68 (checkR 0) (Int.ofNat 0) = true := by kernel_rfl
theorem c68_1 : checkRun 68 (checkR 1) (Int.ofNat 1) = true := by kernel_rfl
theorem c68_2 : checkRun 68 (checkR 2) (Int.ofNat 2) = true := by kernel_rfl
theorem c68_3 : checkRun 68 (checkR 3) (Int.ofNat 3) = true := by kernel_rfl
theorem c68_4 : checkRun 68 (checkR 4) (Int.ofNat 4) = true := by kernel_rfl
theorem c68_5 : checkRun 68 (checkR 5) (Int.ofNat 5) = true := by kernel_rfl
theorem c68_6 : checkRun 68 (checkR 6) (Int.ofNat 6) = true := by kernel_rfl
theorem c68_7 : checkRun 68 (checkR 7) (Int.ofNat 7) = true := by kernel_rfl
theorem c68_8 : checkRun 68 (checkR 8) (Int.ofNat 8) = true := by kernel_rfl
theorem c68_9 : checkRun 68 (checkR 9) (Int.ofNat 9) = true := by kernel_rfl
theorem c68_10 : checkRun 68 (checkR 10) (Int.ofNat 10) = true := by kernel_rfl
theorem c68_11 : checkRun 68 (checkR 11) (Int.ofNat 11) = true := by kernel_rfl
theorem c68_12 : checkRun 68 (checkR 12) (Int.ofNat 12) = true := by kernel_rfl
theorem c68_13 : checkRun 68 (checkR 13) (Int.ofNat 13) = true := by kernel_rfl
theorem c68_14 : checkRun 68 (checkR 14) (Int.ofNat 14) = true := by kernel_rfl
theorem c68_15 : checkRun 68 (checkR 15) (Int.ofNat 15) = true := by kernel_rfl
theorem c68 : ∀ i, i < 16 → checkRun 68 (checkR i) (Int.ofNat i) = true := below16P (p := fun i => checkRun 68 (checkR i) (Int.ofNat i) = true) c68_0 c68_1 c68_2 c68_3 c68_4 c68_5 c68_6 c68_7 c68_8 c68_9 c68_10 c68_11 c68_12 c68_13 c68_14 c68_15
theorem g63_n : grantRun 63 (.lit 0) (-1) = true := by kernel_rfl
theorem g63_0 : grantRun 63 (grantT 0) (Int.ofNat 0) = true := by kernel_rfl
theorem g63_1 : grantRun 63 (grantT 1) (Int.ofNat 1) = true := by kernel_rfl
theorem g63_2 : grantRun 63 (grantT 2) (Int.ofNat 2) = true := by kernel_rfl
theorem g63_3 : grantRun 63 (grantT 3) (Int.ofNat 3) = true := by kernel_rfl
theorem g63_4 : grantRun 63 (grantT 4) (Int.ofNat 4) = true := by kernel_rfl
theorem g63_5 : grantRun 63 (grantT 5) (Int.ofNat 5) = true := by kernel_rfl
theorem g63_6 : grantRun 63 (grantT 6) (Int.ofNat 6) = true := by kernel_rfl
theorem g63_7 : grantRun 63 (grantT 7) (Int.ofNat 7) = true := by kernel_rfl
theorem g63_8 : grantRun 63 (grantT 8) (Int.ofNat 8) = true := by kernel_rfl
theorem g63_9 : grantRun 63 (grantT 9) (Int.ofNat 9) = true := by kernel_rfl
theorem g63_10 : grantRun 63 (grantT 10) (Int.ofNat 10) = true := by kernel_rfl
theorem g63_11 : grantRun 63 (grantT 11) (Int.ofNat 11) = true := by kernel_rfl
theorem g63_12 : grantRun 63 (grantT 12) (Int.ofNat 12) = true := by kernel_rfl
theorem g63_13 : grantRun 63 (grantT 13) (Int.ofNat 13) = true := by kernel_rfl
theorem g63_14 : grantRun 63 (grantT 14) (Int.ofNat 14) = true := by kernel_rfl
theorem g63_15 : grantRun 63 (grantT 15) (Int.ofNat 15) = true := by kernel_rfl
theorem g63 : ∀ i, i < 16 → grantRun 63 (grantT i) (Int.ofNat i) = true := below16P (p := fun i => grantRun 63 (grantT i) (Int.ofNat i) = true) g63_0 g63_1 g63_2 g63_3 g63_4 g63_5 g63_6 g63_7 g63_8 g63_9 g63_10 g63_11 g63_12 g63_13 g63_14 g63_15
theorem g64_n : grantRun 64 (.lit 0) (-1) = true := by kernel_rfl
theorem g64_0 : grantRun 64 (grantT 0) (Int.ofNat 0) = true := by kernel_rfl
theorem g64_1 : grantRun 64 (grantT 1) (Int.ofNat 1) = true := by kernel_rfl
theorem g64_2 : grantRun 64 (grantT 2) (Int.ofNat 2) = true := by kernel_rfl
theorem g64_3 : grantRun 64 (grantT 3) (Int.ofNat 3) = true := by kernel_rfl
theorem g64_4 : grantRun 64 (grantT 4) (Int.ofNat 4) = true := by kernel_rfl
theorem g64_5 : grantRun 64 (grantT 5) (Int.ofNat 5) = true := by kernel_rfl
theorem g64_6 : grantRun 64 (grantT 6) (Int.ofNat 6) = true := by kernel_rfl
theorem g64_7 : grantRun 64 (grantT 7) (Int.ofNat 7) = true := by kernel_rfl
theorem g64_8 : grantRun 64 (grantT 8) (Int.ofNat 8) = true := by kernel_rfl
theorem g64_9 : grantRun 64 (grantT 9) (Int.ofNat 9) = true := by kernel_rfl
theorem g64_10 : grantRun 64 (grantT 10) (Int.ofNat 10) = true := by kernel_rfl
theorem g64_11 : grantRun 64 (grantT 11) (Int.ofNat 11) = true := by kernel_rfl
theorem g64_12 : grantRun 64 (grantT 12) (Int.ofNat 12) = true := by kernel_rfl
theorem g64_13 : grantRun 64 (grantT 13) (Int.ofNat 13) = true := by kernel_rfl
theorem g64_14 : grantRun 64 (grantT 14) (Int.ofNat 14) = true := by kernel_rfl
theorem g64_15 : grantRun 64 (grantT 15) (Int.ofNat 15) = true := by kernel_rfl
theorem g64 : ∀ i, i < 16 → grantRun 64 (grantT i) (Int.ofNat i) = true := below16P (p := fun i => grantRun 64 (grantT i) (Int.ofNat i) = true) g64_0 g64_1 g64_2 g64_3 g64_4 g64_5 g64_6 g64_7 g64_8 g64_9 g64_10 g64_11 g64_12 g64_13 g64_14 g64_15

/-! ### What the numbers say -/

theorem firstF_range (l : List Int) (a : Int) (n : Nat) : ∀ m i, firstF l a n m i = -1 ∨ ∃ j : Nat, i ≤ j ∧ j < i + m ∧ firstF l a n m i = (j : Int) := by
  intro m
  induction m with
  | zero => intro i; exact .inl rfl
  | succ m ih =>
    intro i
    simp only [firstF]
    split
    · exact .inr ⟨i, Nat.le_refl _, by omega, rfl⟩
    · rcases ih (i + 1) with h | ⟨j, h1, h2, h3⟩
      · exact .inl h
      · exact .inr ⟨j, by omega, by omega, h3⟩

theorem matchI_range (l : List Int) (a s : Int) : matchI l a s = -1 ∨ ∃ j : Nat, j < 16 ∧ matchI l a s = (j : Int) := by
  unfold matchI
  split
  · rcases firstF_range l a s.toNat 16 0 with h | ⟨j, _, h2, h3⟩
    · exact .inl h
    · exact .inr ⟨j, by omega, h3⟩
  · exact .inl rfl

/-- Lists that agree in the entries. -/
def SameP (l l' : List Int) : Prop := ∀ i, i < 16 → cfgAt l i = cfgAt l' i ∧ adrAt l i = adrAt l' i

section
variable {l l' : List Int}

theorem holds_congr (h : SameP l l') {i : Nat} (hi : i < 16) (b : Int) : holdsF l i b = holdsF l' i b := by
  have hp : prevAt l i = prevAt l' i := by
    unfold prevAt
    split
    · rfl
    · exact (h (i - 1) (by omega)).2
  unfold holdsF
  rw [(h i hi).1, (h i hi).2, hp]

theorem cnt_congr (h : SameP l l') {i : Nat} (hi : i < 16) (a : Int) : ∀ n, cntF l i a n = cntF l' i a n := by
  intro n
  induction n with
  | zero => rfl
  | succ n ih => simp only [cntF]; rw [ih, holds_congr h hi]

theorem first_congr (h : SameP l l') (a : Int) (n : Nat) : ∀ m i, i + m ≤ 16 → firstF l a n m i = firstF l' a n m i := by
  intro m
  induction m with
  | zero => intro i _; rfl
  | succ m ih => intro i hi; simp only [firstF]; rw [cnt_congr h (by omega), ih (i + 1) (by omega)]

theorem matchI_congr (h : SameP l l') (a s : Int) : matchI l a s = matchI l' a s := by
  unfold matchI; rw [first_congr h a _ 16 0 (by omega)]

theorem matchOk_congr (h : SameP l l') (a s : Int) : matchOk l a s = matchOk l' a s := by
  unfold matchOk
  rw [matchI_congr h]
  split
  · rfl
  · rename_i hn
    rcases matchI_range l' a s with h0 | ⟨j, hj, he⟩
    · rw [h0] at hn; omega
    · rw [he, Int.toNat_natCast, cnt_congr h hj]
end

theorem canonV_den {env : Env} (hF : EnvF Phi env) {nrm : E → E} (hn : ∀ e, (nrm e).den env = e.den env) (es : List E) (hl : 32 ≤ es.length) :
    canonV.map (E.den (withV env (es.map (E.den env)))) = (canonP nrm es).map (E.den env) := by
  unfold canonV canonP
  rw [List.map_append, List.map_append]
  congr 1
  · rw [List.map_map, List.map_map]
    refine List.map_congr_left fun i hi => ?_
    have hi : i < 16 := by simpa using hi
    show env.f 21 [(E.var i).den (withV env (es.map (E.den env)))] = (pushB (getE es i)).den env
    rw [withV_var env es i (by omega), f21 hF, pushB_den hF]; rfl
  · rw [List.map_map, List.map_map]
    refine List.map_congr_left fun i hi => ?_
    have hi : i < 16 := by simpa using hi
    exact a54_nrm hn es (16 + i) (by omega)

theorem same_rest (l r r' : List Int) (h : l.length = 32) : SameP (l ++ r) (l ++ r') := by
  intro i hi
  unfold cfgAt adrAt
  rw [List.getElem?_append_left (by omega), List.getElem?_append_left (by omega), List.getElem?_append_left (by omega), List.getElem?_append_left (by omega)]
  exact ⟨rfl, rfl⟩

theorem canonP_length (nrm : E → E) (es : List E) : (canonP nrm es).length = 32 := by simp [canonP]

theorem f32 {env : Env} (h : EnvF Phi env) (l : List Int) : env.f 32 l = checkF l (cAt l 32) (cAt l 33) (cAt l 34) (cAt l 35) := h.1 32 l (by decide)
theorem f33 {env : Env} (h : EnvF Phi env) (l : List Int) : env.f 33 l = grantF l (cAt l 32) (cAt l 33) := h.1 33 l (by decide)

theorem lock_byte (x : Int) (env : Env) (e : E) (h : e.den env = x) : (lockT e).tt env = !lockB (byteF x) := by
  have h1 : (lockT e).den env = (lockT (.var 0)).den (envL [x]) := by
    show b2i (binDen .and .u8 (e.den env) 128 == 0) = b2i (binDen .and .u8 x 128 == 0)
    rw [h]
  unfold E.tt
  rw [h1, ← (byte_facts x).1]
  unfold lockB
  show decide (b2i (binDen .and .u8 (byteF x) 128 == 0) ≠ 0) = !decide (binDen .and .u8 (byteF x) 128 ≠ 0)
  by_cases hz : binDen .and .u8 (byteF x) 128 = 0
  · simp [hz, b2i]
  · have : (binDen .and .u8 (byteF x) 128 == 0) = false := by simpa using hz
    rw [this]; simp [hz, b2i]

section
variable {env : Env} {nrm : E → E} {es : List E}

/-- What is known of the variables of such a run. -/
structure At (env : Env) (nrm : E → E) (es : List E) (env' : Env) (L : List Int) : Prop where
  f : EnvF Phi env'
  l : L.length = 32
  e : L = (canonP nrm es).map (E.den env)
  canon : canonV.map (E.den env') = L
  v : ∀ i, i < es.length → (E.var i).den env' = (getE es i).den env
  cfg : ∀ i, i < 16 → cfgAt L i = byteF ((E.var i).den env')

theorem at_of (hF : EnvF Phi env) (hn : ∀ e, (nrm e).den env = e.den env) (hl : 32 ≤ es.length) : At env nrm es (withV env (es.map (E.den env))) ((canonP nrm es).map (E.den env)) where
  f := hF.withV _
  l := by rw [List.length_map, canonP_length]
  e := rfl
  canon := canonV_den hF hn es hl
  v i hi := withV_var env es i hi
  cfg i hi := by
    have := canon_cfg hF nrm es [] hi
    rw [List.append_nil] at this
    rw [this, withV_var env es i (by omega)]

theorem argV_den (env' : Env) (g : Nat) (rest : List E) {L : List Int} (h : canonV.map (E.den env') = L) : (E.app g (argV rest)).den env' = env'.f g (L ++ rest.map (E.den env')) := by
  unfold argV
  rw [appL_den, List.map_append, h]

theorem cfg_app {L r : List Int} (hl : L.length = 32) {i : Nat} (hi : i < 16) : cfgAt (L ++ r) i = cfgAt L i := by
  unfold cfgAt; rw [List.getElem?_append_left (by omega)]

theorem rest_app {L : List Int} (hl : L.length = 32) (r : List Int) (i : Nat) : cAt (L ++ r) (32 + i) = cAt r i := by
  unfold cAt; rw [List.getElem?_append_right (by omega), show 32 + i - L.length = i by omega]

theorem v32_tt (env' : Env) (i : Nat) : (E.var i).tt env' = decide (env'.v i ≠ 0) := rfl

theorem badT_tt (env' : Env) : badT.tt env' = !decide ((env'.v 32 = 0 ∨ env'.v 32 = 3) ∧ 1 ≤ env'.v 34 ∧ env'.v 34 ≤ 8 ∧ 1 ≤ env'.v 35 ∧ env'.v 35 ≤ 7) := by
  have d : ∀ i, (E.var i).den env' = env'.v i := fun i => rfl
  unfold badT szT
  simp only [tt_ite, ltE_tt, eqE_tt, v32_tt, den_lit, tt_lit, d, beq_dec]
  by_cases h0 : env'.v 32 = 0 <;> by_cases h3 : env'.v 32 = 3 <;> by_cases h1 : env'.v 34 < 1 <;> by_cases h8 : 8 < env'.v 34 <;> by_cases b1 : env'.v 35 < 1 <;> by_cases b7 : 7 < env'.v 35 <;>
    simp [h0, h3, h1, h8, b1, b7, intBeq_eq] <;> omega

theorem fit_tt {env' : Env} (hF : EnvF Phi env') (i : Nat) : (fitT i).tt env' = decide (binDen .and .i64 (IntKind.i64.wrap (byteF (env'.v i))) (env'.v 35) = env'.v 35) := by
  unfold fitT
  rw [eqE_tt, beq_dec]
  show decide (binDen .and .i64 (IntKind.i64.wrap (env'.f 21 [env'.v i])) (env'.v 35) = env'.v 35) = _
  rw [f21 hF]; rfl

theorem free_tt (env' : Env) (i : Nat) : (freeT i).tt env' = decide (env'.v 32 = 3 ∧ lockB (byteF (env'.v i)) = false) := by
  unfold freeT
  rw [tt_ite, eqE_tt, lock_byte (env'.v i) env' (.var i) rfl, den_lit, beq_dec, tt_lit]
  by_cases h : env'.v 32 = 3
  · have : (E.var 32).den env' = 3 := h
    simp [this, h]
  · have : ¬ (E.var 32).den env' = 3 := h
    simp [this, h, intBeq_eq]

/-- What Check answers where Match's number is known. -/
theorem check_num (hA : At env nrm es (withV env (es.map (E.den env))) ((canonP nrm es).map (E.den env))) (env' : Env) (he : env' = withV env (es.map (E.den env))) {L2 : List Int}
    (hS : SameP L2 ((canonP nrm es).map (E.den env))) (hc : ∀ i, i < 16 → cfgAt L2 i = byteF (env'.v i)) :
    (matchI L2 (env'.v 33) (env'.v 34) = -1 → checkN.tt env' = decide (checkF L2 (env'.v 32) (env'.v 33) (env'.v 34) (env'.v 35) ≠ 0)) ∧
    (∀ i : Nat, i < 16 → matchI L2 (env'.v 33) (env'.v 34) = (i : Int) → (checkI i).tt env' = decide (checkF L2 (env'.v 32) (env'.v 33) (env'.v 34) (env'.v 35) ≠ 0) ∧ (checkR i).tt env' = decide (checkF L2 (env'.v 32) (env'.v 33) (env'.v 34) (env'.v 35) ≠ 0)) := by
  have bt := badT_tt env'
  have hok : okmT.tt env' = decide (matchOk L2 (env'.v 33) (env'.v 34) ≠ 0) := by
    unfold okmT E.tt
    rw [argV_den env' 31 _ (L := (canonP nrm es).map (E.den env)) (by rw [he]; exact hA.canon), f31 (by rw [he]; exact hA.f)]
    have e1 : cAt ((canonP nrm es).map (E.den env) ++ [E.var 33, E.var 34].map (E.den env')) 32 = env'.v 33 := rest_app hA.l _ 0
    have e2 : cAt ((canonP nrm es).map (E.den env) ++ [E.var 33, E.var 34].map (E.den env')) 33 = env'.v 34 := rest_app hA.l _ 1
    rw [e1, e2]
    have h1 : SameP ((canonP nrm es).map (E.den env) ++ [E.var 33, E.var 34].map (E.den env')) L2 := fun i hi => by
      have h2 := hS i hi
      have h3 := same_rest ((canonP nrm es).map (E.den env)) ([E.var 33, E.var 34].map (E.den env')) [] hA.l i hi
      rw [List.append_nil] at h3
      exact ⟨h3.1.trans h2.1.symm, h3.2.trans h2.2.symm⟩
    rw [matchOk_congr h1]
  have e3 : (eqE (.var 32) (.lit 3)).tt env' = decide (env'.v 32 = 3) := by rw [eqE_tt, beq_dec]; rfl
  unfold checkF
  by_cases hgood : (env'.v 32 = 0 ∨ env'.v 32 = 3) ∧ 1 ≤ env'.v 34 ∧ env'.v 34 ≤ 8 ∧ 1 ≤ env'.v 35 ∧ env'.v 35 ≤ 7
  · rw [if_pos hgood]
    have bt : badT.tt env' = false := by rw [bt]; simp [hgood]
    refine ⟨fun hm => ?_, fun i hi hm => ?_⟩
    · rw [hm, if_pos (by decide)]
      unfold checkN
      rw [tt_ite, bt, e3]
      by_cases h3 : env'.v 32 = 3 <;> simp [h3, b2i]
    · have hfit := fit_tt (env' := env') (by rw [he]; exact hA.f) i
      have hfree := free_tt env' i
      rw [hm, if_neg (by omega), Int.toNat_natCast, hc i hi]
      unfold checkI checkR
      simp only [tt_ite, bt, hok, hfit, hfree, tt_lit]
      by_cases ho : matchOk L2 (env'.v 33) (env'.v 34) = 0
      · simp [ho, intBeq_eq]
      · by_cases hfr : env'.v 32 = 3 ∧ lockB (byteF (env'.v i)) = false
        · simp [ho, hfr, intBeq_eq]
        · have hfr' : decide (env'.v 32 = 3 ∧ lockB (byteF (env'.v i)) = false) = false := decide_eq_false hfr
          rw [if_neg ho, if_neg hfr, hfr']
          by_cases hb : binDen .and .i64 (IntKind.i64.wrap (byteF (env'.v i))) (env'.v 35) = env'.v 35 <;> simp [ho, hb, b2i, intBeq_eq]
  · rw [if_neg hgood]
    have bt : badT.tt env' = true := by rw [bt]; simp [hgood]
    unfold checkN checkI checkR
    simp only [tt_ite, bt, tt_lit]
    simp [intBeq_eq]

theorem grant_num {env' : Env} (hF : EnvF Phi env') {L2 : List Int} (hc : ∀ i, i < 16 → cfgAt L2 i = byteF (env'.v i)) {i : Nat} (hi : i < 16) (hm : matchI L2 (env'.v 32) 1 = (i : Int)) :
    (grantT i).tt env' = decide (grantF L2 (env'.v 32) (env'.v 33) ≠ 0) := by
  unfold grantF
  rw [hm, if_neg (by omega), Int.toNat_natCast, hc i hi]
  unfold grantT
  rw [ntE_tt, eqE_tt, beq_dec]
  have e : (E.bin .and .i64 (.bin .and .i64 (.conv .i64 (cT i)) (.var 33)) (.lit 7)).den env' = binDen .and .i64 (binDen .and .i64 (IntKind.i64.wrap (byteF (env'.v i))) (env'.v 33)) 7 := by
    show binDen .and .i64 (binDen .and .i64 (IntKind.i64.wrap (env'.f 21 [env'.v i])) (env'.v 33)) 7 = _
    rw [f21 hF]; rfl
  rw [e, den_lit]
  by_cases hz : binDen .and .i64 (binDen .and .i64 (IntKind.i64.wrap (byteF (env'.v i))) (env'.v 33)) 7 = 0 <;> simp [hz, b2i]
end

/-! ### The summaries -/

noncomputable def sgCheck (nrm : E → E) (f : FuncId) (vs : List C) : Option C :=
  if Nat.beq f 67 || Nat.beq f 68 then match parseA checkSh vs with
    | some es => some (.bool (nrm (.app 32 (listE (canonP nrm es ++ [getE es 32, getE es 33, getE es 34, getE es 35])))))
    | none => none
  else none

noncomputable def sgGrant (nrm : E → E) (f : FuncId) (vs : List C) : Option C :=
  if Nat.beq f 63 || Nat.beq f 64 then match parseA grantSh vs with
    | some es => some (.bool (nrm (.app 33 (listE (canonP nrm es ++ [getE es 32, getE es 33])))))
    | none => none
  else none

theorem atEqs_ok {env' : Env} {rest : List E} {j : Int} (h : (E.app 30 (argV rest)).den env' = j) : ∀ p ∈ atEqs rest j, p.1.den env' = p.2.den env' := by
  intro p hp
  rw [List.mem_singleton.1 hp]; exact h

theorem at30 {env : Env} {nrm : E → E} {es : List E} {env' : Env} {L : List Int} (hA : At env nrm es env' L) (a s : E) {L2 : List Int} (hS : SameP L2 L) : (E.app 30 (argV [a, s])).den env' = matchI L2 (a.den env') (s.den env') := by
  rw [argV_den env' 30 _ hA.canon, f30 hA.f]
  have e1 : cAt (L ++ [a, s].map (E.den env')) 32 = a.den env' := rest_app hA.l _ 0
  have e2 : cAt (L ++ [a, s].map (E.den env')) 33 = s.den env' := rest_app hA.l _ 1
  rw [e1, e2]
  refine matchI_congr (fun i hi => ?_) _ _
  have h2 := hS i hi
  have h3 := same_rest L ([a, s].map (E.den env')) [] hA.l i hi
  rw [List.append_nil] at h3
  exact ⟨h3.1.trans h2.1.symm, h3.2.trans h2.2.symm⟩

set_option maxRecDepth 100000 in
theorem check_same {env : Env} (hF : EnvF Phi env) {nrm : E → E} (hn : ∀ e, (nrm e).den env = e.den env) (es : List E) (hlen : es.length = 36) {f : Nat} (hf : Nat.beq f 67 = true ∨ Nat.beq f 68 = true) :
    ∃ (j : Int) (R : E), (∀ p ∈ atEqs [.var 33, .var 34] j, p.1.den (withV env (es.map (E.den env))) = p.2.den (withV env (es.map (E.den env)))) ∧ checkRun f R j = true ∧
      C.same (withV env (es.map (E.den env))) env (.bool R) (.bool (nrm (.app 32 (listE (canonP nrm es ++ [getE es 32, getE es 33, getE es 34, getE es 35]))))) := by
  have hA := at_of (nrm := nrm) (es := es) hF hn (by omega)
  have hS : SameP ((canonP nrm es).map (E.den env) ++ [(getE es 32).den env, (getE es 33).den env, (getE es 34).den env, (getE es 35).den env]) ((canonP nrm es).map (E.den env)) := by
    have := same_rest ((canonP nrm es).map (E.den env)) [(getE es 32).den env, (getE es 33).den env, (getE es 34).den env, (getE es 35).den env] [] hA.l
    rwa [List.append_nil] at this
  have hc : ∀ i, i < 16 → cfgAt ((canonP nrm es).map (E.den env) ++ [(getE es 32).den env, (getE es 33).den env, (getE es 34).den env, (getE es 35).den env]) i = byteF ((withV env (es.map (E.den env))).v i) := fun i hi => by
    rw [cfg_app hA.l hi]; exact hA.cfg i hi
  obtain ⟨k1, k2⟩ := check_num hA _ rfl hS hc
  have v32 : (withV env (es.map (E.den env))).v 32 = (getE es 32).den env := hA.v 32 (by omega)
  have v33 : (withV env (es.map (E.den env))).v 33 = (getE es 33).den env := hA.v 33 (by omega)
  have v34 : (withV env (es.map (E.den env))).v 34 = (getE es 34).den env := hA.v 34 (by omega)
  have v35 : (withV env (es.map (E.den env))).v 35 = (getE es 35).den env := hA.v 35 (by omega)
  have e32 : (nrm (.app 32 (listE (canonP nrm es ++ [getE es 32, getE es 33, getE es 34, getE es 35])))).tt env = decide (checkF ((canonP nrm es).map (E.den env) ++ [(getE es 32).den env, (getE es 33).den env, (getE es 34).den env, (getE es 35).den env])
      ((withV env (es.map (E.den env))).v 32) ((withV env (es.map (E.den env))).v 33) ((withV env (es.map (E.den env))).v 34) ((withV env (es.map (E.den env))).v 35) ≠ 0) := by
    unfold E.tt
    rw [hn, appL_den, f32 hF, List.map_append, v32, v33, v34, v35]
    have r0 := rest_app hA.l [(getE es 32).den env, (getE es 33).den env, (getE es 34).den env, (getE es 35).den env] 0
    have r1 := rest_app hA.l [(getE es 32).den env, (getE es 33).den env, (getE es 34).den env, (getE es 35).den env] 1
    have r2 := rest_app hA.l [(getE es 32).den env, (getE es 33).den env, (getE es 34).den env, (getE es 35).den env] 2
    have r3 := rest_app hA.l [(getE es 32).den env, (getE es 33).den env, (getE es 34).den env, (getE es 35).den env] 3
    simp only [List.map_cons, List.map_nil]
    rw [r0, r1, r2, r3]; rfl
  have h30 := at30 hA (.var 33) (.var 34) hS
  rcases matchI_range ((canonP nrm es).map (E.den env) ++ [(getE es 32).den env, (getE es 33).den env, (getE es 34).den env, (getE es 35).den env]) ((E.var 33).den (withV env (es.map (E.den env)))) ((E.var 34).den (withV env (es.map (E.den env)))) with hm | ⟨i, hi, hm⟩
  · refine ⟨-1, checkN, atEqs_ok (h30.trans hm), ?_, ?_⟩
    · rcases hf with hf | hf
      · rw [Nat.eq_of_beq_eq_true hf]; exact c67_n
      · rw [Nat.eq_of_beq_eq_true hf]; exact c68_n
    · show E.tt _ _ = E.tt _ _
      rw [e32]; exact k1 hm
  · obtain ⟨q1, q2⟩ := k2 i hi hm
    rcases hf with hf | hf
    · have hf := Nat.eq_of_beq_eq_true hf
      subst hf
      exact ⟨(i : Int), checkI i, atEqs_ok (h30.trans hm), c67 i hi, by show E.tt _ _ = E.tt _ _; rw [e32]; exact q1⟩
    · have hf := Nat.eq_of_beq_eq_true hf
      subst hf
      exact ⟨(i : Int), checkR i, atEqs_ok (h30.trans hm), c68 i hi, by show E.tt _ _ = E.tt _ _; rw [e32]; exact q2⟩

theorem sgCheck_ok {env : Env} (hF : EnvF Phi env) {nrm : E → E} (hn : ∀ e, (nrm e).den env = e.den env) : SgF env Try.prog (sgCheck nrm) := by
  intro f vs v hv ρ xs w hr
  unfold sgCheck at hv
  split at hv
  · rename_i hf
    simp only [Bool.or_eq_true] at hf
    split at hv
    · rename_i es hes
      simp only [Option.some.injEq] at hv; subst hv
      obtain ⟨j, R, he, hrun, hsame⟩ := check_same hF hn es (parse_length _ _ _ hes) hf
      have hn' := nrmS_den (hF.withV (es.map (E.den env))) he
      obtain ⟨h1, h2⟩ := sum_calls_at (K := sumK (sgK (nrmS (atEqs [.var 33, .var 34] j))) (atEqs [.var 33, .var 34] j) (fun _ => false)) rfl hrun hF hn' (sgK_ok (hF.withV _) hn') hes (fun _ h => h) hr w
      refine ⟨h1, h2.mono ?_⟩
      rintro e w' ⟨z, ρ', rfl, hz, hb⟩
      exact ⟨z, rfl, same_r hsame hz, hb⟩
    · cases hv
  · cases hv

set_option maxRecDepth 100000 in
theorem grant_same {env : Env} (hF : EnvF Phi env) {nrm : E → E} (hn : ∀ e, (nrm e).den env = e.den env) (es : List E) (hlen : es.length = 34) {f : Nat} (hf : Nat.beq f 63 = true ∨ Nat.beq f 64 = true) :
    ∃ (j : Int) (R : E), (∀ p ∈ atEqs [.var 32, .lit 1] j, p.1.den (withV env (es.map (E.den env))) = p.2.den (withV env (es.map (E.den env)))) ∧ grantRun f R j = true ∧
      C.same (withV env (es.map (E.den env))) env (.bool R) (.bool (nrm (.app 33 (listE (canonP nrm es ++ [getE es 32, getE es 33]))))) := by
  have hA := at_of (nrm := nrm) (es := es) hF hn (by omega)
  have hS : SameP ((canonP nrm es).map (E.den env) ++ [(getE es 32).den env, (getE es 33).den env]) ((canonP nrm es).map (E.den env)) := by
    have := same_rest ((canonP nrm es).map (E.den env)) [(getE es 32).den env, (getE es 33).den env] [] hA.l
    rwa [List.append_nil] at this
  have hc : ∀ i, i < 16 → cfgAt ((canonP nrm es).map (E.den env) ++ [(getE es 32).den env, (getE es 33).den env]) i = byteF ((withV env (es.map (E.den env))).v i) := fun i hi => by
    rw [cfg_app hA.l hi]; exact hA.cfg i hi
  have v32 : (withV env (es.map (E.den env))).v 32 = (getE es 32).den env := hA.v 32 (by omega)
  have v33 : (withV env (es.map (E.den env))).v 33 = (getE es 33).den env := hA.v 33 (by omega)
  have e33 : (nrm (.app 33 (listE (canonP nrm es ++ [getE es 32, getE es 33])))).tt env = decide (grantF ((canonP nrm es).map (E.den env) ++ [(getE es 32).den env, (getE es 33).den env])
      ((withV env (es.map (E.den env))).v 32) ((withV env (es.map (E.den env))).v 33) ≠ 0) := by
    unfold E.tt
    rw [hn, appL_den, f33 hF, List.map_append, v32, v33]
    have r0 := rest_app hA.l [(getE es 32).den env, (getE es 33).den env] 0
    have r1 := rest_app hA.l [(getE es 32).den env, (getE es 33).den env] 1
    simp only [List.map_cons, List.map_nil]
    rw [r0, r1]; rfl
  have h30 := at30 hA (.var 32) (.lit 1) hS
  rcases matchI_range ((canonP nrm es).map (E.den env) ++ [(getE es 32).den env, (getE es 33).den env]) ((E.var 32).den (withV env (es.map (E.den env)))) ((E.lit 1).den (withV env (es.map (E.den env)))) with hm | ⟨i, hi, hm⟩
  · refine ⟨-1, .lit 0, atEqs_ok (h30.trans hm), ?_, ?_⟩
    · rcases hf with hf | hf
      · rw [Nat.eq_of_beq_eq_true hf]; exact g63_n
      · rw [Nat.eq_of_beq_eq_true hf]; exact g64_n
    · show E.tt _ _ = E.tt _ _
      rw [e33]
      have hm' : matchI ((canonP nrm es).map (E.den env) ++ [(getE es 32).den env, (getE es 33).den env]) ((withV env (es.map (E.den env))).v 32) 1 = -1 := hm
      unfold grantF
      rw [hm']; rfl
  · have q := grant_num hA.f hc hi hm
    refine ⟨(i : Int), grantT i, atEqs_ok (h30.trans hm), ?_, by show E.tt _ _ = E.tt _ _; rw [e33]; exact q⟩
    rcases hf with hf | hf
    · rw [Nat.eq_of_beq_eq_true hf]; exact g63 i hi
    · rw [Nat.eq_of_beq_eq_true hf]; exact g64 i hi

theorem sgGrant_ok {env : Env} (hF : EnvF Phi env) {nrm : E → E} (hn : ∀ e, (nrm e).den env = e.den env) : SgF env Try.prog (sgGrant nrm) := by
  intro f vs v hv ρ xs w hr
  unfold sgGrant at hv
  split at hv
  · rename_i hf
    simp only [Bool.or_eq_true] at hf
    split at hv
    · rename_i es hes
      simp only [Option.some.injEq] at hv; subst hv
      obtain ⟨j, R, he, hrun, hsame⟩ := grant_same hF hn es (parse_length _ _ _ hes) hf
      have hn' := nrmS_den (hF.withV (es.map (E.den env))) he
      obtain ⟨h1, h2⟩ := sum_calls_at (K := sumK (sgK (nrmS (atEqs [.var 32, .lit 1] j))) (atEqs [.var 32, .lit 1] j) (fun _ => false)) rfl hrun hF hn' (sgK_ok (hF.withV _) hn') hes (fun _ h => h) hr w
      refine ⟨h1, h2.mono ?_⟩
      rintro e w' ⟨z, ρ', rfl, hz, hb⟩
      exact ⟨z, rfl, same_r hsame hz, hb⟩
    · cases hv
  · cases hv

end Go.Proofs.Ytibfaifjnifgjaa
