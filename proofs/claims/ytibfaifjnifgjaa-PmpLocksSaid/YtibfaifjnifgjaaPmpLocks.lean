/- The law PmpLocks returns true for every input and leaves its argument as it was. No condition. -/
import Derived.Test.YtibfaifjnifgjaaRows
import Derived.Test.YtibfaifjnifgjaaSx15
import Derived.Test.YtibfaifjnifgjaaSeat
import Derived.Test.YtibfaifjnifgjaaLoopK
namespace Go.Proofs.Ytibfaifjnifgjaa
open Go.ChangeShapes Go.WideShapes Go.ChangeAt Go.RowKit Go.Sx
namespace PmpLocks
def kds : List Kd := List.replicate 16 (Kd.num (some .u8)) ++ List.replicate 16 (Kd.num (some .u64)) ++ [Kd.num (some .i64)] ++ [Kd.num (some .u64)] ++ [Kd.num (some .i64)] ++ [Kd.num (some .u64)] ++ List.replicate 2 (Kd.num (some .i64)) ++ [Kd.sl [none, some .i64, some .u64]]
noncomputable def cs : List C := match argsC Try.prog [71] 0 with | some r => r.1 | none => []
theorem hargs : argsC Try.prog [71] 0 = some (cs, kds) := by kernel_rfl
abbrev Φ := Phi
def wV : E := .app 4800 (.cons (.var 99) .nil)
def iW : E := .app 4801 (.cons (.var 99) .nil)
def vW : E := .app 4802 (.cons (.var 99) .nil)
def cv (k : Nat) : E := .var (100 + k)
def av (k : Nat) : E := .var (116 + k)
def c21 (k : Nat) : E := .app 21 (.cons (cv k) .nil)
def canonW : List E := (List.range 16).map c21 ++ (List.range 16).map (fun k => a54 (av k))
noncomputable def argW (rest : List E) : E := listE (canonW ++ rest)
noncomputable def wa : E := argW [iW, vW]
noncomputable def qc (k : Nat) : E := .ite wV (c21 k) (.app (140 + k) wa)
noncomputable def qa (k : Nat) : E := .ite wV (.app (100 + (16 + k)) wa) (a54 (av k))
noncomputable def qE : List E := (List.range 16).map qc ++ (List.range 16).map qa
noncomputable def argQ (rest : List E) : E := listE (canonP (nrmW []) qE ++ rest)
def l7 (k : Nat) : E := .bin .eql .u8 (.bin .shr .u8 (cv k) (.lit 7)) (.lit 0)
def m7 (k : Nat) : E := .bin .eql .u8 (.bin .shr .u8 (cv k) (.lit 7)) (.lit 1)
def k1 (k : Nat) : E := .bin .eql .u8 (.bin .and .u8 (.bin .shr .u8 (cv k) (.lit 3)) (.lit 3)) (.lit 1)
noncomputable def tC (k : Nat) : E := .bin .eql .u8 (.app (140 + k) wa) (cv k)
noncomputable def tA (k : Nat) : E := .bin .eql .u64 (.app (100 + (16 + k)) wa) (av k)
noncomputable def c30 : E := .app 30 (argW [.var 35, .var 36])
noncomputable def c31 : E := .app 31 (argW [.var 35, .var 36])
noncomputable def c32 : E := .app 32 (argW [.var 34, .var 35, .var 36, .var 37])
noncomputable def q30 : E := .app 30 (argQ [.var 35, .var 36])
noncomputable def q31 : E := .app 31 (argQ [.var 35, .var 36])
noncomputable def q32 : E := .app 32 (argQ [.var 34, .var 35, .var 36, .var 37])
noncomputable def isJ (j : Nat) : E := .bin .eql .i64 c30 (.lit (Int.ofNat j))
/-- The entry that Match found is locked (for an entry's number from 'j' on). -/
noncomputable def lkF : Nat → Nat → E
  | 0, j => m7 j
  | m + 1, j => .ite (isJ j) (m7 j) (lkF m (j + 1))
noncomputable def lk : E := .ite c30 (lkF 14 1) (m7 0)
noncomputable def none0 : E := .bin .lss .i64 c30 (.lit 0)
/-- 't', but 'x' where an entry was found that is locked. -/
noncomputable def atL (x t : E) : E := .ite none0 t (.ite lk x t)
noncomputable def ltQ : E := .bin .lss .i64 c30 q30
noncomputable def neg : E := .bin .lss .i64 q30 (.lit 0)
noncomputable def eqQ : E := .bin .eql .i64 q30 c30
noncomputable def dOk : E := .bin .eql .i64 (.ite c31 q31 (ntE q31)) (.lit 0)
noncomputable def dCk : E := .bin .eql .i64 (.ite c32 q32 (ntE q32)) (.lit 0)
noncomputable def eqs : List (E × E) :=
  [(ltQ, atL (.lit 0) ltQ), (neg, atL (.lit 0) neg), (dOk, atL (.ite eqQ (.lit 0) dOk) dOk), (dCk, atL (.ite eqQ (.lit 0) dCk) dCk)] ++
  ((List.range 16).map (fun k => (.bin .eql .u8 (c21 k) (cv k), .lit 1)) ++
  ((List.range 16).map (fun k => (.bin .eql .u64 (a54 (av k)) (av k), .lit 1)) ++
  ((List.range 16).map (fun k => (tC k, .ite (l7 k) (tC k) (.lit 1))) ++
  (List.range 16).map (fun k => (tA k, .ite (l7 k) (if Nat.beq k 15 then tA k else .ite (l7 (k + 1)) (tA k) (.ite (k1 (k + 1)) (.lit 1) (tA k))) (.lit 1))))))
noncomputable def known : List (E × Bool) := [(.bin .lss .i64 (.lit 15) c30, false)]
noncomputable def good (σ : List (Nat × E)) : Bool := (List.range 16).all fun k => isTerm σ (100 + k) (qc k) && isTerm σ (116 + k) (qa k)
noncomputable def good0 (σ : List (Nat × E)) : Bool := (List.range 16).all fun k => isTerm σ (100 + k) (cT k) && isTerm σ (116 + k) (aT k)

/-! The numbers. -/

def J (env : Env) : Prop := ∀ k, k < 16 → byteF (env.v (100 + k)) = env.v (100 + k) ∧ binDen .and .u64 (env.v (116 + k)) m54 = env.v (116 + k)

theorem byte_all : (List.range 256).all (fun n => (decide ((binDen .shr .u8 (n : Int) 7 == 0) = !lockB n) && decide ((binDen .shr .u8 (n : Int) 7 == 1) = lockB n)) && decide ((binDen .and .u8 (binDen .shr .u8 (n : Int) 3) 3 == 1) = decide (kindF n = 1))) = true := by decide +kernel

theorem byte_at {x : Int} (h : byteF x = x) : (binDen .shr .u8 x 7 == 0) = !lockB x ∧ (binDen .shr .u8 x 7 == 1) = lockB x ∧ (binDen .and .u8 (binDen .shr .u8 x 3) 3 == 1) = decide (kindF x = 1) := by
  obtain ⟨h0, h1⟩ := byteF_range x
  rw [h] at h0 h1
  obtain ⟨n, rfl⟩ : ∃ n : Nat, x = (n : Int) := ⟨x.toNat, by omega⟩
  have := List.all_eq_true.1 byte_all n (by simp; omega)
  simp only [Bool.and_eq_true, decide_eq_true_eq] at this
  exact ⟨this.1.1, this.1.2, this.2⟩

section
variable {env : Env}

theorem l7_tt (hJ : J env) {k : Nat} (hk : k < 16) : (l7 k).tt env = !lockB (env.v (100 + k)) := by
  unfold l7; rw [eq_tt]; exact (byte_at (hJ k hk).1).1
theorem m7_tt (hJ : J env) {k : Nat} (hk : k < 16) : (m7 k).tt env = lockB (env.v (100 + k)) := by
  unfold m7; rw [eq_tt]; exact (byte_at (hJ k hk).1).2.1
theorem k1_tt (hJ : J env) {k : Nat} (hk : k < 16) : (k1 k).tt env = decide (kindF (env.v (100 + k)) = 1) := by
  unfold k1; rw [eq_tt]; exact (byte_at (hJ k hk).1).2.2

theorem canonW_length (env : Env) : (canonW.map (E.den env)).length = 32 := by simp [canonW]

theorem cfgW (hF : EnvF Phi env) (hJ : J env) {k : Nat} (hk : k < 16) : cfgAt (canonW.map (E.den env)) k = env.v (100 + k) := by
  unfold cfgAt canonW
  rw [List.getElem?_map, List.getElem?_append_left (by simpa using hk), List.getElem?_map, List.getElem?_range hk]
  show env.f 21 [env.v (100 + k)] = _
  rw [f21 hF]; exact (hJ k hk).1

theorem adrW (hJ : J env) {k : Nat} (hk : k < 16) : adrAt (canonW.map (E.den env)) k = env.v (116 + k) := by
  unfold adrAt canonW
  rw [List.getElem?_map, List.getElem?_append_right (by simp), List.getElem?_map, show 16 + k - (List.map c21 (List.range 16)).length = k by simp, List.getElem?_range hk]
  exact (hJ k hk).2

theorem w_den (env : Env) (g : Nat) (rest : List E) : (E.app g (argW rest)).den env = env.f g (canonW.map (E.den env) ++ rest.map (E.den env)) := by
  unfold argW; rw [appL_den, List.map_append]

theorem newC (hF : EnvF Phi env) {k : Nat} (hk : k < 16) : (E.app (140 + k) wa).den env = cAt (setCfgF (canonW.map (E.den env) ++ [iW.den env, vW.den env]) (iW.den env) (vW.den env)) k := by
  have hl := canonW_length env
  unfold wa
  rw [w_den, fC hF _ (by omega)]
  have e1 : cAt (canonW.map (E.den env) ++ [iW, vW].map (E.den env)) 32 = iW.den env := rest_app hl _ 0
  have e2 : cAt (canonW.map (E.den env) ++ [iW, vW].map (E.den env)) 33 = vW.den env := rest_app hl _ 1
  rw [e1, e2]; rfl

theorem newA (hF : EnvF Phi env) {k : Nat} (hk : k < 16) : (E.app (100 + (16 + k)) wa).den env = cAt (setAddrF (canonW.map (E.den env) ++ [iW.den env, vW.den env]) (iW.den env) (vW.den env)) (16 + k) := by
  have hl := canonW_length env
  unfold wa
  rw [w_den, fA hF _ (by omega)]
  have e1 : cAt (canonW.map (E.den env) ++ [iW, vW].map (E.den env)) 32 = iW.den env := rest_app hl _ 0
  have e2 : cAt (canonW.map (E.den env) ++ [iW, vW].map (E.den env)) 33 = vW.den env := rest_app hl _ 1
  rw [e1, e2]; rfl

/-- A locked byte stays. -/
theorem newC_lock (hF : EnvF Phi env) (hJ : J env) {k : Nat} (hk : k < 16) (hl : lockB (env.v (100 + k)) = true) : (E.app (140 + k) wa).den env = env.v (100 + k) := by
  rw [newC hF hk, setCfg_at _ _ _ hk, cfg_app (canonW_length env) hk, cfgW hF hJ hk, hl, if_neg (fun h => by cases h.2)]
  exact (hJ k hk).1

theorem newC_byte (hF : EnvF Phi env) (hJ : J env) {k : Nat} (hk : k < 16) : byteF ((E.app (140 + k) wa).den env) = (E.app (140 + k) wa).den env := by
  rw [newC hF hk, setCfg_at _ _ _ hk]
  split <;> exact byteF_twice _

theorem newA_mask (hF : EnvF Phi env) {k : Nat} (hk : k < 16) : binDen .and .u64 ((E.app (100 + (16 + k)) wa).den env) m54 = (E.app (100 + (16 + k)) wa).den env := by
  rw [newA hF hk, setAddr_at _ _ _ hk]
  split <;> exact and54_twice _

/-- A held address stays. -/
theorem newA_held (hF : EnvF Phi env) (hJ : J env) {k : Nat} (hk : k < 16) (hl : lockB (env.v (100 + k)) = true ∨ (k < 15 ∧ lockB (env.v (100 + (k + 1))) = true ∧ kindF (env.v (100 + (k + 1))) = 1)) : (E.app (100 + (16 + k)) wa).den env = env.v (116 + k) := by
  have hh : heldF (canonW.map (E.den env) ++ [iW.den env, vW.den env]) k = true := by
    unfold heldF
    rw [cfg_app (canonW_length env) hk, cfgW hF hJ hk]
    rcases hl with hl | ⟨h1, h2, h3⟩
    · rw [hl]; rfl
    · rw [cfg_app (canonW_length env) (by omega), cfgW hF hJ (by omega), h2, h3]; simp [h1]
  rw [newA hF hk, setAddr_at _ _ _ hk, hh, if_neg (fun h => by cases h.2), adr_app (canonW_length env) hk, adrW hJ hk]
  exact (hJ k hk).2

/-! What the written entries are. -/

noncomputable def lQ (env : Env) : List Int := (canonP (nrmW []) qE).map (E.den env)

theorem nrm0 (hF : EnvF Phi env) (e : E) : (nrmW [] e).den env = e.den env := nrmW_den hF (by simp) e

theorem getQ_c {k : Nat} (hk : k < 16) : getE qE k = qc k := by
  unfold getE qE
  rw [getL_eq, List.getElem?_append_left (by simpa using hk), List.getElem?_map, List.getElem?_range hk]; rfl
theorem getQ_a {k : Nat} (hk : k < 16) : getE qE (16 + k) = qa k := by
  unfold getE qE
  rw [getL_eq, List.getElem?_append_right (by simp), List.getElem?_map, show 16 + k - (List.map qc (List.range 16)).length = k by simp, List.getElem?_range hk]; rfl

theorem qc_den (hF : EnvF Phi env) (hJ : J env) {k : Nat} (hk : k < 16) : (qc k).den env = if wV.tt env then env.v (100 + k) else (E.app (140 + k) wa).den env := by
  unfold qc
  rw [den_ite]
  have : (c21 k).den env = env.v (100 + k) := by show env.f 21 [env.v (100 + k)] = _; rw [f21 hF]; exact (hJ k hk).1
  rw [this]
theorem qa_den (hJ : J env) {k : Nat} (hk : k < 16) : (qa k).den env = if wV.tt env then (E.app (100 + (16 + k)) wa).den env else env.v (116 + k) := by
  unfold qa
  rw [den_ite]
  have : (a54 (av k)).den env = env.v (116 + k) := (hJ k hk).2
  rw [this]

theorem qc_byte (hF : EnvF Phi env) (hJ : J env) {k : Nat} (hk : k < 16) : byteF ((qc k).den env) = (qc k).den env := by
  rw [qc_den hF hJ hk]
  split
  · exact (hJ k hk).1
  · exact newC_byte hF hJ hk
theorem qa_mask (hF : EnvF Phi env) (hJ : J env) {k : Nat} (hk : k < 16) : binDen .and .u64 ((qa k).den env) m54 = (qa k).den env := by
  rw [qa_den hJ hk]
  split
  · exact newA_mask hF hk
  · exact (hJ k hk).2

theorem cfgQ (hF : EnvF Phi env) (hJ : J env) (r : List Int) {k : Nat} (hk : k < 16) : cfgAt (lQ env ++ r) k = (qc k).den env := by
  have h := canon_cfg hF (nrmW []) qE [] hk
  rw [List.append_nil] at h
  rw [cfg_app (by rw [lQ, List.length_map, canonP_length]) hk, lQ, h, getQ_c hk, qc_byte hF hJ hk]
theorem adrQ (hF : EnvF Phi env) (hJ : J env) (r : List Int) {k : Nat} (hk : k < 16) : adrAt (lQ env ++ r) k = (qa k).den env := by
  have h := canon_adr (env := env) (nrm := nrmW []) (nrm0 hF) qE [] hk
  rw [List.append_nil] at h
  rw [adr_app (by rw [lQ, List.length_map, canonP_length]) hk, lQ, h, getQ_a hk, qa_mask hF hJ hk]

theorem q_den (env : Env) (g : Nat) (rest : List E) : (E.app g (argQ rest)).den env = env.f g (lQ env ++ rest.map (E.den env)) := by
  unfold argQ lQ; rw [appL_den, List.map_append]

/-! A locked entry that Match found. -/

theorem first_le {l : List Int} {a : Int} {n : Nat} : ∀ (m i j : Nat), i ≤ j → j < i + m → 0 < cntF l j a n → ∃ k : Nat, k ≤ j ∧ firstF l a n m i = (k : Int) := by
  intro m
  induction m with
  | zero => intro i j h1 h2; omega
  | succ m ih =>
    intro i j h1 h2 h3
    simp only [firstF]
    split
    · exact ⟨i, h1, rfl⟩
    · rename_i hc
      rcases Nat.eq_or_lt_of_le h1 with he | hl
      · subst he; exact absurd h3 hc
      · exact ih (i + 1) j hl (by omega) h3

theorem prev_irr {k p p' a : Int} (h : k ≠ 1) : fromG k p a = fromG k p' a ∧ toG k p a = toG k p' a ∧ okG k p a = okG k p' a := by
  have e : ¬ (binDen .eql .i64 k 1 ≠ 0) := by
    show ¬ (b2i (k == 1) ≠ 0)
    have : (k == 1) = false := by simpa using h
    rw [this]; simp [b2i]
  unfold fromG toG okG
  rw [if_neg e, if_neg e, if_neg e, if_neg e, if_neg e, if_neg e]
  exact ⟨rfl, rfl, rfl⟩

theorem holds_lock {l l' : List Int} {j : Nat} (hc : cfgAt l j = cfgAt l' j) (ha : adrAt l j = adrAt l' j) (hp : kindF (cfgAt l' j) = 1 → prevAt l j = prevAt l' j) (b : Int) : holdsF l j b = holdsF l' j b := by
  unfold holdsF
  rw [hc, ha]
  by_cases hk : kindF (cfgAt l' j) = 1
  · rw [hp hk]
  · obtain ⟨h1, h2, h3⟩ := prev_irr (p := prevAt l j) (p' := prevAt l' j) (a := adrAt l' j) hk
    have e1 : fromF (cfgAt l' j) (prevAt l j) (adrAt l' j) = fromF (cfgAt l' j) (prevAt l' j) (adrAt l' j) := h1
    have e2 : toF (cfgAt l' j) (prevAt l j) (adrAt l' j) = toF (cfgAt l' j) (prevAt l' j) (adrAt l' j) := h2
    have e3 : okF (cfgAt l' j) (prevAt l j) (adrAt l' j) = okF (cfgAt l' j) (prevAt l' j) (adrAt l' j) := h3
    rw [e1, e2, e3]

theorem cnt_holds {l l' : List Int} {j : Nat} (h : ∀ b, holdsF l j b = holdsF l' j b) (a : Int) : ∀ n, cntF l j a n = cntF l' j a n := by
  intro n
  induction n with
  | zero => rfl
  | succ n ih => simp only [cntF]; rw [ih, h]

theorem lock_law (hF : EnvF Phi env) (hJ : J env) (r : List Int) {a s : Int} {j : Nat} (hm : matchI (canonW.map (E.den env)) a s = (j : Int)) (hl : lockB (env.v (100 + j)) = true) :
    cfgAt (lQ env ++ r) j = cfgAt (canonW.map (E.den env)) j ∧ ∃ n : Nat, n ≤ j ∧ matchI (lQ env ++ r) a s = (n : Int) ∧ (n = j → matchOk (lQ env ++ r) a s = matchOk (canonW.map (E.den env)) a s) := by
  obtain ⟨h1, h8, hj, h3, h4⟩ := match_spec hm
  have hc : cfgAt (lQ env ++ r) j = cfgAt (canonW.map (E.den env)) j := by
    rw [cfgQ hF hJ r hj, cfgW hF hJ hj, qc_den hF hJ hj]
    split
    · rfl
    · exact newC_lock hF hJ hj hl
  have ha : adrAt (lQ env ++ r) j = adrAt (canonW.map (E.den env)) j := by
    rw [adrQ hF hJ r hj, adrW hJ hj, qa_den hJ hj]
    split
    · exact newA_held hF hJ hj (.inl hl)
    · rfl
  have hp : kindF (cfgAt (canonW.map (E.den env)) j) = 1 → prevAt (lQ env ++ r) j = prevAt (canonW.map (E.den env)) j := fun hk => by
    rw [cfgW hF hJ hj] at hk
    unfold prevAt
    split
    · rfl
    · rename_i h0
      rw [adrQ hF hJ r (by omega), adrW hJ (by omega), qa_den hJ (by omega)]
      split
      · refine newA_held hF hJ (by omega) (.inr ⟨by omega, ?_, ?_⟩)
        · rw [show j - 1 + 1 = j by omega]; exact hl
        · rw [show j - 1 + 1 = j by omega]; exact hk
      · rfl
  have hcnt := cnt_holds (holds_lock hc ha hp) a
  obtain ⟨n, hn, hf⟩ := first_le (l := lQ env ++ r) (a := a) (n := s.toNat) 16 0 j (Nat.zero_le _) (by omega) (by rw [hcnt]; exact h3)
  have hq : matchI (lQ env ++ r) a s = (n : Int) := by unfold matchI; rw [if_pos ⟨h1, h8⟩, hf]
  refine ⟨hc, n, hn, hq, fun he => ?_⟩
  subst he
  unfold matchOk
  rw [hq, hm, Int.toNat_natCast, hcnt]

theorem lkF_tt {j : Nat} (hc : c30.den env = (j : Int)) : ∀ (m i : Nat), i ≤ j → j ≤ i + m → (lkF m i).tt env = (m7 j).tt env := by
  intro m
  induction m with
  | zero => intro i h1 h2; rw [show j = i by omega]; rfl
  | succ m ih =>
    intro i h1 h2
    simp only [lkF]
    rw [tt_ite]
    have e : (isJ i).tt env = decide (j = i) := by
      unfold isJ
      rw [eq_tt, hc, den_lit, beq_dec]
      congr 1
      rw [eq_iff_iff]
      show (j : Int) = (i : Int) ↔ _
      omega
    rw [e]
    by_cases hji : j = i
    · rw [decide_eq_true hji, if_pos rfl, hji]
    · rw [decide_eq_false hji, if_neg (by simp)]
      exact ih (i + 1) (by omega) (by omega)

theorem lk_tt {j : Nat} (hj : j < 16) (hc : c30.den env = (j : Int)) : lk.tt env = (m7 j).tt env := by
  unfold lk
  rw [tt_ite]
  by_cases h0 : j = 0
  · subst h0
    rw [show c30.tt env = false from tt_false.2 hc, if_neg (by simp)]
  · rw [show c30.tt env = true from tt_true.2 (by rw [hc]; omega), if_pos rfl]
    exact lkF_tt hc 14 1 (by omega) (by omega)

theorem checkF_bit (l : List Int) (m a s b : Int) : checkF l m a s b = 0 ∨ checkF l m a s b = 1 := by
  have hb : ∀ p : Bool, b2i p = 0 ∨ b2i p = 1 := fun p => by cases p <;> simp [b2i]
  unfold checkF
  split
  · split
    · exact hb _
    · split
      · exact .inl rfl
      · split
        · exact .inr rfl
        · exact hb _
  · exact .inl rfl

theorem differ_zero {a b : E} (h : a.den env = b.den env) : (E.bin .eql .i64 (.ite a b (ntE b)) (.lit 0)).den env = 0 := by
  show b2i ((E.ite a b (ntE b)).den env == 0) = 0
  rw [den_ite]
  by_cases hz : b.den env = 0
  · rw [if_neg (by rw [tt_false.2 (h.trans hz)]; simp)]
    have : (ntE b).den env = 1 := by show b2i (b.den env == 0) = 1; rw [hz]; rfl
    rw [this]; rfl
  · rw [if_pos (tt_true.2 (by rw [h]; exact hz))]
    have : (b.den env == 0) = false := by simpa using hz
    rw [this]; rfl

theorem atL_ok (hF : EnvF Phi env) (hJ : J env) {x t : E} (h : ∀ j : Nat, matchI (canonW.map (E.den env)) (env.v 35) (env.v 36) = (j : Int) → lockB (env.v (100 + j)) = true → t.den env = x.den env) : t.den env = (atL x t).den env := by
  unfold atL
  rw [den_ite, den_ite]
  split
  · rfl
  · rename_i hn
    split
    · rename_i hl
      have e30 : c30.den env = matchI (canonW.map (E.den env)) (env.v 35) (env.v 36) := by
        unfold c30
        rw [w_den, f30 hF]
        have e1 : cAt (canonW.map (E.den env) ++ [E.var 35, E.var 36].map (E.den env)) 32 = env.v 35 := rest_app (canonW_length env) _ 0
        have e2 : cAt (canonW.map (E.den env) ++ [E.var 35, E.var 36].map (E.den env)) 33 = env.v 36 := rest_app (canonW_length env) _ 1
        rw [e1, e2, matchI_congr (sameP_app _ (canonW_length env))]
      rcases matchI_range (canonW.map (E.den env)) (env.v 35) (env.v 36) with hm | ⟨j, hj, hm⟩
      · exfalso
        apply hn
        unfold none0
        rw [lt_tt, e30, hm, den_lit]; decide
      · refine h j hm ?_
        rw [lk_tt hj (e30.trans hm), m7_tt hJ hj] at hl
        exact hl
    · rfl

theorem p_den (hF : EnvF Phi env) : c30.den env = matchI (canonW.map (E.den env)) (env.v 35) (env.v 36) ∧ c31.den env = matchOk (canonW.map (E.den env)) (env.v 35) (env.v 36) ∧ c32.den env = checkF (canonW.map (E.den env)) (env.v 34) (env.v 35) (env.v 36) (env.v 37) := by
  have hl := canonW_length env
  refine ⟨?_, ?_, ?_⟩
  · unfold c30
    rw [w_den, f30 hF]
    have e1 : cAt (canonW.map (E.den env) ++ [E.var 35, E.var 36].map (E.den env)) 32 = env.v 35 := rest_app hl _ 0
    have e2 : cAt (canonW.map (E.den env) ++ [E.var 35, E.var 36].map (E.den env)) 33 = env.v 36 := rest_app hl _ 1
    rw [e1, e2, matchI_congr (sameP_app _ hl)]
  · unfold c31
    rw [w_den, f31 hF]
    have e1 : cAt (canonW.map (E.den env) ++ [E.var 35, E.var 36].map (E.den env)) 32 = env.v 35 := rest_app hl _ 0
    have e2 : cAt (canonW.map (E.den env) ++ [E.var 35, E.var 36].map (E.den env)) 33 = env.v 36 := rest_app hl _ 1
    rw [e1, e2, matchOk_congr (sameP_app _ hl)]
  · unfold c32
    rw [w_den, f32 hF]
    have e1 : cAt (canonW.map (E.den env) ++ [E.var 34, E.var 35, E.var 36, E.var 37].map (E.den env)) 32 = env.v 34 := rest_app hl _ 0
    have e2 : cAt (canonW.map (E.den env) ++ [E.var 34, E.var 35, E.var 36, E.var 37].map (E.den env)) 33 = env.v 35 := rest_app hl _ 1
    have e3 : cAt (canonW.map (E.den env) ++ [E.var 34, E.var 35, E.var 36, E.var 37].map (E.den env)) 34 = env.v 36 := rest_app hl _ 2
    have e4 : cAt (canonW.map (E.den env) ++ [E.var 34, E.var 35, E.var 36, E.var 37].map (E.den env)) 35 = env.v 37 := rest_app hl _ 3
    rw [e1, e2, e3, e4, checkF_congr (sameP_app _ hl)]

theorem lQ_length (env : Env) : (lQ env).length = 32 := by rw [lQ, List.length_map, canonP_length]

theorem qq_den (hF : EnvF Phi env) : q30.den env = matchI (lQ env) (env.v 35) (env.v 36) ∧ q31.den env = matchOk (lQ env) (env.v 35) (env.v 36) ∧ q32.den env = checkF (lQ env) (env.v 34) (env.v 35) (env.v 36) (env.v 37) := by
  have hl := lQ_length env
  refine ⟨?_, ?_, ?_⟩
  · unfold q30
    rw [q_den, f30 hF]
    have e1 : cAt (lQ env ++ [E.var 35, E.var 36].map (E.den env)) 32 = env.v 35 := rest_app hl _ 0
    have e2 : cAt (lQ env ++ [E.var 35, E.var 36].map (E.den env)) 33 = env.v 36 := rest_app hl _ 1
    rw [e1, e2, matchI_congr (sameP_app _ hl)]
  · unfold q31
    rw [q_den, f31 hF]
    have e1 : cAt (lQ env ++ [E.var 35, E.var 36].map (E.den env)) 32 = env.v 35 := rest_app hl _ 0
    have e2 : cAt (lQ env ++ [E.var 35, E.var 36].map (E.den env)) 33 = env.v 36 := rest_app hl _ 1
    rw [e1, e2, matchOk_congr (sameP_app _ hl)]
  · unfold q32
    rw [q_den, f32 hF]
    have e1 : cAt (lQ env ++ [E.var 34, E.var 35, E.var 36, E.var 37].map (E.den env)) 32 = env.v 34 := rest_app hl _ 0
    have e2 : cAt (lQ env ++ [E.var 34, E.var 35, E.var 36, E.var 37].map (E.den env)) 33 = env.v 35 := rest_app hl _ 1
    have e3 : cAt (lQ env ++ [E.var 34, E.var 35, E.var 36, E.var 37].map (E.den env)) 34 = env.v 36 := rest_app hl _ 2
    have e4 : cAt (lQ env ++ [E.var 34, E.var 35, E.var 36, E.var 37].map (E.den env)) 35 = env.v 37 := rest_app hl _ 3
    rw [e1, e2, e3, e4, checkF_congr (sameP_app _ hl)]

theorem eqs_ok (hF : EnvF Phi env) (hJ : J env) : ∀ p ∈ eqs, p.1.den env = p.2.den env := by
  obtain ⟨p30, p31, p32⟩ := p_den hF
  obtain ⟨r30, r31, r32⟩ := qq_den hF
  have law := fun j hm hl => lock_law hF hJ [] (a := env.v 35) (s := env.v 36) (j := j) hm hl
  simp only [List.append_nil] at law
  have eqQ_tt : ∀ n j : Nat, q30.den env = (n : Int) → c30.den env = (j : Int) → eqQ.tt env = true → n = j := fun n j h1 h2 h3 => by
    unfold eqQ at h3
    rw [eq_tt, h1, h2, beq_dec, decide_eq_true_eq] at h3
    omega
  intro p hp
  simp only [eqs, List.mem_append] at hp
  rcases hp with hp | hp | hp | hp | hp
  · simp only [List.mem_cons, List.not_mem_nil, or_false] at hp
    rcases hp with rfl | rfl | rfl | rfl
    · refine atL_ok hF hJ (fun j hm hl => ?_)
      obtain ⟨_, n, hn, hq, _⟩ := law j hm hl
      show b2i (decide (c30.den env < q30.den env)) = 0
      rw [p30, r30, hm, hq, decide_eq_false (by omega)]; rfl
    · refine atL_ok hF hJ (fun j hm hl => ?_)
      obtain ⟨_, n, hn, hq, _⟩ := law j hm hl
      show b2i (decide (q30.den env < 0)) = 0
      rw [r30, hq, decide_eq_false (by omega)]; rfl
    · refine atL_ok hF hJ (fun j hm hl => ?_)
      obtain ⟨_, n, hn, hq, hok⟩ := law j hm hl
      rw [den_ite]
      split
      · rename_i he
        have hnj := eqQ_tt n j (r30.trans hq) (p30.trans hm) he
        exact differ_zero (by rw [p31, r31, hok hnj])
      · rfl
    · refine atL_ok hF hJ (fun j hm hl => ?_)
      obtain ⟨hc, n, hn, hq, hok⟩ := law j hm hl
      rw [den_ite]
      split
      · rename_i he
        have hnj := eqQ_tt n j (r30.trans hq) (p30.trans hm) he
        refine differ_zero ?_
        rw [p32, r32]
        unfold checkF
        rw [hm, hq, hnj, hok hnj, Int.toNat_natCast, hc]
      · rfl
  · obtain ⟨k, hk, rfl⟩ := List.mem_map.1 hp
    have hk : k < 16 := by simpa using hk
    show b2i (env.f 21 [env.v (100 + k)] == env.v (100 + k)) = 1
    rw [f21 hF]
    have : byteF ([env.v (100 + k)].headD 0) = env.v (100 + k) := (hJ k hk).1
    rw [this]; simp [b2i]
  · obtain ⟨k, hk, rfl⟩ := List.mem_map.1 hp
    have hk : k < 16 := by simpa using hk
    show b2i (binDen .and .u64 (env.v (116 + k)) m54 == env.v (116 + k)) = 1
    rw [(hJ k hk).2]; simp [b2i]
  · obtain ⟨k, hk, rfl⟩ := List.mem_map.1 hp
    have hk : k < 16 := by simpa using hk
    show (tC k).den env = (E.ite (l7 k) (tC k) (.lit 1)).den env
    rw [den_ite, l7_tt hJ hk]
    cases hl : lockB (env.v (100 + k)) with
    | false => rfl
    | true =>
      show b2i ((E.app (140 + k) wa).den env == env.v (100 + k)) = 1
      rw [newC_lock hF hJ hk hl]; simp [b2i]
  · obtain ⟨k, hk, rfl⟩ := List.mem_map.1 hp
    have hk : k < 16 := by simpa using hk
    have stay : (lockB (env.v (100 + k)) = true ∨ (k < 15 ∧ lockB (env.v (100 + (k + 1))) = true ∧ kindF (env.v (100 + (k + 1))) = 1)) → (tA k).den env = 1 := fun hh => by
      show b2i ((E.app (100 + (16 + k)) wa).den env == env.v (116 + k)) = 1
      rw [newA_held hF hJ hk hh]; simp [b2i]
    show (tA k).den env = (E.ite (l7 k) (if Nat.beq k 15 then tA k else .ite (l7 (k + 1)) (tA k) (.ite (k1 (k + 1)) (.lit 1) (tA k))) (.lit 1)).den env
    rw [den_ite, l7_tt hJ hk]
    cases hl : lockB (env.v (100 + k)) with
    | true => exact stay (.inl hl)
    | false =>
      show (tA k).den env = E.den env (if Nat.beq k 15 then tA k else .ite (l7 (k + 1)) (tA k) (.ite (k1 (k + 1)) (.lit 1) (tA k)))
      by_cases h15 : k = 15
      · rw [if_pos (by simpa using h15)]
      · rw [if_neg (by simpa using h15), den_ite, den_ite, l7_tt hJ (by omega), k1_tt hJ (by omega)]
        cases hl1 : lockB (env.v (100 + (k + 1))) with
        | false => rfl
        | true =>
          by_cases hk1 : kindF (env.v (100 + (k + 1))) = 1
          · rw [decide_eq_true hk1]
            exact stay (.inr ⟨by omega, hl1, hk1⟩)
          · rw [decide_eq_false hk1]; rfl

theorem known_ok (hF : EnvF Phi env) : KnownOk env known := by
  intro p hp
  rw [List.mem_singleton.1 hp]
  show (E.bin .lss .i64 (.lit 15) c30).tt env = false
  rw [lt_tt, den_lit, (p_den hF).1]
  rcases matchI_range (canonW.map (E.den env)) (env.v 35) (env.v 36) with h | ⟨j, hj, h⟩
  · rw [h]; decide
  · rw [h]; exact decide_eq_false (by omega)

theorem good_ok (hF : EnvF Phi env) (hJ : J env) (σ : List (Nat × E)) (h : good σ = true) : J (updV env σ) := by
  intro k hk
  have := List.all_eq_true.1 h k (by simpa using hk)
  simp only [Bool.and_eq_true] at this
  rw [isTerm_v this.1, isTerm_v this.2]
  exact ⟨qc_byte hF hJ hk, qa_mask hF hJ hk⟩

theorem good0_ok (hF : EnvF Phi env) (σ : List (Nat × E)) (h : good0 σ = true) : J (updV env σ) := by
  intro k hk
  have := List.all_eq_true.1 h k (by simpa using hk)
  simp only [Bool.and_eq_true] at this
  rw [isTerm_v this.1, isTerm_v this.2]
  refine ⟨?_, and54_twice _⟩
  show byteF (env.f 21 [env.v k]) = env.f 21 [env.v k]
  rw [f21 hF]; exact byteF_twice _

end

noncomputable def code : Code := match Try.f25.body with | some c => c | none => .skip
noncomputable def foc : List Fr × Code := match focus code [] with | some r => r | none => ([], .skip)
theorem hb : Try.f25.body = some code := by kernel_rfl
theorem hfoc : focus code [] = some (foc.1, foc.2) := by kernel_rfl
theorem hbase : kds.length ≤ 99 := by decide
def pat : St := ⟨[.bad, .ptr 0 0, .bool (.lit (0)), .ptr 1 0, .ptr 2 0, .int .i64 (.var 99)] ++ List.replicate 7 (.bad) ++ [.bool (.lit (1)), .bool (.lit (0))] ++ List.replicate 2 (.ptr 0 0) ++ List.replicate 2 (.bad) ++ [.ptr 0 0] ++ List.replicate 158 (.bad),
  [.cells ([.int .u8 (.var 0), .int .u8 (.var 1), .int .u8 (.var 2), .int .u8 (.var 3), .int .u8 (.var 4), .int .u8 (.var 5), .int .u8 (.var 6), .int .u8 (.var 7), .int .u8 (.var 8), .int .u8 (.var 9), .int .u8 (.var 10), .int .u8 (.var 11), .int .u8 (.var 12), .int .u8 (.var 13), .int .u8 (.var 14), .int .u8 (.var 15), .int .u64 (.var 16), .int .u64 (.var 17), .int .u64 (.var 18), .int .u64 (.var 19), .int .u64 (.var 20), .int .u64 (.var 21), .int .u64 (.var 22), .int .u64 (.var 23), .int .u64 (.var 24), .int .u64 (.var 25), .int .u64 (.var 26), .int .u64 (.var 27), .int .u64 (.var 28), .int .u64 (.var 29), .int .u64 (.var 30), .int .u64 (.var 31), .int .i64 (.var 32), .int .u64 (.var 33), .int .i64 (.var 34), .int .u64 (.var 35), .int .i64 (.var 36), .int .i64 (.var 37), .osl 38]) 71,
   .cells ([.int .u8 (.var 100), .int .u8 (.var 101), .int .u8 (.var 102), .int .u8 (.var 103), .int .u8 (.var 104), .int .u8 (.var 105), .int .u8 (.var 106), .int .u8 (.var 107), .int .u8 (.var 108), .int .u8 (.var 109), .int .u8 (.var 110), .int .u8 (.var 111), .int .u8 (.var 112), .int .u8 (.var 113), .int .u8 (.var 114), .int .u8 (.var 115), .int .u64 (.var 116), .int .u64 (.var 117), .int .u64 (.var 118), .int .u64 (.var 119), .int .u64 (.var 120), .int .u64 (.var 121), .int .u64 (.var 122), .int .u64 (.var 123), .int .u64 (.var 124), .int .u64 (.var 125), .int .u64 (.var 126), .int .u64 (.var 127), .int .u64 (.var 128), .int .u64 (.var 129), .int .u64 (.var 130), .int .u64 (.var 131)]) 26,
   .cells ([.int .u8 (.var 0), .int .u8 (.var 1), .int .u8 (.var 2), .int .u8 (.var 3), .int .u8 (.var 4), .int .u8 (.var 5), .int .u8 (.var 6), .int .u8 (.var 7), .int .u8 (.var 8), .int .u8 (.var 9), .int .u8 (.var 10), .int .u8 (.var 11), .int .u8 (.var 12), .int .u8 (.var 13), .int .u8 (.var 14), .int .u8 (.var 15), .int .u64 (.var 16), .int .u64 (.var 17), .int .u64 (.var 18), .int .u64 (.var 19), .int .u64 (.var 20), .int .u64 (.var 21), .int .u64 (.var 22), .int .u64 (.var 23), .int .u64 (.var 24), .int .u64 (.var 25), .int .u64 (.var 26), .int .u64 (.var 27), .int .u64 (.var 28), .int .u64 (.var 29), .int .u64 (.var 30), .int .u64 (.var 31), .int .i64 (.var 32), .int .u64 (.var 33), .int .i64 (.var 34), .int .u64 (.var 35), .int .i64 (.var 36), .int .i64 (.var 37)]) 37]⟩
theorem hcl : patClean pat = true := by kernel_rfl
def Inv : Nat → Env → Prop := fun m env => Counts 99 38 m env ∧ J env
theorem to_run : toK 99 pat 99 good0 (evTo (lawW true (oszOf kds) [] (fun _ => false)) 1000 25 code [] ⟨cs ++ List.replicate (Try.f25.ntmps - cs.length) C.undef, []⟩) = true := by kernel_rfl
theorem round_run : roundK Try.prog (lawW true (oszOf kds) eqs (fun _ => false)) 1000 25 Try.f25 foc.1 99 pat 99 38 good known false (evCode (lawW true (oszOf kds) eqs (fun _ => false)) 1000 25 foc.2 pat) = true := by kernel_rfl
set_option maxRecDepth 100000 in
theorem h1 (env : Env) (hF : EnvF Φ env) (_hW : WfEnv env kds) : ∃ K n, CtxOk Try.prog (oszOf kds) env K ∧ (evTo K n 25 code [] ⟨cs ++ List.replicate (Try.f25.ntmps - cs.length) C.undef, []⟩).sat env (ToEnd Try.prog Try.f25 env (fun s => ∃ σ m, matchSt 99 pat s = some σ ∧ Inv m (updV env σ))) :=
  ⟨(lawW true (oszOf kds) [] (fun _ => false)), 1000, lawW_ok hF _ (by simp), toK_sat (good0_ok hF) to_run⟩
set_option maxRecDepth 100000 in
theorem h2 (m : Nat) (env : Env) (hF : EnvF Φ env) (_hW : WfEnv env kds) (_hP : PatIn env pat) (hI : Inv m env) : ∃ K n, CtxOk Try.prog (oszOf kds) env K ∧ (evCode K n 25 foc.2 pat).sat env (RoundEnd Try.prog K n 25 Try.f25 foc.1 env (fun s => ∃ σ m', m' < m ∧ matchSt 99 pat s = some σ ∧ Inv m' (updV env σ))) :=
  ⟨(lawW true (oszOf kds) eqs (fun _ => false)), 1000, lawW_ok hF _ (eqs_ok hF hI.2), roundK_sat hI.1 (hF.2.2 _) (good_ok hF hI.2) (known_ok hF) (by simp) round_run⟩
set_option maxRecDepth 100000 in
theorem lifted (os : Os) (started : os.Started) (H : Type) (enc : TypeId × Value → H) :
    ReturnsInHanded {} Try.checked os 25 .any (Rows.pmpLocksSpec.pre6 enc Try.prog Try.f25 Rows.pmpLocksRow.domain false) (Rows.pmpLocksSpec.post enc Try.prog Try.f25 false true false false) := by
  refine returnsInHanded_of_change (C := Try.checked) own started (by kernel_rfl) Try.func25
    (ChangeSpec.witness6 (enc := enc) (C := Try.checked) false ⟨#[], #[.agg (List.replicate 16 (Value.int .u8 0) ++ List.replicate 16 (Value.int .u64 0) ++ [Value.int .i64 0] ++ [Value.int .u64 0] ++ [Value.int .i64 0] ++ [Value.int .u64 0] ++ List.replicate 2 (Value.int .i64 0) ++ [Value.slice none 0 0]).toArray], []⟩ 8 (by kernel_rfl) (by kernel_rfl) (by kernel_rfl) (by kernel_rfl)) ?_
  intro W base args ds gs before hval0 hW hcnd _
  have hval : ∀ (j : Nat) t v, Try.f25.params[j]? = some t → args[j]? = some v → Value.okWide Try.prog W .any base t v := hval0
  have hW' := hW
  obtain ⟨p, q, hA0, hV, rfl, hfz, hnd⟩ := hW
  have hA : DataW.TrodAll enc Try.prog W 0 (fun _ => true) true [71] args.toList ds p := hA0
  obtain ⟨rfl, rfl⟩ := trodVars_none hV
  have hA1 := hA
  obtain ⟨v0, vs0, d0, ds0, p0, q0, hargs0, rfl, hp0, _, r0⟩ := trodAll_cons hA1
  obtain ⟨_, rfl, _⟩ := trodAll_nil r0
  simp only [List.append_nil] at hW'
  refine (law_loop Φ hA (fun j t v ht hv => hval j t v (by simpa using ht) hv) hargs (by decide) Try.func25 hb hfoc hbase hcl Inv h1 h2).mono fun e W' ⟨he, bel⟩ => ?_
  subst he
  exact ⟨_, rfl, _, _, _, [], _, [], hW', trodAll_mk1 (shut_bool Try.underlying4 _), trodAll_stays laidOut bel _ _ _ _ (by kernel_rfl) hA, rfl, bel.frame _, fun h => by cases h⟩

theorem c1 : Try.pinned.checked.prog.funcNamed Rows.pmpLocksRow.func = some 25 := by kernel_rfl
theorem c2 : joinedFacts Try.pinned.checked.prog 25 Try.f25 Rows.pmpLocksSpec Rows.pmpLocksRow = true := joined_mk rfl rfl (by kernel_rfl)
theorem c3 : Try.f25.isInstance Try.pinned.checked.prog Rows.pmpLocksRow.origin Rows.pmpLocksRow.targs := of_decide_eq_true (by kernel_rfl)
theorem c4 : Try.f25.isWrapper Try.pinned.checked.prog Rows.pmpLocksRow.wrapper Rows.pmpLocksRow.mainSum := by unfold Func.isWrapper; first | (rw [if_pos (by decide +kernel)]; kernel_rfl) | (rw [if_neg (by decide +kernel)]; exact ⟨rfl, rfl⟩)
theorem holds : Rows.PmpLocksSaid :=
  OpenClaim.holds_of_wide 25 Try.f25 rfl rfl rfl rfl rfl rfl rfl ⟨rfl, rfl, rfl, rfl, rfl⟩ rfl rfl rfl rfl rfl c1 Try.func25 c2 c3 c4
    (fun os started H enc _ => lifted os started H enc)
end PmpLocks
#print axioms PmpLocks.holds
end Go.Proofs.Ytibfaifjnifgjaa
