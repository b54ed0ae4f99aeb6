/-
  Laws on entries: runs with the rules for bytes; a Cfg register in two forms. No condition.
-/
import Derived.Test.YtibfaifjnifgjaaPmpRules
namespace Go.Proofs.Ytibfaifjnifgjaa
open Go.Sx Go.RowKit

/-- A law's run with the rules for bytes and addresses, too. -/
noncomputable def lawP (osz : Nat → Option (List (Option IntKind))) (eqs : List (E × E)) (sp : FuncId → Bool) : Ctx :=
  { P := Try.prog, sg := sgAll (fun e => rw1 eqs (nrmP (nrmG e))), sp := sp, osz := osz, nrm := fun e => rw1 eqs (nrmP (nrmG e)), nf := fun _ => false, fr := fun _ => true }

theorem ruleP_den {env : Env} (hF : EnvF Phi env) {eqs : List (E × E)} (h : ∀ p ∈ eqs, p.1.den env = p.2.den env) (e : E) : (rw1 eqs (nrmP (nrmG e))).den env = e.den env := by
  rw [rw1_den h, nrmP_den hF, nrmG_den]

theorem case_lawP {f : FuncId} {kds : List Kd} {cs : List C} {env : Env} (hF : EnvF Phi env) (n : Nat) (eqs : List (E × E)) (sp : FuncId → Bool) (he : ∀ p ∈ eqs, p.1.den env = p.2.den env)
    (h : isTrue (evFn (lawP (oszOf kds) eqs sp) n f cs []) = true) : Case Try.prog f kds cs env := by
  have hs : SgF env (lawP (oszOf kds) eqs sp).P (lawP (oszOf kds) eqs sp).sg := sgAll_ok hF (ruleP_den hF he)
  exact case_of (lawP (oszOf kds) eqs sp) n rfl rfl (ruleP_den hF he) hs h

/-! ### The entry's number: 0 to 15, or outside -/

def iV : E := .var 32

/-- A test that is known, and its denial. -/
def isE2 (c : E) (b : Bool) : List (E × E) := [(c, .lit (b2i b)), (.bin .eql .i64 c (.lit 0), .lit (b2i !b))]

theorem isE2_ok {env : Env} {c : E} {b : Bool} (ht : isTest c = true) (h : c.tt env = b) : ∀ p ∈ isE2 c b, p.1.den env = p.2.den env := by
  intro p hp
  simp only [isE2, List.mem_cons, List.not_mem_nil, or_false] at hp
  rcases hp with rfl | rfl
  · show c.den env = b2i b
    rw [isTest_den ht, h]
  · show b2i (c.den env == 0) = b2i !b
    rw [isTest_den ht, h]
    cases b <;> rfl

def assigns : Nat → List (List Bool)
  | 0 => [[]]
  | n + 1 => (assigns n).flatMap fun l => [true :: l, false :: l]

/-- Equations of tests. -/
def testEqs : List E → List Bool → List (E × E)
  | t :: ts, b :: bs => isE2 t b ++ testEqs ts bs
  | _, _ => []

theorem tests_split (env : Env) : ∀ (ts : List E), ts.all isTest = true → ∃ bs ∈ assigns ts.length, ∀ p ∈ testEqs ts bs, p.1.den env = p.2.den env := by
  intro ts
  induction ts with
  | nil => intro _; exact ⟨[], by simp [assigns], by simp [testEqs]⟩
  | cons t ts ih =>
    intro h
    simp only [List.all_cons, Bool.and_eq_true] at h
    obtain ⟨bs, hb, hp⟩ := ih h.2
    refine ⟨t.tt env :: bs, ?_, ?_⟩
    · simp only [List.length_cons, assigns, List.mem_flatMap]
      exact ⟨bs, hb, by cases t.tt env <;> simp⟩
    · intro p hpm
      simp only [testEqs, List.mem_append] at hpm
      rcases hpm with hpm | hpm
      · exact isE2_ok h.1 rfl p hpm
      · exact hp p hpm

def outLo : List (E × E) := isE2 (ltE iV (.lit 0)) true ++ (isE2 (eqE iV (.lit 0)) false ++ isE2 (eqE iV (.lit 2)) false)
def outHi : List (E × E) := isE2 (ltE iV (.lit 0)) false ++ (isE2 (ltE (.lit 15) iV) true ++ (isE2 (eqE iV (.lit 0)) false ++ isE2 (eqE iV (.lit 2)) false))

theorem ltE_tt (env : Env) (a b : E) : (ltE a b).tt env = decide (a.den env < b.den env) := b2i_dec _
theorem eqE_tt (env : Env) (a b : E) : (eqE a b).tt env = (a.den env == b.den env) := b2i_dec _

theorem entry_cases (env : Env) : (∃ i : Nat, i < 16 ∧ iV.den env = (i : Int)) ∨ (∀ p ∈ outLo, p.1.den env = p.2.den env) ∨ (∀ p ∈ outHi, p.1.den env = p.2.den env) := by
  have eqz : ∀ n : Int, iV.den env ≠ n → (eqE iV (.lit n)).tt env = false := fun n h => by
    rw [eqE_tt, den_lit]; simpa using h
  have app : ∀ {l m : List (E × E)}, (∀ p ∈ l, p.1.den env = p.2.den env) → (∀ p ∈ m, p.1.den env = p.2.den env) → ∀ p ∈ l ++ m, p.1.den env = p.2.den env := fun h k p hp => by
    rcases List.mem_append.1 hp with hp | hp
    · exact h p hp
    · exact k p hp
  by_cases h0 : iV.den env < 0
  · right; left
    exact app (isE2_ok rfl (by rw [ltE_tt]; exact decide_eq_true h0)) (app (isE2_ok rfl (eqz 0 (by omega))) (isE2_ok rfl (eqz 2 (by omega))))
  · by_cases h15 : 15 < iV.den env
    · right; right
      exact app (isE2_ok rfl (by rw [ltE_tt]; exact decide_eq_false h0)) (app (isE2_ok rfl (by rw [ltE_tt]; exact decide_eq_true h15)) (app (isE2_ok rfl (eqz 0 (by omega))) (isE2_ok rfl (eqz 2 (by omega)))))
    · left; exact ⟨(iV.den env).toNat, by omega, by omega⟩

/-! ### A Cfg register -/

def cbE (o k : Nat) : E := .conv .u64 (.app 21 (.cons (.var (o + k)) .nil))
def orE (o : Nat) : Nat → E
  | 0 => .lit 0
  | k + 1 => .bin .or .u64 (orE o k) (.bin .shl .u64 (cbE o k) (.lit (8 * k : Nat)))
def hoE (o : Nat) : Nat → E
  | 0 => .lit 0
  | j + 1 => match j with
    | 0 => .bin .add .u64 (.lit 0) (cbE o 7)
    | _ => .bin .add .u64 (.bin .mul .u64 (hoE o j) (.lit 256)) (cbE o (7 - j))

theorem byteF_range (x : Int) : 0 ≤ byteF x ∧ byteF x < 256 := by
  have h : byteF x = if binDen .and .u8 x 1 = 0 then binDen .and .u8 x 157 else binDen .and .u8 x 159 := by
    show (if b2i (binDen .and .u8 x 1 == 0) ≠ 0 then binDen .and .u8 x 157 else binDen .and .u8 x 159) = _
    by_cases h : binDen .and .u8 x 1 = 0 <;> simp [h, b2i]
  rw [h, and_u8, and_u8, and_u8]
  have h1 := (BitVec.ofInt 8 x &&& BitVec.ofInt 8 157).isLt
  have h2 := (BitVec.ofInt 8 x &&& BitVec.ofInt 8 159).isLt
  split <;> constructor <;> omega

theorem cb_den {env : Env} (hF : EnvF Phi env) (o k : Nat) : ∃ b : Nat, (cbE o k).den env = b ∧ b < 256 := by
  have hr := byteF_range ((E.var (o + k)).den env)
  have e : (cbE o k).den env = IntKind.u64.wrap (byteF ((E.var (o + k)).den env)) := by
    show IntKind.u64.wrap ((E.app 21 (.cons (.var (o + k)) .nil)).den env) = _
    rw [app1_den, f21 hF]; rfl
  refine ⟨(byteF ((E.var (o + k)).den env)).toNat, ?_, by omega⟩
  rw [e]
  simp only [IntKind.wrap, IntKind.signed, IntKind.bits]
  simp
  omega

theorem or_step {x b k : Nat} (hx : x < 2 ^ (8 * k)) (hb : b < 256) (hk : k < 8) : binDen .or .u64 (x : Int) (binDen .shl .u64 (b : Int) ((8 * k : Nat) : Int)) = ((x + b * 2 ^ (8 * k) : Nat) : Int) := by
  have hle : b * 2 ^ (8 * k) < 2 ^ 64 := by
    have : b * 2 ^ (8 * k) < 256 * 2 ^ (8 * k) := Nat.mul_lt_mul_of_pos_right hb (Nat.two_pow_pos _)
    have h2 : 256 * 2 ^ (8 * k) = 2 ^ (8 + 8 * k) := by rw [Nat.pow_add]
    have h3 : 2 ^ (8 + 8 * k) ≤ 2 ^ 64 := Nat.pow_le_pow_right (by decide) (by omega)
    omega
  have hs : binDen .shl .u64 (b : Int) ((8 * k : Nat) : Int) = ((b * 2 ^ (8 * k) : Nat) : Int) := by
    show IntKind.u64.wrap ((b : Int) * 2 ^ (min ((8 * k : Nat) : Int).toNat 64)) = _
    have : min ((8 * k : Nat) : Int).toNat 64 = 8 * k := by omega
    rw [this]
    have e : (b : Int) * 2 ^ (8 * k) = ((b * 2 ^ (8 * k) : Nat) : Int) := by simp
    rw [e]; exact wrap_nat hle
  have hx64 : x < 2 ^ 64 := Nat.lt_of_lt_of_le hx (Nat.pow_le_pow_right (by decide) (by omega))
  rw [hs, or_nat hx64 hle]
  congr 1
  rw [Nat.or_comm, ← Nat.shiftLeft_eq, ← Nat.shiftLeft_add_eq_or_of_lt hx, Nat.add_comm]

theorem ho_step {x b : Nat} (hx : x < 2 ^ 56) (hb : b < 256) : binDen .add .u64 (binDen .mul .u64 (x : Int) 256) (b : Int) = ((x * 256 + b : Nat) : Int) := by
  show IntKind.u64.wrap (IntKind.u64.wrap ((x : Int) * 256) + b) = _
  simp only [IntKind.wrap, IntKind.signed, IntKind.bits]
  simp
  omega

theorem cfg_eq {env : Env} (hF : EnvF Phi env) (o : Nat) : (hoE o 8).den env = (orE o 8).den env := by
  obtain ⟨b0, e0, l0⟩ := cb_den hF o 0
  obtain ⟨b1, e1, l1⟩ := cb_den hF o 1
  obtain ⟨b2, e2, l2⟩ := cb_den hF o 2
  obtain ⟨b3, e3, l3⟩ := cb_den hF o 3
  obtain ⟨b4, e4, l4⟩ := cb_den hF o 4
  obtain ⟨b5, e5, l5⟩ := cb_den hF o 5
  obtain ⟨b6, e6, l6⟩ := cb_den hF o 6
  obtain ⟨b7, e7, l7⟩ := cb_den hF o 7
  have r : (orE o 8).den env = ((b0 + b1 * 2 ^ 8 + b2 * 2 ^ 16 + b3 * 2 ^ 24 + b4 * 2 ^ 32 + b5 * 2 ^ 40 + b6 * 2 ^ 48 + b7 * 2 ^ 56 : Nat) : Int) := by
    simp only [orE, den_bin, e0, e1, e2, e3, e4, e5, e6, e7, den_lit]
    rw [show (0 : Int) = ((0 : Nat) : Int) from rfl, or_step (k := 0) (by omega) l0 (by decide), or_step (k := 1) (by omega) l1 (by decide), or_step (k := 2) (by omega) l2 (by decide), or_step (k := 3) (by omega) l3 (by decide),
      or_step (k := 4) (by omega) l4 (by decide), or_step (k := 5) (by omega) l5 (by decide), or_step (k := 6) (by omega) l6 (by decide), or_step (k := 7) (by omega) l7 (by decide)]
    congr 1; omega
  have h1 : (hoE o 1).den env = (b7 : Int) := by
    show IntKind.u64.wrap (0 + (cbE o 7).den env) = _
    rw [e7]
    simp only [IntKind.wrap, IntKind.signed, IntKind.bits]
    simp
    omega
  have s : ∀ (j x b : Nat), (hoE o (j + 1)).den env = (x : Int) → (cbE o (7 - (j + 1))).den env = (b : Int) → x < 2 ^ 56 → b < 256 → (hoE o (j + 2)).den env = ((x * 256 + b : Nat) : Int) := fun j x b hx hb h56 h256 => by
    show binDen .add .u64 (binDen .mul .u64 ((hoE o (j + 1)).den env) 256) ((cbE o (7 - (j + 1))).den env) = _
    rw [hx, hb, ho_step h56 h256]
  have h2 := s 0 _ _ h1 e6 (by omega) l6
  have h3 := s 1 _ _ h2 e5 (by omega) l5
  have h4 := s 2 _ _ h3 e4 (by omega) l4
  have h5 := s 3 _ _ h4 e3 (by omega) l3
  have h6 := s 4 _ _ h5 e2 (by omega) l2
  have h7 := s 5 _ _ h6 e1 (by omega) l1
  have h8 := s 6 _ _ h7 e0 (by omega) l0
  rw [h8, r]
  congr 1; omega

/-! ### A law on one entry -/

/-- What is asked of entry i's locks. -/
def tests (i : Nat) : List E :=
  if Nat.beq i 15 then [lockT (.var 15)] else [lockT (.var i), lockT (.var (i + 1)), eqE (kindT (.var (i + 1))) (.lit 1)]

theorem tests_ok (i : Nat) : (tests i).all isTest = true := by
  unfold tests; split <;> rfl

def cfgEqs : List (E × E) := [(hoE 0 8, orE 0 8), (hoE 8 8, orE 8 8)]

noncomputable def runEntry (kds : List Kd) (f : FuncId) (cs : List C) (i : Nat) : Bool :=
  (assigns (tests i).length).all fun bs => isTrue (evFn (lawP (oszOf kds) (testEqs (tests i) bs ++ cfgEqs) (fun _ => false)) 1000 f (cs.map (C.fix iV (Int.ofNat i))) [])

theorem case_entry {f : FuncId} {kds : List Kd} {cs : List C} {env : Env} (hF : EnvF Phi env) (h : ∀ i, i < 16 → runEntry kds f cs i = true)
    (hlo : isTrue (evFn (lawP (oszOf kds) outLo (fun _ => false)) 1000 f cs []) = true) (hhi : isTrue (evFn (lawP (oszOf kds) outHi (fun _ => false)) 1000 f cs []) = true) : Case Try.prog f kds cs env := by
  rcases entry_cases env with ⟨i, hi, he⟩ | hl | hh
  · refine Case.fixed iV (Int.ofNat i) he ?_
    obtain ⟨bs, hb, hp⟩ := tests_split env (tests i) (tests_ok i)
    refine case_lawP hF 1000 _ (fun _ => false) (fun p hpm => ?_) (List.all_eq_true.1 (h i hi) bs hb)
    rcases List.mem_append.1 hpm with hpm | hpm
    · exact hp p hpm
    · simp only [cfgEqs, List.mem_cons, List.not_mem_nil, or_false] at hpm
      rcases hpm with rfl | rfl
      · exact cfg_eq hF 0
      · exact cfg_eq hF 8
  · exact case_lawP hF 1000 outLo (fun _ => false) hl hlo
  · exact case_lawP hF 1000 outHi (fun _ => false) hh hhi

theorem below16 {p : Nat → Bool} (h0 : p 0 = true) (h1 : p 1 = true) (h2 : p 2 = true) (h3 : p 3 = true) (h4 : p 4 = true) (h5 : p 5 = true) (h6 : p 6 = true) (h7 : p 7 = true) (h8 : p 8 = true) (h9 : p 9 = true) (h10 : p 10 = true) (h11 : p 11 = true) (h12 : p 12 = true) (h13 : p 13 = true) (h14 : p 14 = true) (h15 : p 15 = true) :
    ∀ i, i < 16 → p i = true := by
  intro i hi
  match i, hi with
  | 0, _ => exact h0
  | 1, _ => exact h1
  | 2, _ => exact h2
  | 3, _ => exact h3
  | 4, _ => exact h4
  | 5, _ => exact h5
  | 6, _ => exact h6
  | 7, _ => exact h7
  | 8, _ => exact h8
  | 9, _ => exact h9
  | 10, _ => exact h10
  | 11, _ => exact h11
  | 12, _ => exact h12
  | 13, _ => exact h13
  | 14, _ => exact h14
  | 15, _ => exact h15
  | n + 16, h => exact absurd h (by omega)

end Go.Proofs.Ytibfaifjnifgjaa
