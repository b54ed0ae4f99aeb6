/- The law PmpShapes returns true for every input and leaves its argument as it was. No condition. -/
import Derived.Test.YtibfaifjnifgjaaRows
import Derived.Test.YtibfaifjnifgjaaSx15
import Derived.Test.YtibfaifjnifgjaaSeat
import Derived.Test.YtibfaifjnifgjaaPmpSpec
namespace Go.Proofs.Ytibfaifjnifgjaa
open Go.ChangeShapes Go.WideShapes Go.ChangeAt Go.RowKit Go.Sx
namespace PmpShapes
def kds : List Kd := List.replicate 2 (Kd.num (some .i64)) ++ List.replicate 2 (Kd.num (some .u64))
noncomputable def cs : List C := match argsC Try.prog [3, 3, 23, 23] 0 with | some r => r.1 | none => []
theorem hargs : argsC Try.prog [3, 3, 23, 23] 0 = some (cs, kds) := by kernel_rfl
abbrev Φ := Phi
def nn : E := .conv .u64 (.var 1)
def n1 : E := .conv .u64 (.bin .add .i64 (.var 1) (.lit 1))
def bE : E := .bin .shr .u64 (.bin .shl .u64 (.var 2) (.lit 10)) (.lit 10)
def gE : E := .bin .shl .u64 (.bin .shr .u64 bE n1) n1
def fE : E := .bin .shl .u64 gE (.lit 2)
def oE : E := .bin .sub .u64 (.bin .shl .u64 (.lit 1) nn) (.lit 1)
def aE : E := .bin .and .u64 (.bin .or .u64 (.bin .shr .u64 fE (.lit 2)) oE) (.lit m54)
def a4 : E := .bin .shl .u64 aE (.lit 2)
def sE : E := .bin .sub .u64 (.bin .shl .u64 (.lit 8) nn) (.lit 1)
def t3 (g c : Nat) (p : E) : E := .app g (.cons (.lit (Int.ofNat c)) (.cons p (.cons aE .nil)))
def loE : E := t3 23 25 (.lit 0)
def hiE : E := t3 24 25 (.lit 0)
def cellsI (i : Nat) : List E := (List.range 16).map (fun j => if Nat.beq j i then .lit 25 else .lit 0) ++ (List.range 16).map (fun j => if Nat.beq j i then aE else .lit 0)
noncomputable def gr (i : Nat) (a : E) : E := .app 33 (listE (cellsI i ++ [a, .lit 1]))
def pI (i : Nat) : E := if Nat.beq i 0 then .lit 0 else a54 (.var 3)
def frI (i : Nat) : E := if Nat.beq i 0 then .lit 0 else .bin .shr .u64 (.bin .shl .u64 (.var 3) (.lit 10)) (.lit 8)
def eqU (a b : E) : E := .bin .eql .u64 a b
def tT (i : Nat) : E := if Nat.beq i 0 then .bin .lss .u64 (.lit 0) aE else .bin .lss .u64 (frI i) a4
noncomputable def kn0 (i : Nat) : List (E × Bool) :=
  [(ltE (.var 1) (.lit 0), false), (ltE (.lit 53) (.var 1), false), (ltE nn (.lit 0), false), (ltE n1 (.lit 0), false),
   (t3 25 25 (.lit 0), true), (eqU loE fE, true), (eqU (.bin .sub .u64 hiE loE) sE, true), (gr i hiE, true), (gr i loE, true), (gr i (.bin .sub .u64 loE (.lit 1)), false), (gr i (.bin .add .u64 hiE (.lit 1)), false),
   (t3 25 17 (.lit 0), true), (eqU (t3 23 17 (.lit 0)) a4, true), (eqU (t3 24 17 (.lit 0)) (.bin .add .u64 (t3 23 17 (.lit 0)) (.lit 3)), true)]
noncomputable def kn (i : Nat) (t : Bool) : List (E × Bool) :=
  kn0 i ++ if t then [(tT i, true), (t3 25 9 (pI i), true), (eqU (t3 23 9 (pI i)) (frI i), true), (eqU (t3 24 9 (pI i)) (.bin .sub .u64 a4 (.lit 1)), true)]
    else [(tT i, false), (t3 25 9 (pI i), false), (eqU (t3 23 9 (pI i)) (.lit 0), true), (eqU (t3 24 9 (pI i)) (.lit 0), true)]

noncomputable def runS (i : Nat) (t : Bool) : Bool := isTrueK (kn i t) (evFn (lawW false (oszOf kds) [] (fun _ => false)) 1000 29 (cs.map (C.fix (.var 0) (Int.ofNat i))) [])
noncomputable def runI (i : Nat) : Bool := runS i true && runS i false
theorem run0 : runI 0 = true := by kernel_rfl
theorem run1 : runI 1 = true := by kernel_rfl
theorem run2 : runI 2 = true := by kernel_rfl
theorem run3 : runI 3 = true := by kernel_rfl
theorem run4 : runI 4 = true := by kernel_rfl
theorem run5 : runI 5 = true := by kernel_rfl
theorem run6 : runI 6 = true := by kernel_rfl
theorem run7 : runI 7 = true := by kernel_rfl
theorem run8 : runI 8 = true := by kernel_rfl
theorem run9 : runI 9 = true := by kernel_rfl
theorem run10 : runI 10 = true := by kernel_rfl
theorem run11 : runI 11 = true := by kernel_rfl
theorem run12 : runI 12 = true := by kernel_rfl
theorem run13 : runI 13 = true := by kernel_rfl
theorem run14 : runI 14 = true := by kernel_rfl
theorem run15 : runI 15 = true := by kernel_rfl
theorem runs : ∀ i, i < 16 → runI i = true := below16 run0 run1 run2 run3 run4 run5 run6 run7 run8 run9 run10 run11 run12 run13 run14 run15
def oLo : List (E × E) := isE2 (ltE (.var 0) (.lit 0)) true
def oHi : List (E × E) := isE2 (ltE (.var 0) (.lit 0)) false ++ isE2 (ltE (.lit 15) (.var 0)) true
def nLo : List (E × E) := isE2 (ltE (.var 1) (.lit 0)) true
def nHi : List (E × E) := isE2 (ltE (.var 1) (.lit 0)) false ++ isE2 (ltE (.lit 53) (.var 1)) true
noncomputable def runO (eqs : List (E × E)) : Bool := isTrueK [] (evFn (lawW false (oszOf kds) eqs (fun _ => false)) 1000 29 cs [])
theorem runOLo : runO oLo = true := by kernel_rfl
theorem runOHi : runO oHi = true := by kernel_rfl
theorem runNLo : runO nLo = true := by kernel_rfl
theorem runNHi : runO nHi = true := by kernel_rfl

/-! The numbers. -/

theorem shlN {x k : Nat} (hk : k ≤ 64) : binDen .shl .u64 (x : Int) (k : Int) = ((x * 2 ^ k % 2 ^ 64 : Nat) : Int) := by
  show IntKind.u64.wrap ((x : Int) * 2 ^ (min (k : Int).toNat 64)) = _
  rw [Int.toNat_natCast, show min k 64 = k by omega, show (2 : Int) ^ k = ((2 ^ k : Nat) : Int) by rw [Int.natCast_pow]; rfl, ← Int.natCast_mul]
  simp only [IntKind.wrap, IntKind.signed, IntKind.bits]
  simp

theorem shrN {x k : Nat} (hk : k ≤ 64) : binDen .shr .u64 (x : Int) (k : Int) = ((x / 2 ^ k : Nat) : Int) := by
  rw [shr_nat hk, Nat.shiftRight_eq_div_pow]

theorem subN {x y : Nat} (h : y ≤ x) (hx : x < 2 ^ 64) : binDen .sub .u64 (x : Int) (y : Int) = ((x - y : Nat) : Int) := by
  show IntKind.u64.wrap ((x : Int) - y) = _
  rw [show (x : Int) - y = ((x - y : Nat) : Int) by omega, wrap_nat (by omega)]

structure Nums (env : Env) (n B q : Nat) : Prop where
  hF : EnvF Phi env
  le : n ≤ 53
  dn : nn.den env = (n : Int)
  dn1 : n1.den env = ((n + 1 : Nat) : Int)
  db : bE.den env = (B : Int)
  lt : B < 2 ^ 54
  hq : B / 2 ^ (n + 1) = q

section
variable {env : Env} {n B q : Nat}

theorem Nums.gLt (h : Nums env n B q) : q * 2 ^ (n + 1) + 2 ^ (n + 1) ≤ 2 ^ 54 := by
  have hp := Nat.two_pow_pos (n + 1)
  have hm : 2 ^ 54 = 2 ^ (n + 1) * 2 ^ (53 - n) := by rw [← Nat.pow_add]; congr 1; have := h.le; omega
  have h1 : q < 2 ^ (53 - n) := by
    rw [← h.hq]
    refine Nat.div_lt_of_lt_mul ?_
    rw [← hm]; exact h.lt
  have h2 : (q + 1) * 2 ^ (n + 1) ≤ 2 ^ (53 - n) * 2 ^ (n + 1) := Nat.mul_le_mul_right _ h1
  rw [Nat.mul_comm (2 ^ (53 - n)), ← hm, Nat.add_mul, Nat.one_mul] at h2
  exact h2

theorem Nums.g (h : Nums env n B q) : gE.den env = ((q * 2 ^ (n + 1) : Nat) : Int) := by
  have hn := h.le
  show binDen .shl .u64 (binDen .shr .u64 (bE.den env) (n1.den env)) (n1.den env) = _
  rw [h.db, h.dn1, shrN (by omega), h.hq, shlN (by omega), Nat.mod_eq_of_lt]
  have := h.gLt
  have := Nat.two_pow_pos (n + 1)
  omega

theorem Nums.f (h : Nums env n B q) : fE.den env = ((q * 2 ^ (n + 1) * 4 : Nat) : Int) := by
  show binDen .shl .u64 (gE.den env) 2 = _
  have := h.gLt
  have := Nat.two_pow_pos (n + 1)
  rw [h.g, shl2_nat (by omega)]

theorem Nums.o (h : Nums env n B q) : oE.den env = ((2 ^ n - 1 : Nat) : Int) := by
  have hn := h.le
  have hp0 := Nat.two_pow_pos n
  have hp := pow_le (show n ≤ 54 by omega)
  show binDen .sub .u64 (binDen .shl .u64 ((1 : Nat) : Int) (nn.den env)) ((1 : Nat) : Int) = _
  rw [h.dn, shlN (by omega), Nat.one_mul, Nat.mod_eq_of_lt (by omega), subN (by omega) (by omega)]

theorem Nums.a (h : Nums env n B q) : aE.den env = ((q * 2 ^ (n + 1) + (2 ^ n - 1) : Nat) : Int) := by
  have hg := h.gLt
  have hp0 := Nat.two_pow_pos n
  have e1 : 2 ^ (n + 1) = 2 ^ n * 2 := Nat.pow_succ ..
  show binDen .and .u64 (binDen .or .u64 (binDen .shr .u64 (fE.den env) ((2 : Nat) : Int)) (oE.den env)) ((m54.toNat : Nat) : Int) = _
  rw [h.f, h.o, shrN (by decide), show q * 2 ^ (n + 1) * 4 / 2 ^ 2 = q * 2 ^ (n + 1) by omega, or_nat (by omega) (by omega)]
  have e2 : q * 2 ^ (n + 1) ||| (2 ^ n - 1) = q * 2 ^ (n + 1) + (2 ^ n - 1) := by
    have := Nat.shiftLeft_add_eq_or_of_lt (show 2 ^ n - 1 < 2 ^ (n + 1) by omega) q
    rw [Nat.shiftLeft_eq] at this
    exact this.symm
  rw [e2, and_nat (by omega) (by decide), show m54.toNat = 2 ^ 54 - 1 from rfl, Nat.and_two_pow_sub_one_eq_mod, Nat.mod_eq_of_lt (by omega)]

/-- The address, as a number. -/
def aNum (n q : Nat) : Nat := q * 2 ^ (n + 1) + (2 ^ n - 1)

theorem aNum_form (n q : Nat) : aNum n q + 1 = 2 ^ n * (2 * q + 1) := by
  have hp0 := Nat.two_pow_pos n
  have e1 : 2 ^ (n + 1) = 2 ^ n * 2 := Nat.pow_succ ..
  unfold aNum
  rw [Nat.mul_add, Nat.mul_one, ← Nat.mul_assoc, ← e1, Nat.mul_comm q]
  omega

theorem Nums.aLt (h : Nums env n B q) : aNum n q + 2 ^ n < 2 ^ 54 := by
  have hg := h.gLt
  have hp0 := Nat.two_pow_pos n
  have e1 : 2 ^ (n + 1) = 2 ^ n * 2 := Nat.pow_succ ..
  unfold aNum; omega

theorem napF {A t q : Nat} (h : A + 1 = 2 ^ t * (2 * q + 1)) (hA : A < 2 ^ 54) : napFromN (A : Int) = ((2 ^ (t + 1) * q * 4 : Nat) : Int) ∧ napToN (A : Int) = ((2 ^ (t + 1) * q * 4 + (2 ^ (t + 3) - 1) : Nat) : Int) := by
  obtain ⟨ht, hb⟩ := tail_bits h hA
  have hp0 := Nat.two_pow_pos t
  have hp := pow_le ht
  have e3 : 2 ^ (t + 3) = 2 ^ (t + 1) * 4 := by rw [Nat.pow_succ, Nat.pow_succ]; omega
  have e1 : 2 ^ (t + 1) = 2 ^ t * 2 := Nat.pow_succ ..
  have hl : lowN (A : Int) = ((2 ^ (t + 1) - 1 : Nat) : Int) := by
    unfold lowN
    rw [ones_of h hA, low_of ht]
  have hf : napFromN (A : Int) = ((2 ^ (t + 1) * q * 4 : Nat) : Int) := by
    unfold napFromN
    rw [hl, base_of h hA, shl2_nat (by omega)]
  refine ⟨hf, ?_⟩
  unfold napToN
  rw [hf, hl, shl2_nat (by omega)]
  have e : binDen .or .u64 (((2 ^ (t + 1) - 1) * 4 : Nat) : Int) 3 = ((2 ^ (t + 3) - 1 : Nat) : Int) := by
    rw [show (3 : Int) = ((3 : Nat) : Int) from rfl, or_nat (by omega) (by decide)]
    have : (2 ^ (t + 1) - 1) * 4 = (2 ^ (t + 1) - 1) <<< 2 := by rw [Nat.shiftLeft_eq]
    rw [this, ← Nat.shiftLeft_add_eq_or_of_lt (show 3 < 2 ^ 2 by decide), Nat.shiftLeft_eq]
    congr 1; omega
  rw [e, add_nat (by omega)]

theorem fromF_G (c p a : Int) : fromF c p a = fromG (kindF c) p a := rfl
theorem toF_G (c p a : Int) : toF c p a = toG (kindF c) p a := rfl
theorem okF_G (c p a : Int) : okF c p a = okG (kindF c) p a := rfl
theorem k25 : kindF 25 = 3 := by decide
theorem k17 : kindF 17 = 2 := by decide
theorem k9 : kindF 9 = 1 := by decide
theorem k0 : kindF 0 = 0 := by decide

/-- A NAPOT entry's range. -/
theorem nap (h : Nums env n B q) (p : Int) : okF 25 p (aNum n q : Int) = 1 ∧ fromF 25 p (aNum n q : Int) = ((q * 2 ^ (n + 1) * 4 : Nat) : Int) ∧ toF 25 p (aNum n q : Int) = ((q * 2 ^ (n + 1) * 4 + (2 ^ (n + 3) - 1) : Nat) : Int) := by
  have hA := h.aLt
  have hne : ((aNum n q : Int) == m54) = false := by
    have hn := h.le
    have hp0 := Nat.two_pow_pos n
    have : (aNum n q : Int) ≠ m54 := by unfold m54; omega
    simpa using this
  have hp0 := Nat.two_pow_pos n
  obtain ⟨h1, h2⟩ := napF (aNum_form n q) (by omega)
  have e : binDen .eql .u64 (aNum n q : Int) m54 = 0 := by show b2i ((aNum n q : Int) == m54) = 0; rw [hne]; rfl
  rw [okF_G, fromF_G, toF_G, k25]
  refine ⟨rfl, ?_, ?_⟩
  · show (if binDen .eql .u64 (aNum n q : Int) m54 ≠ 0 then (0 : Int) else napFromN (aNum n q : Int)) = _
    rw [e, if_neg (by decide), h1, Nat.mul_comm (2 ^ (n + 1))]
  · show (if binDen .eql .u64 (aNum n q : Int) m54 ≠ 0 then (18446744073709551615 : Int) else napToN (aNum n q : Int)) = _
    rw [e, if_neg (by decide), h2, Nat.mul_comm (2 ^ (n + 1))]

/-! One entry alone. -/

theorem cellsI_length (i : Nat) : (cellsI i).length = 32 := by simp [cellsI]

theorem cfgI (env : Env) (i : Nat) (r : List Int) {j : Nat} (hj : j < 16) : cfgAt ((cellsI i).map (E.den env) ++ r) j = if j = i then 25 else 0 := by
  unfold cfgAt cellsI
  rw [List.getElem?_append_left (by simp; omega), List.getElem?_map, List.getElem?_append_left (by simpa using hj), List.getElem?_map, List.getElem?_range hj]
  show (if Nat.beq j i then E.lit 25 else E.lit 0).den env = _
  by_cases h : j = i
  · rw [if_pos (by simpa using h), if_pos h]; rfl
  · rw [if_neg (by simpa using h), if_neg h]; rfl

theorem adrI (env : Env) (i : Nat) (r : List Int) {j : Nat} (hj : j < 16) : adrAt ((cellsI i).map (E.den env) ++ r) j = if j = i then aE.den env else 0 := by
  unfold adrAt cellsI
  rw [List.getElem?_append_left (by simp; omega), List.getElem?_map, List.getElem?_append_right (by simp), List.getElem?_map]
  rw [List.length_map, List.length_range, show 16 + j - 16 = j by omega, List.getElem?_range hj]
  show (if Nat.beq j i then aE else E.lit 0).den env = _
  by_cases h : j = i
  · rw [if_pos (by simpa using h), if_pos h]
  · rw [if_neg (by simpa using h), if_neg h]; rfl

theorem holdsI (h : Nums env n B q) {i : Nat} (r : List Int) {j : Nat} (hj : j < 16) (b : Int) :
    holdsF ((cellsI i).map (E.den env) ++ r) j b = (decide (j = i) && (decide (((q * 2 ^ (n + 1) * 4 : Nat) : Int) ≤ b) && decide (b ≤ ((q * 2 ^ (n + 1) * 4 + (2 ^ (n + 3) - 1) : Nat) : Int)))) := by
  unfold holdsF
  rw [cfgI env i r hj, adrI env i r hj]
  by_cases hji : j = i
  · rw [if_pos hji, if_pos hji]
    have ha : aE.den env = (aNum n q : Int) := h.a
    obtain ⟨h1, h2, h3⟩ := nap h (prevAt ((cellsI i).map (E.den env) ++ r) j)
    rw [ha, h1, h2, h3, decide_eq_true hji]; rfl
  · have hz : ∀ p : Int, okF 0 p 0 = 0 := fun p => by rw [okF_G, k0]; rfl
    rw [if_neg hji, if_neg hji, decide_eq_false hji, hz]
    rfl

theorem cntI (h : Nums env n B q) {i : Nat} (r : List Int) {j : Nat} (hj : j < 16) (x : Int) :
    cntF ((cellsI i).map (E.den env) ++ r) j x 1 = if (j = i) ∧ ((q * 2 ^ (n + 1) * 4 : Nat) : Int) ≤ IntKind.u64.wrap (x + ((0 : Nat) : Int)) ∧ IntKind.u64.wrap (x + ((0 : Nat) : Int)) ≤ ((q * 2 ^ (n + 1) * 4 + (2 ^ (n + 3) - 1) : Nat) : Int) then 1 else 0 := by
  simp only [cntF]
  rw [holdsI h r hj, Nat.zero_add]
  by_cases hc : (j = i) ∧ ((q * 2 ^ (n + 1) * 4 : Nat) : Int) ≤ IntKind.u64.wrap (x + ((0 : Nat) : Int)) ∧ IntKind.u64.wrap (x + ((0 : Nat) : Int)) ≤ ((q * 2 ^ (n + 1) * 4 + (2 ^ (n + 3) - 1) : Nat) : Int)
  · rw [if_pos hc, decide_eq_true hc.1, decide_eq_true hc.2.1, decide_eq_true hc.2.2]; rfl
  · rw [if_neg hc, if_neg]
    intro hh
    simp only [Bool.and_eq_true, decide_eq_true_eq] at hh
    exact hc hh

/-- Which bytes are granted. -/
theorem grantI (h : Nums env n B q) {i : Nat} (hi : i < 16) (r : List Int) {x : Nat} (hx : x < 2 ^ 64) :
    grantF ((cellsI i).map (E.den env) ++ r) (x : Int) 1 = if q * 2 ^ (n + 1) * 4 ≤ x ∧ x ≤ q * 2 ^ (n + 1) * 4 + (2 ^ (n + 3) - 1) then 1 else 0 := by
  have hw : IntKind.u64.wrap ((x : Int) + ((0 : Nat) : Int)) = (x : Int) := by
    rw [show (x : Int) + ((0 : Nat) : Int) = (x : Int) by simp]; exact wrap_nat hx
  by_cases hc : q * 2 ^ (n + 1) * 4 ≤ x ∧ x ≤ q * 2 ^ (n + 1) * 4 + (2 ^ (n + 3) - 1)
  · rw [if_pos hc]
    have hm : matchI ((cellsI i).map (E.den env) ++ r) (x : Int) 1 = (i : Int) := match_of (by decide) (by decide) hi
      (by show 0 < cntF _ i _ 1; rw [cntI h r hi, if_pos ⟨rfl, by rw [hw]; omega, by rw [hw]; omega⟩]; decide)
      (fun k hk => by show cntF _ k _ 1 = 0; rw [cntI h r (by omega), if_neg (fun hh => by omega)])
    unfold grantF
    rw [hm, if_neg (by omega), Int.toNat_natCast, cfgI env i r hi, if_pos rfl]
    decide
  · rw [if_neg hc]
    have hm : matchI ((cellsI i).map (E.den env) ++ r) (x : Int) 1 = -1 := by
      rcases matchI_range ((cellsI i).map (E.den env) ++ r) (x : Int) 1 with h0 | ⟨j, hj, he⟩
      · exact h0
      · exfalso
        obtain ⟨_, _, _, h3, _⟩ := match_spec he
        have h3 : 0 < cntF ((cellsI i).map (E.den env) ++ r) j (x : Int) 1 := h3
        rw [cntI h r hj] at h3
        split at h3
        · rename_i hh
          rw [hw] at hh
          exact hc ⟨by omega, by omega⟩
        · omega
    unfold grantF
    rw [hm]; rfl

theorem gr_den (hF : EnvF Phi env) (i : Nat) (a : E) {x : Nat} (ha : a.den env = (x : Int)) : (gr i a).den env = grantF ((cellsI i).map (E.den env) ++ [(x : Int), 1]) (x : Int) 1 := by
  unfold gr
  rw [appL_den, f33 hF, List.map_append]
  have hl : ((cellsI i).map (E.den env)).length = 32 := by rw [List.length_map, cellsI_length]
  have e1 : cAt ((cellsI i).map (E.den env) ++ [a, .lit 1].map (E.den env)) 32 = a.den env := rest_app hl _ 0
  have e2 : cAt ((cellsI i).map (E.den env) ++ [a, .lit 1].map (E.den env)) 33 = 1 := rest_app hl _ 1
  rw [e1, e2, ha]
  show grantF ((cellsI i).map (E.den env) ++ [a.den env, 1]) (x : Int) 1 = _
  rw [ha]

theorem t3_den (h : Nums env n B q) (g c : Nat) (p : E) : (t3 g c p).den env = env.f g [(c : Int), p.den env, (aNum n q : Int)] := by
  have ha : aE.den env = (aNum n q : Int) := h.a
  show env.f g [((c : Nat) : Int), p.den env, aE.den env] = _
  rw [ha]

theorem tt_of {e : E} {x : Int} (h : e.den env = x) (hx : x ≠ 0) : e.tt env = true := tt_true.2 (by rw [h]; exact hx)
theorem tt_no {e : E} (h : e.den env = 0) : e.tt env = false := tt_false.2 h
theorem eqU_tt {a b : E} (h : a.den env = b.den env) : (eqU a b).tt env = true := by
  unfold eqU; rw [eq_tt, h]; simp

theorem known0 (h : Nums env n B q) (hv : env.v 1 = (n : Int)) {i : Nat} (hi : i < 16) : KnownOk env (kn0 i) := by
  have hF := h.hF
  have hn := h.le
  have hgl := h.gLt
  have hp0 := Nat.two_pow_pos n
  have e1 : 2 ^ (n + 1) = 2 ^ n * 2 := Nat.pow_succ ..
  have e3 : 2 ^ (n + 3) = 2 ^ n * 8 := Nat.pow_add ..
  have v1 : (E.var 1).den env = (n : Int) := hv
  obtain ⟨k1, k2, k3⟩ := nap h 0
  have dlo : loE.den env = ((q * 2 ^ (n + 1) * 4 : Nat) : Int) := by unfold loE; rw [t3_den h, f23 hF]; exact k2
  have dhi : hiE.den env = ((q * 2 ^ (n + 1) * 4 + (2 ^ (n + 3) - 1) : Nat) : Int) := by unfold hiE; rw [t3_den h, f24 hF]; exact k3
  have dsz : sE.den env = ((2 ^ (n + 3) - 1 : Nat) : Int) := by
    show binDen .sub .u64 (binDen .shl .u64 ((8 : Nat) : Int) (nn.den env)) ((1 : Nat) : Int) = _
    rw [h.dn, shlN (by omega), Nat.mod_eq_of_lt (by omega), subN (by omega) (by omega)]
    congr 1; omega
  have ha : aE.den env = (aNum n q : Int) := h.a
  have haL := h.aLt
  have d17f : (t3 23 17 (.lit 0)).den env = ((aNum n q * 4 : Nat) : Int) := by
    rw [t3_den h, f23 hF]
    show fromF 17 0 (aNum n q : Int) = _
    rw [fromF_G, k17]
    show binDen .shl .u64 (aNum n q : Int) 2 = _
    rw [shl2_nat (by omega)]
  have d17t : (t3 24 17 (.lit 0)).den env = ((aNum n q * 4 + 3 : Nat) : Int) := by
    rw [t3_den h, f24 hF]
    show toF 17 0 (aNum n q : Int) = _
    rw [toF_G, k17]
    show binDen .add .u64 (binDen .shl .u64 (aNum n q : Int) 2) ((3 : Nat) : Int) = _
    rw [shl2_nat (by omega), add_nat (by omega)]
  intro p hp
  simp only [kn0, List.mem_cons, List.not_mem_nil, or_false] at hp
  rcases hp with rfl | rfl | rfl | rfl | rfl | rfl | rfl | rfl | rfl | rfl | rfl | rfl | rfl | rfl
  · show (ltE (.var 1) (.lit 0)).tt env = false
    rw [ltE_tt, v1, den_lit]; exact decide_eq_false (by omega)
  · show (ltE (.lit 53) (.var 1)).tt env = false
    rw [ltE_tt, v1, den_lit]; exact decide_eq_false (by omega)
  · show (ltE nn (.lit 0)).tt env = false
    rw [ltE_tt, h.dn, den_lit]; exact decide_eq_false (by omega)
  · show (ltE n1 (.lit 0)).tt env = false
    rw [ltE_tt, h.dn1, den_lit]; exact decide_eq_false (by omega)
  · refine tt_of (x := 1) ?_ (by decide)
    rw [t3_den h, f25 hF]; exact k1
  · exact eqU_tt (by rw [dlo, h.f])
  · refine eqU_tt ?_
    show binDen .sub .u64 (hiE.den env) (loE.den env) = _
    rw [dlo, dhi, subN (by omega) (by omega), dsz]
    congr 1; omega
  · refine tt_of (x := 1) ?_ (by decide)
    rw [gr_den hF i _ dhi, grantI h hi _ (by omega), if_pos ⟨by omega, by omega⟩]
  · refine tt_of (x := 1) ?_ (by decide)
    rw [gr_den hF i _ dlo, grantI h hi _ (by omega), if_pos ⟨by omega, by omega⟩]
  · refine tt_no ?_
    by_cases h0 : q * 2 ^ (n + 1) * 4 = 0
    · have d : (E.bin .sub .u64 loE (.lit 1)).den env = ((18446744073709551615 : Nat) : Int) := by
        show binDen .sub .u64 (loE.den env) 1 = _
        rw [dlo, h0]; rfl
      rw [gr_den hF i _ d, grantI h hi _ (by decide), if_neg (fun hh => by omega)]
    · have d : (E.bin .sub .u64 loE (.lit 1)).den env = ((q * 2 ^ (n + 1) * 4 - 1 : Nat) : Int) := by
        show binDen .sub .u64 (loE.den env) ((1 : Nat) : Int) = _
        rw [dlo, subN (by omega) (by omega)]
      rw [gr_den hF i _ d, grantI h hi _ (by omega), if_neg (fun hh => by omega)]
  · refine tt_no ?_
    have d : (E.bin .add .u64 hiE (.lit 1)).den env = ((q * 2 ^ (n + 1) * 4 + (2 ^ (n + 3) - 1) + 1 : Nat) : Int) := by
      show binDen .add .u64 (hiE.den env) ((1 : Nat) : Int) = _
      rw [dhi, add_nat (by omega)]
    rw [gr_den hF i _ d, grantI h hi _ (by omega), if_neg (fun hh => by omega)]
  · refine tt_of (x := 1) ?_ (by decide)
    rw [t3_den h, f25 hF]
    show okF 17 0 (aNum n q : Int) = 1
    rw [okF_G, k17]; rfl
  · refine eqU_tt ?_
    show _ = binDen .shl .u64 (aE.den env) 2
    rw [d17f, ha, shl2_nat (by omega)]
  · refine eqU_tt ?_
    show _ = binDen .add .u64 ((t3 23 17 (.lit 0)).den env) ((3 : Nat) : Int)
    rw [d17t, d17f, add_nat (by omega)]

theorem known (h : Nums env n B q) (hv : env.v 1 = (n : Int)) {i : Nat} (hi : i < 16) {P : Nat} (hP : P < 2 ^ 54) (dp : (pI i).den env = (P : Int)) (df : (frI i).den env = ((P * 4 : Nat) : Int)) (dt : (tT i).tt env = decide (P < aNum n q)) :
    KnownOk env (kn i ((tT i).tt env)) := by
  have hF := h.hF
  have haL := h.aLt
  have ha : aE.den env = (aNum n q : Int) := h.a
  have lss : binDen .lss .u64 (P : Int) (aNum n q : Int) = b2i (decide (P < aNum n q)) := by
    show b2i (decide ((P : Int) < (aNum n q : Int))) = _
    congr 2; rw [eq_iff_iff]; omega
  have d25 : (t3 25 9 (pI i)).den env = b2i (decide (P < aNum n q)) := by
    rw [t3_den h, f25 hF]
    show okF 9 ((pI i).den env) (aNum n q : Int) = _
    rw [okF_G, k9, dp]; exact lss
  have d23 : (t3 23 9 (pI i)).den env = if P < aNum n q then ((P * 4 : Nat) : Int) else 0 := by
    rw [t3_den h, f23 hF]
    show fromF 9 ((pI i).den env) (aNum n q : Int) = _
    rw [fromF_G, k9, dp]
    show (if binDen .lss .u64 (P : Int) (aNum n q : Int) ≠ 0 then binDen .shl .u64 (P : Int) 2 else 0) = _
    rw [lss, shl2_nat (by omega)]
    by_cases hlt : P < aNum n q <;> simp [hlt, b2i]
  have d24 : (t3 24 9 (pI i)).den env = if P < aNum n q then binDen .sub .u64 (a4.den env) 1 else 0 := by
    rw [t3_den h, f24 hF]
    show toF 9 ((pI i).den env) (aNum n q : Int) = _
    rw [toF_G, k9, dp]
    show (if binDen .lss .u64 (P : Int) (aNum n q : Int) ≠ 0 then binDen .sub .u64 (binDen .shl .u64 (aNum n q : Int) 2) 1 else 0) = _
    have : a4.den env = binDen .shl .u64 (aNum n q : Int) 2 := by show binDen .shl .u64 (aE.den env) 2 = _; rw [ha]
    rw [lss, this]
    by_cases hlt : P < aNum n q <;> simp [hlt, b2i]
  intro p hp
  unfold kn at hp
  rcases List.mem_append.1 hp with hp | hp
  · exact known0 h hv hi p hp
  · by_cases hlt : P < aNum n q
    · have ht : (tT i).tt env = true := by rw [dt]; exact decide_eq_true hlt
      rw [ht, if_pos rfl] at hp
      rw [if_pos hlt] at d23 d24
      rw [decide_eq_true hlt] at d25
      simp only [List.mem_cons, List.not_mem_nil, or_false] at hp
      rcases hp with rfl | rfl | rfl | rfl
      · exact ht
      · exact tt_of d25 (by decide)
      · exact eqU_tt (by rw [d23, df])
      · exact eqU_tt (by rw [d24]; rfl)
    · have ht : (tT i).tt env = false := by rw [dt]; exact decide_eq_false hlt
      rw [ht, if_neg (by simp)] at hp
      rw [if_neg hlt] at d23 d24
      rw [decide_eq_false hlt] at d25
      simp only [List.mem_cons, List.not_mem_nil, or_false] at hp
      rcases hp with rfl | rfl | rfl | rfl
      · exact ht
      · exact tt_no d25
      · exact eqU_tt (by rw [d23]; rfl)
      · exact eqU_tt (by rw [d24]; rfl)

end

theorem kk2 : kds[2]? = some (.num (some .u64)) := by kernel_rfl
theorem kk3 : kds[3]? = some (.num (some .u64)) := by kernel_rfl

set_option maxRecDepth 100000 in
theorem cases (env : Env) (hF : EnvF Φ env) (hW : WfEnv env kds) : Case Try.prog 29 kds cs env := by
  have d0 : (E.var 0).den env = env.v 0 := rfl
  have d1 : (E.var 1).den env = env.v 1 := rfl
  by_cases i0 : env.v 0 < 0
  · exact case_lawW hF false 1000 oLo _ [] (isE2_ok rfl (by rw [ltE_tt, d0, den_lit]; exact decide_eq_true i0)) KnownOk.nil runOLo
  by_cases i15 : 15 < env.v 0
  · exact case_lawW hF false 1000 oHi _ [] (eqs_app (isE2_ok rfl (by rw [ltE_tt, d0, den_lit]; exact decide_eq_false i0)) (isE2_ok rfl (by rw [ltE_tt, d0, den_lit]; exact decide_eq_true i15))) KnownOk.nil runOHi
  by_cases n0 : env.v 1 < 0
  · exact case_lawW hF false 1000 nLo _ [] (isE2_ok rfl (by rw [ltE_tt, d1, den_lit]; exact decide_eq_true n0)) KnownOk.nil runNLo
  by_cases n53 : 53 < env.v 1
  · exact case_lawW hF false 1000 nHi _ [] (eqs_app (isE2_ok rfl (by rw [ltE_tt, d1, den_lit]; exact decide_eq_false n0)) (isE2_ok rfl (by rw [ltE_tt, d1, den_lit]; exact decide_eq_true n53))) KnownOk.nil runNHi
  obtain ⟨i, hi⟩ : ∃ i : Nat, env.v 0 = (i : Int) := ⟨(env.v 0).toNat, by omega⟩
  obtain ⟨n, hn⟩ : ∃ n : Nat, env.v 1 = (n : Int) := ⟨(env.v 1).toNat, by omega⟩
  have h2 : In64 env (.var 2) := In64.var hW kk2
  have h3 : In64 env (.var 3) := In64.var hW kk3
  have e2 : (E.var 2).den env = ((nOf env (.var 2) : Nat) : Int) := nOf_den h2
  have e3 : (E.var 3).den env = ((nOf env (.var 3) : Nat) : Int) := nOf_den h3
  have l2 := nOf_lt h2
  have l3 := nOf_lt h3
  have hN : Nums env n (nOf env (.var 2) * 2 ^ 10 % 2 ^ 64 / 2 ^ 10) (nOf env (.var 2) * 2 ^ 10 % 2 ^ 64 / 2 ^ 10 / 2 ^ (n + 1)) := by
    refine ⟨hF, by omega, ?_, ?_, ?_, by omega, rfl⟩
    · show IntKind.u64.wrap ((E.var 1).den env) = _
      rw [d1, hn, wrap_nat (by omega)]
    · show IntKind.u64.wrap (IntKind.i64.wrap ((E.var 1).den env + 1)) = _
      rw [d1, hn]
      simp only [IntKind.wrap, IntKind.signed, IntKind.bits]
      simp
      omega
    · show binDen .shr .u64 (binDen .shl .u64 ((E.var 2).den env) ((10 : Nat) : Int)) ((10 : Nat) : Int) = _
      rw [e2, shlN (by decide), shrN (by decide)]
  refine Case.fixed (.var 0) (Int.ofNat i) hi ?_
  have hr := runs i (by omega)
  simp only [runI, Bool.and_eq_true] at hr
  have hk : KnownOk env (kn i ((tT i).tt env)) := by
    by_cases h0 : i = 0
    · subst h0
      refine known hN hn (by omega) (P := 0) (by decide) rfl rfl ?_
      show (E.bin .lss .u64 (.lit 0) aE).tt env = _
      rw [lt_tt, den_lit, show aE.den env = (aNum n _ : Int) from hN.a]
      congr 1; rw [eq_iff_iff]; omega
    · have hb : Nat.beq i 0 = false := by cases i with
        | zero => exact absurd rfl h0
        | succ => rfl
      have hp : (pI i).den env = ((nOf env (.var 3) % 2 ^ 54 : Nat) : Int) := by
        unfold pI
        rw [hb]
        show binDen .and .u64 ((E.var 3).den env) ((m54.toNat : Nat) : Int) = _
        rw [e3, and_nat l3 (by decide), show m54.toNat = 2 ^ 54 - 1 from rfl, Nat.and_two_pow_sub_one_eq_mod]
      have hf : (frI i).den env = ((nOf env (.var 3) % 2 ^ 54 * 4 : Nat) : Int) := by
        unfold frI
        rw [hb]
        show binDen .shr .u64 (binDen .shl .u64 ((E.var 3).den env) ((10 : Nat) : Int)) ((8 : Nat) : Int) = _
        rw [e3, shlN (by decide), shrN (by decide)]
        congr 1; omega
      refine known hN hn (by omega) (Nat.mod_lt _ (by decide)) hp hf ?_
      have : (tT i) = .bin .lss .u64 (frI i) a4 := by unfold tT; rw [hb]; rfl
      have haL := hN.aLt
      have hp0 := Nat.two_pow_pos n
      have ha4 : a4.den env = ((aNum n (nOf env (.var 2) * 2 ^ 10 % 2 ^ 64 / 2 ^ 10 / 2 ^ (n + 1)) * 4 : Nat) : Int) := by
        show binDen .shl .u64 (aE.den env) 2 = _
        rw [show aE.den env = (aNum n _ : Int) from hN.a, shl2_nat (by omega)]
      rw [this, lt_tt, hf, ha4]
      congr 1; rw [eq_iff_iff]; omega
  cases ht : (tT i).tt env with
  | true => rw [ht] at hk; exact case_lawW hF false 1000 [] _ _ (by simp) hk hr.1
  | false => rw [ht] at hk; exact case_lawW hF false 1000 [] _ _ (by simp) hk hr.2
set_option maxRecDepth 100000 in
theorem lifted (os : Os) (started : os.Started) (H : Type) (enc : TypeId × Value → H) :
    ReturnsInHanded {} Try.checked os 29 .any (Rows.pmpShapesSpec.pre6 enc Try.prog Try.f29 Rows.pmpShapesRow.domain false) (Rows.pmpShapesSpec.post enc Try.prog Try.f29 false true false false) := by
  refine returnsInHanded_of_change (C := Try.checked) own started (by kernel_rfl) Try.func29
    (ChangeSpec.witness6 (enc := enc) (C := Try.checked) false ⟨#[], #[.int .i64 0, .int .i64 0, .int .u64 0, .int .u64 0], []⟩ 8 (by kernel_rfl) (by kernel_rfl) (by kernel_rfl) (by kernel_rfl)) ?_
  intro W base args ds gs before hval0 hW hcnd _
  have hval : ∀ (j : Nat) t v, Try.f29.params[j]? = some t → args[j]? = some v → Value.okWide Try.prog W .any base t v := hval0
  have hW' := hW
  obtain ⟨p, q, hA0, hV, rfl, hfz, hnd⟩ := hW
  have hA : DataW.TrodAll enc Try.prog W 0 (fun _ => true) true [3, 3, 23, 23] args.toList ds p := hA0
  obtain ⟨rfl, rfl⟩ := trodVars_none hV
  have hA1 := hA
  obtain ⟨v0, vs0, d0, ds0, p0, q0, hargs0, rfl, hp0, _, r0⟩ := trodAll_cons hA1
  obtain ⟨v1, vs1, d1, ds1, p1, q1, hargs1, rfl, hp1, _, r1⟩ := trodAll_cons r0
  obtain ⟨v2, vs2, d2, ds2, p2, q2, hargs2, rfl, hp2, _, r2⟩ := trodAll_cons r1
  obtain ⟨v3, vs3, d3, ds3, p3, q3, hargs3, rfl, hp3, _, r3⟩ := trodAll_cons r2
  obtain ⟨_, rfl, _⟩ := trodAll_nil r3
  simp only [List.append_nil] at hW'
  refine (law_calls Φ hA (fun j t v ht hv => hval j t v (by simpa using ht) hv) hargs (by decide) cases).mono fun e W' ⟨he, bel⟩ => ?_
  subst he
  exact ⟨_, rfl, _, _, _, [], _, [], hW', trodAll_mk1 (shut_bool Try.underlying4 _), trodAll_stays laidOut bel _ _ _ _ (by kernel_rfl) hA, rfl, bel.frame _, fun h => by cases h⟩

theorem c1 : Try.pinned.checked.prog.funcNamed Rows.pmpShapesRow.func = some 29 := by kernel_rfl
theorem c2 : joinedFacts Try.pinned.checked.prog 29 Try.f29 Rows.pmpShapesSpec Rows.pmpShapesRow = true := joined_mk rfl rfl (by kernel_rfl)
theorem c3 : Try.f29.isInstance Try.pinned.checked.prog Rows.pmpShapesRow.origin Rows.pmpShapesRow.targs := of_decide_eq_true (by kernel_rfl)
theorem c4 : Try.f29.isWrapper Try.pinned.checked.prog Rows.pmpShapesRow.wrapper Rows.pmpShapesRow.mainSum := by unfold Func.isWrapper; first | (rw [if_pos (by decide +kernel)]; kernel_rfl) | (rw [if_neg (by decide +kernel)]; exact ⟨rfl, rfl⟩)
theorem holds : Rows.PmpShapesSaid :=
  OpenClaim.holds_of_wide 29 Try.f29 rfl rfl rfl rfl rfl rfl rfl ⟨rfl, rfl, rfl, rfl, rfl⟩ rfl rfl rfl rfl rfl c1 Try.func29 c2 c3 c4
    (fun os started H enc _ => lifted os started H enc)
end PmpShapes
#print axioms PmpShapes.holds
end Go.Proofs.Ytibfaifjnifgjaa
