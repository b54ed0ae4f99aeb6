/-
  In U: what is known of reading a CSR by its number. No condition.
-/
import Derived.Test.YtibfaifjnifgjaaCsrSum
namespace Go.Proofs.Ytibfaifjnifgjaa
open Go.Sx Go.RowKit

noncomputable def psE : List E := opsE nrmG cpuOs (vars 82 0)
noncomputable def f200E (m n : E) : E := .app 200 (lE (m :: n :: .var 84 :: .var 85 :: takeL (dropL psE 35) 44))
noncomputable def f201E (n : E) : E := .app 201 (lE [.lit 0, n, elE psE 38])
def liveQ : List (E × E) := [(.app 204 (.cons (.lit 3) (.cons (.lit 832) .nil)), .lit 1), (.app 251 (.cons (.lit 3) (.cons (.lit 832) (.cons (.lit 0) (.cons (.lit 77) .nil)))), .lit 77)]
noncomputable def bitE (k : Int) : E := .bin .eql .u64 (.bin .and .u64 (.bin .shr .u64 (elE psE 38) (.lit (k - 3072))) (.lit 1)) (.lit 1)
noncomputable def userA (k : Int) (b : Bool) : List (E × E) :=
  (f201E (.lit k), .lit (b2i b)) :: (f200E (.lit 0) (.lit k), if b then toldE (dropL psE 35) (.var 84) (.var 85) k else .lit 0) :: (.app 203 (lE [.lit k]), .lit 1) :: (isE2 (bitE k) b ++ liveQ)
def nV : E := .var 82
def sideQ (lo : Bool) : List (E × E) := if lo then isE2 (.bin .lss .i64 nV (.lit 3072)) true else isE2 (.bin .lss .i64 nV (.lit 3072)) false ++ isE2 (.bin .lss .i64 (.lit 3074) nV) true
noncomputable def userB (ex lo : Bool) : List (E × E) :=
  (f201E nV, .lit 0) :: (f200E (.lit 0) nV, .lit 0) :: (.app 203 (lE [nV]), .lit (b2i ex)) :: ((if ex then [] else [(f200E (.lit 3) nV, .lit 0)]) ++ (sideQ lo ++ liveQ))

theorem ps_den0 {env : Env} (hF : EnvF Phi env) : psE.map (E.den env) = properS env := by
  unfold psE
  rw [opsE_den hF nrmG_den, vars_range]
  unfold properS cpuV
  simp

theorem f200E_den {env : Env} (hF : EnvF Phi env) (m n : E) : (f200E m n).den env = readF (m.den env) (n.den env) (env.v 84) (env.v 85) ((properS env).drop 35) := by
  unfold f200E
  rw [app_den, f200 hF]
  show readF (m.den env) (n.den env) (env.v 84) (env.v 85) ((takeL (dropL psE 35) 44).map (E.den env)) = _
  rw [takeL_eq, dropL_eq, List.map_take, List.map_drop, ps_den0 hF]
  unfold readF
  rw [cAt_take (by decide), toldF_take]

theorem d38 (L : List Int) : cAt (L.drop 35) 3 = cAt L 38 := by unfold cAt; rw [List.getElem?_drop]

theorem f201E_den {env : Env} (hF : EnvF Phi env) (n : E) : (f201E n).den env = b2i (readOk 0 (n.den env) (cAt (properS env) 38)) := by
  unfold f201E
  rw [app_den, f201 hF]
  simp only [List.map_cons, List.map_nil, elE_den, ps_den0 hF]
  rfl

theorem liveQ_ok {env : Env} (hF : EnvF Phi env) : ∀ p ∈ liveQ, p.1.den env = p.2.den env := by
  intro p hp
  simp only [liveQ, List.mem_cons, List.not_mem_nil, or_false] at hp
  rcases hp with rfl | rfl
  · show env.f 204 [3, 832] = 1
    rw [f204 hF]; decide +kernel
  · show env.f (210 + 41) [3, 832, 0, 77] = 77
    rw [fW hF _ (by decide)]; decide +kernel

theorem at38 (env : Env) : cAt (properS env) 38 = binDen .and .u64 (env.v 38) 7 := cAt_of (proper_at (o := .on 7) env rfl)

theorem bits_all : (List.range 8).all (fun q => (List.range 32).all fun k => decide (k < 3) || decide (binDen .and .u64 (binDen .shr .u64 (q : Int) (k : Int)) 1 = 0)) = true := by decide +kernel
theorem bit01_all : (List.range 8).all (fun q => (List.range 3).all fun k => decide (binDen .and .u64 (binDen .shr .u64 (q : Int) (k : Int)) 1 = 0) || decide (binDen .and .u64 (binDen .shr .u64 (q : Int) (k : Int)) 1 = 1)) = true := by decide +kernel

theorem and7 (x : Int) : ∃ q : Nat, q < 8 ∧ binDen .and .u64 x 7 = (q : Int) := by
  rw [and_u64]
  refine ⟨_, ?_, rfl⟩
  have : (BitVec.ofInt 64 x &&& BitVec.ofInt 64 7).toNat ≤ 7 := by rw [BitVec.toNat_and]; exact Nat.and_le_right
  omega

/-- In U only the three counters are read. -/
theorem readOk_three {n x : Int} (h : ¬ (0xc00 ≤ n ∧ n ≤ 0xc02)) : readOk 0 n (binDen .and .u64 x 7) = false := by
  rw [readOk_u]
  cases hi : inF n 0xc00 0xc1f with
  | false => simp
  | true =>
    simp only [inF, Bool.and_eq_true, decide_eq_true_eq] at hi
    obtain ⟨q, hq, he⟩ := and7 x
    obtain ⟨k, hk⟩ : ∃ k : Nat, n - 0xc00 = (k : Int) := ⟨(n - 0xc00).toNat, by omega⟩
    have h1 := List.all_eq_true.1 (List.all_eq_true.1 bits_all q (by simpa using hq)) k (by simp; omega)
    rw [he, hk]
    simp only [Bool.or_eq_true, decide_eq_true_eq] at h1
    rcases h1 with h1 | h1
    · omega
    · simp [h1]

theorem user_b {env : Env} (hF : EnvF Phi env) (h : ¬ (0xc00 ≤ env.v 82 ∧ env.v 82 ≤ 0xc02)) : ∀ p ∈ userB (existsF (env.v 82)) (decide (env.v 82 < 3072)), p.1.den env = p.2.den env := by
  have hno := readOk_three (x := env.v 38) h
  have h0 : readF 0 (env.v 82) (env.v 84) (env.v 85) ((properS env).drop 35) = 0 := by
    unfold readF; rw [d38, at38, hno]; rfl
  have e0 : (f200E (.lit 0) nV).den env = 0 := by rw [f200E_den hF]; exact h0
  have e3 : existsF (env.v 82) = false → (f200E (.lit 3) nV).den env = 0 := fun hx => by
    rw [f200E_den hF]
    show readF 3 (env.v 82) _ _ _ = 0
    unfold readF; rw [readOk_m, hx]; rfl
  intro p hp
  unfold userB at hp
  rcases List.mem_cons.1 hp with rfl | hp
  · rw [f201E_den hF, at38]
    show b2i (readOk 0 (env.v 82) _) = 0
    rw [hno]; rfl
  rcases List.mem_cons.1 hp with rfl | hp
  · exact e0
  rcases List.mem_cons.1 hp with rfl | hp
  · show env.f 203 [env.v 82] = _
    rw [f203 hF]; rfl
  rcases List.mem_append.1 hp with hp | hp
  · cases hx : existsF (env.v 82) with
    | true => rw [hx] at hp; cases hp
    | false =>
      rw [hx] at hp
      simp only [Bool.false_eq_true, if_false, List.mem_singleton] at hp
      subst hp
      exact e3 hx
  rcases List.mem_append.1 hp with hp | hp
  · have lt : ∀ a b : E, (E.bin .lss .i64 a b).tt env = decide (a.den env < b.den env) := fun a b => b2i_dec _
    by_cases hlo : env.v 82 < 3072
    · rw [decide_eq_true hlo] at hp
      exact isE2_ok rfl (by rw [lt]; exact decide_eq_true hlo) p hp
    · rw [decide_eq_false hlo] at hp
      unfold sideQ at hp
      simp only [Bool.false_eq_true, if_false] at hp
      exact isE2_app (isE2_ok rfl (by rw [lt]; exact decide_eq_false hlo)) (isE2_ok rfl (by rw [lt]; exact decide_eq_true (by show (3074 : Int) < env.v 82; omega))) p hp
  · exact liveQ_ok hF p hp

theorem user_a {env : Env} (hF : EnvF Phi env) {k : Int} (hk : k = 0xc00 ∨ k = 0xc01 ∨ k = 0xc02) : ∀ p ∈ userA k (readOk 0 k (cAt (properS env) 38)), p.1.den env = p.2.den env := by
  have hx : existsF k = true := by rcases hk with rfl | rfl | rfl <;> decide +kernel
  have hi : inF k 0xc00 0xc1f = true := by rcases hk with rfl | rfl | rfl <;> decide +kernel
  intro p hp
  unfold userA at hp
  rcases List.mem_cons.1 hp with rfl | hp
  · exact f201E_den hF _
  rcases List.mem_cons.1 hp with rfl | hp
  · show (f200E (.lit 0) (.lit k)).den env = _
    rw [f200E_den hF]
    simp only [den_lit]
    unfold readF
    rw [d38]
    cases readOk 0 k (cAt (properS env) 38) with
    | true =>
      simp only [if_true]
      rw [toldE_den, dropL_eq, List.map_drop, ps_den0 hF]; rfl
    | false => rfl
  rcases List.mem_cons.1 hp with rfl | hp
  · show env.f 203 [k] = 1
    rw [f203 hF]
    show b2i (existsF k) = 1
    rw [hx]; rfl
  rcases List.mem_append.1 hp with hp | hp
  · refine isE2_ok rfl ?_ p hp
    have hb : (bitE k).tt env = decide (binDen .and .u64 (binDen .shr .u64 (cAt (properS env) 38) (k - 3072)) 1 = 1) := by
      unfold bitE
      show decide (b2i (binDen .and .u64 (binDen .shr .u64 ((elE psE 38).den env) (k - 3072)) 1 == 1) ≠ 0) = _
      rw [elE_den, ps_den0 hF]
      exact b2i_eq _ _
    rw [hb, readOk_u, hx, hi, at38]
    obtain ⟨q, hq, he⟩ := and7 (env.v 38)
    obtain ⟨j, hj, hkj⟩ : ∃ j : Nat, j < 3 ∧ k - 3072 = (j : Int) := by
      rcases hk with rfl | rfl | rfl
      · exact ⟨0, by decide, rfl⟩
      · exact ⟨1, by decide, rfl⟩
      · exact ⟨2, by decide, rfl⟩
    have h1 := List.all_eq_true.1 (List.all_eq_true.1 bit01_all q (by simpa using hq)) j (by simpa using hj)
    rw [he, hkj]
    simp only [Bool.or_eq_true, decide_eq_true_eq] at h1
    rcases h1 with h1 | h1 <;> simp [h1]
  · exact liveQ_ok hF p hp

end Go.Proofs.Ytibfaifjnifgjaa
