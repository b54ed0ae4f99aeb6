/-
  A CSR that is written, read and written again: what is known by its number. No condition.
-/
import Derived.Test.YtibfaifjnifgjaaCsrUserQ
namespace Go.Proofs.Ytibfaifjnifgjaa
open Go.Sx Go.RowKit

/-! ### Cells behind a write -/

theorem wGoS_at {m n v : Int} {cf : List Int} : ∀ (os : List Fo) (xs : List Int) (j i : Nat) (o : Fo) (x : Int), os[i]? = some o → xs[i]? = some x →
    (wGoS m n v cf j os xs)[i]? = some (o.sem (wF (j + i) [m, n, x, v, cAt cf (j + i - 63), cAt cf (j + i - 62)])) := by
  intro os
  induction os with
  | nil => intro xs j i o x h; simp at h
  | cons o os ih =>
    intro xs j i o' x ho hx
    cases xs with
    | nil => simp at hx
    | cons y ys =>
      show (o.sem (wF j [m, n, y, v, cAt cf (j - 63), cAt cf (j - 62)]) :: wGoS m n v cf (j + 1) os ys)[i]? = _
      cases i with
      | zero => simp at ho hx ⊢; rw [ho, hx]
      | succ i =>
        simp only [List.getElem?_cons_succ] at ho hx ⊢
        rw [ih ys (j + 1) i o' x ho hx, show j + 1 + i = j + (i + 1) by omega]

/-- The entries' bytes, as a write sees them. -/
def cfOf (L : List Int) : List Int := (L.drop 47).take 16

theorem writeS_at {L : List Int} (hl : L.length = 82) {n v : Int} {i : Nat} {o : Fo} (hi : i < 44) (ho : cpuOs[35 + i]? = some o) :
    cAt (writeS L n v) (35 + i) = o.sem (wF (35 + i) [cAt L 33, n, cAt L (35 + i), v, cAt (cfOf L) (35 + i - 63), cAt (cfOf L) (35 + i - 62)]) := by
  refine cAt_of ?_
  unfold writeS
  rw [List.getElem?_append_right (by rw [List.length_take, hl]; omega), List.length_take, hl]
  have e : 35 + i - min 35 82 = i := by omega
  rw [e]
  have hx : (L.drop 35)[i]? = some (cAt L (35 + i)) := by
    rw [List.getElem?_drop]
    unfold cAt
    rw [List.getElem?_eq_getElem (by omega)]; rfl
  rw [wGoS_at _ _ 35 i o (cAt L (35 + i)) (by rw [List.getElem?_drop]; exact ho) hx]
  rfl

theorem wGoS_len {m n v : Int} {cf : List Int} : ∀ (os : List Fo) (xs : List Int) (j : Nat), (wGoS m n v cf j os xs).length = xs.length := by
  intro os
  induction os with
  | nil => intro xs j; rfl
  | cons o os ih =>
    intro xs j
    cases xs with
    | nil => rfl
    | cons x xs => show (wGoS m n v cf (j + 1) os xs).length + 1 = _; rw [ih]; rfl

theorem writeS_len {L : List Int} (hl : L.length = 82) (n v : Int) : (writeS L n v).length = 82 := by
  unfold writeS
  rw [List.length_append, wGoS_len, List.length_take, List.length_drop, hl]
  rfl

theorem writeS_33 {L : List Int} (hl : L.length = 82) (n v : Int) : cAt (writeS L n v) 33 = cAt L 33 := by
  unfold writeS cAt
  rw [List.getElem?_append_left (by rw [List.length_take, hl]; decide), List.getElem?_take_of_lt (by decide)]

theorem os_some {i : Nat} (hi : i < 44) : ∃ o, cpuOs[35 + i]? = some o := ⟨_, List.getElem?_eq_getElem (by rw [cpu_len]; omega)⟩

/-- A cell whose number is another one stays. -/
theorem writeS_other {L : List Int} (hl : L.length = 82) (hL : ProperL L) {n v : Int} {i : Nat} (hi : i < 44) (hn : n ≠ numOf (35 + i)) : cAt (writeS L n v) (35 + i) = cAt L (35 + i) := by
  obtain ⟨o, ho⟩ := os_some hi
  rw [writeS_at hl hi ho, wF_not (fun h => hn h.2)]
  refine hL (35 + i) o _ ho ?_
  unfold cAt
  rw [List.getElem?_eq_getElem (by omega)]; rfl

theorem writeS_proper {L : List Int} (hl : L.length = 82) (n v : Int) {i : Nat} (hi : i < 44) {o : Fo} (ho : cpuOs[35 + i]? = some o) : o.sem (cAt (writeS L n v) (35 + i)) = cAt (writeS L n v) (35 + i) := by
  rw [writeS_at hl hi ho, sem_twice]

theorem drop_at (L : List Int) (i : Nat) : cAt (L.drop 35) i = cAt L (35 + i) := by unfold cAt; rw [List.getElem?_drop]

/-! ### What other numbers tell -/

theorem cfgV_eq {l l' : List Int} {o : Nat} : ∀ k, (∀ i, o ≤ i → i < o + k → cAt l i = cAt l' i) → cfgV l o k = cfgV l' o k := by
  intro k
  induction k with
  | zero => intro _; rfl
  | succ k ih =>
    intro h
    show binDen .or .u64 (cfgV l o k) (binDen .shl .u64 (IntKind.u64.wrap (cAt l (o + k))) _) = _
    rw [ih (fun i h1 h2 => h i h1 (by omega)), h (o + k) (by omega) (by omega)]; rfl

theorem num_a0 : (List.range 8).all (fun i => decide (numOf (35 + (12 + i)) = 0x3a0) && decide (numOf (35 + (20 + i)) = 0x3a2)) = true := by decide +kernel
theorem idx_num {x : Int} (h : numL.idxOf x < 44) : numOf (35 + numL.idxOf x) = x := by
  unfold numOf
  rw [Nat.add_sub_cancel_left, List.getElem?_eq_getElem (by rw [num_len]; exact h), List.getElem_idxOf]
  rfl

theorem told_same {L L' : List Int} {n k mip time : Int} (h : ∀ i, i < 44 → k ≠ numOf (35 + i) → cAt L (35 + i) = cAt L' (35 + i)) (h1 : n ≠ k) (h2 : sameN n ≠ k) : toldF (L.drop 35) mip time n = toldF (L'.drop 35) mip time n := by
  unfold toldF
  split
  · rfl
  split
  · rfl
  split
  · rfl
  split
  · rfl
  split
  · rename_i hn
    refine cfgV_eq 8 (fun i hi hi' => ?_)
    rw [drop_at, drop_at]
    refine h i (by omega) ?_
    have := List.all_eq_true.1 num_a0 (i - 12) (by simp; omega)
    simp only [Bool.and_eq_true, decide_eq_true_eq] at this
    rw [show 12 + (i - 12) = i by omega] at this
    rw [this.1, ← hn]; exact fun e => h1 e.symm
  split
  · rename_i hn
    refine cfgV_eq 8 (fun i hi hi' => ?_)
    rw [drop_at, drop_at]
    refine h i (by omega) ?_
    have := List.all_eq_true.1 num_a0 (i - 20) (by simp; omega)
    simp only [Bool.and_eq_true, decide_eq_true_eq] at this
    rw [show 20 + (i - 20) = i by omega] at this
    rw [this.2, ← hn]; exact fun e => h1 e.symm
  split
  · rename_i hi
    rw [drop_at, drop_at]
    refine h _ hi ?_
    rw [idx_num hi]; exact fun e => h2 e.symm
  · rfl

/-! ### What is read, written again -/

theorem num_told : (List.range 44).all (fun i => (decide (12 ≤ i) && decide (i < 28)) || (decide (numOf (35 + i) ≠ 0xf13) && (decide (numOf (35 + i) ≠ 0x301) && (decide (numOf (35 + i) ≠ 0x344) && (decide (numOf (35 + i) ≠ 0xc01) &&
    (decide (numOf (35 + i) ≠ 0x3a0) && (decide (numOf (35 + i) ≠ 0x3a2) && decide (numL.idxOf (sameN (numOf (35 + i))) = i)))))))) = true := by decide +kernel

theorem told_num {l : List Int} {mip time : Int} {i : Nat} (hi : i < 44) (hne : ¬ (12 ≤ i ∧ i < 28)) : toldF l mip time (numOf (35 + i)) = cAt l i := by
  have h := List.all_eq_true.1 num_told i (by simpa using hi)
  simp only [Bool.or_eq_true, Bool.and_eq_true, decide_eq_true_eq] at h
  rcases h with h | ⟨h1, h2, h3, h4, h5, h6, h7⟩
  · exact absurd h hne
  · unfold toldF
    rw [if_neg h1, if_neg h2, if_neg h3, if_neg h4, if_neg h5, if_neg h6, h7, if_pos hi]

theorem mpp_self {d : Int} (h : InK .u64 d) : mppF d d = d := by
  unfold mppF
  split
  · rw [andNot_u64, and_u64]
    have e : ∀ x y : BitVec 64, binDen .or .u64 (x.toNat : Int) (y.toNat : Int) = ((x ||| y).toNat : Int) := fun x y => by
      show IntKind.u64.wrap (BitVec.ofInt 64 (x.toNat : Int) ||| BitVec.ofInt 64 (y.toNat : Int)).toNat = _
      rw [ofInt_toNat, ofInt_toNat, wrap_nat (x ||| y).isLt]
    rw [e]
    have e2 : (BitVec.ofInt 64 d &&& ~~~BitVec.ofInt 64 6144) ||| (BitVec.ofInt 64 d &&& BitVec.ofInt 64 6144) = BitVec.ofInt 64 d := by
      rw [← BitVec.and_or_distrib_left]
      have : ~~~BitVec.ofInt 64 6144 ||| BitVec.ofInt 64 6144 = BitVec.allOnes 64 := by decide
      rw [this, BitVec.and_allOnes]
    rw [e2, BitVec.toNat_ofInt]
    have h0 := h.1
    have h1 := h.2
    simp [IntKind.min, IntKind.max, IntKind.signed, IntKind.bits] at h0 h1
    omega
  · rfl

theorem stat_in : statVals.all (fun x => inKb .u64 x) = true := by decide +kernel
theorem stat_u64 (x : Int) : InK .u64 (Go.Sx.stat x) := inKb_iff.1 (List.all_eq_true.1 stat_in _ (stat_vals x))

/-- Eight bytes in a register. -/
theorem cfgV_sum {l : List Int} {o : Nat} {b : Nat → Nat} (hb : ∀ k, k < 8 → cAt l (o + k) = (b k : Int) ∧ b k < 256) :
    cfgV l o 8 = ((b 0 + b 1 * 2 ^ 8 + b 2 * 2 ^ 16 + b 3 * 2 ^ 24 + b 4 * 2 ^ 32 + b 5 * 2 ^ 40 + b 6 * 2 ^ 48 + b 7 * 2 ^ 56 : Nat) : Int) := by
  have w : ∀ k, k < 8 → IntKind.u64.wrap (cAt l (o + k)) = (b k : Int) := fun k hk => by
    obtain ⟨h1, h2⟩ := hb k hk
    rw [h1]; exact wrap_nat (by omega)
  have l0 := (hb 0 (by decide)).2
  have l1 := (hb 1 (by decide)).2
  have l2 := (hb 2 (by decide)).2
  have l3 := (hb 3 (by decide)).2
  have l4 := (hb 4 (by decide)).2
  have l5 := (hb 5 (by decide)).2
  have l6 := (hb 6 (by decide)).2
  have l7 := (hb 7 (by decide)).2
  simp only [cfgV]
  rw [w 0 (by decide), w 1 (by decide), w 2 (by decide), w 3 (by decide), w 4 (by decide), w 5 (by decide), w 6 (by decide), w 7 (by decide)]
  rw [show (0 : Int) = ((0 : Nat) : Int) from rfl, or_step (k := 0) (by omega) l0 (by decide), or_step (k := 1) (by omega) l1 (by decide), or_step (k := 2) (by omega) l2 (by decide), or_step (k := 3) (by omega) l3 (by decide),
    or_step (k := 4) (by omega) l4 (by decide), or_step (k := 5) (by omega) l5 (by decide), or_step (k := 6) (by omega) l6 (by decide), or_step (k := 7) (by omega) l7 (by decide)]
  congr 1; omega

theorem sum_byte (b : Nat → Nat) (hb : ∀ k, k < 8 → b k < 256) {k : Nat} (hk : k < 8) : (b 0 + b 1 * 2 ^ 8 + b 2 * 2 ^ 16 + b 3 * 2 ^ 24 + b 4 * 2 ^ 32 + b 5 * 2 ^ 40 + b 6 * 2 ^ 48 + b 7 * 2 ^ 56) / 2 ^ (8 * k) % 256 = b k := by
  have l0 := hb 0 (by decide)
  have l1 := hb 1 (by decide)
  have l2 := hb 2 (by decide)
  have l3 := hb 3 (by decide)
  have l4 := hb 4 (by decide)
  have l5 := hb 5 (by decide)
  have l6 := hb 6 (by decide)
  have l7 := hb 7 (by decide)
  have hk' : k = 0 ∨ k = 1 ∨ k = 2 ∨ k = 3 ∨ k = 4 ∨ k = 5 ∨ k = 6 ∨ k = 7 := by omega
  rcases hk' with rfl | rfl | rfl | rfl | rfl | rfl | rfl | rfl <;> omega

/-- One of them out of it. -/
theorem cfgV_byte {l : List Int} {o : Nat} (hb : ∀ k, k < 8 → ∃ b : Nat, cAt l (o + k) = (b : Int) ∧ b < 256) {k : Nat} (hk : k < 8) : IntKind.u8.wrap (binDen .shr .u64 (cfgV l o 8) ((8 * k : Nat) : Int)) = cAt l (o + k) := by
  have hB : ∀ k, k < 8 → cAt l (o + k) = (((cAt l (o + k)).toNat : Nat) : Int) ∧ (cAt l (o + k)).toNat < 256 := fun k hk => by
    obtain ⟨b, h1, h2⟩ := hb k hk
    rw [h1]; exact ⟨by simp, by simpa using h2⟩
  obtain ⟨b, hbd⟩ : ∃ b : Nat → Nat, ∀ k, b k = (cAt l (o + k)).toNat := ⟨_, fun _ => rfl⟩
  have hB' : ∀ k, k < 8 → cAt l (o + k) = (b k : Int) ∧ b k < 256 := fun k hk => by rw [hbd]; exact hB k hk
  have hw : ∀ x : Nat, IntKind.u8.wrap (x : Int) = ((x % 256 : Nat) : Int) := fun x => by
    simp only [IntKind.wrap, IntKind.signed, IntKind.bits]
    simp
  rw [cfgV_sum hB', shr_nat (by omega), (hB' k hk).1, hw, Nat.shiftRight_eq_div_pow, sum_byte b (fun k hk => (hB' k hk).2) hk]

/-- Behind a write, what is told, written once more, is what is there. -/
theorem again_same {D : List Int} (hfix : ∀ (i : Nat) (o : Fo), i < 44 → cpuOs[35 + i]? = some o → o.sem (cAt D (35 + i)) = cAt D (35 + i)) (mip time : Int) {i : Nat} (hi : i < 44) (c d : Int) :
    newF (35 + i) (cAt D (35 + i)) (toldF (D.drop 35) mip time (numOf (35 + i))) c d = cAt D (35 + i) := by
  have hbyte : ∀ q, 12 ≤ q → q < 28 → ∃ b : Nat, cAt D (35 + q) = (b : Int) ∧ b < 256 := fun q h1 h2 => by
    have := hfix q .byte (by omega) (os_byte (by omega) (by omega))
    obtain ⟨r1, r2⟩ := byteF_range (cAt D (35 + q))
    have this : byteF (cAt D (35 + q)) = cAt D (35 + q) := this
    rw [this] at r1 r2
    exact ⟨(cAt D (35 + q)).toNat, by omega, by omega⟩
  unfold newF
  by_cases h0 : i = 0
  · subst h0
    rw [if_pos rfl, told_num hi (by omega), drop_at]
    have h := hfix 0 .stat (by decide) rfl
    have h : Go.Sx.stat (cAt D (35 + 0)) = cAt D (35 + 0) := h
    refine mpp_self ?_
    rw [← h]; exact stat_u64 _
  · rw [if_neg (by omega)]
    by_cases h1 : 35 + i < 47
    · rw [if_pos h1, told_num hi (by omega), drop_at]
    · rw [if_neg h1]
      by_cases h2 : 35 + i < 63
      · rw [if_pos h2]
        split
        · rfl
        · have hq : ∀ o : Nat, (o = 12 ∨ o = 20) → ∀ k, k < 8 → ∃ b : Nat, cAt (D.drop 35) (o + k) = (b : Int) ∧ b < 256 := fun o ho k hk => by
            rw [drop_at]; exact hbyte (o + k) (by omega) (by omega)
          by_cases h3 : i < 20
          · have hn : numOf (35 + i) = 0x3a0 := by
              have := List.all_eq_true.1 num_a0 (i - 12) (by simp; omega)
              simp only [Bool.and_eq_true, decide_eq_true_eq] at this
              rw [show 12 + (i - 12) = i by omega] at this
              exact this.1
            have ht : toldF (D.drop 35) mip time 0x3a0 = cfgV (D.drop 35) 12 8 := by
              unfold toldF
              rw [if_neg (by decide), if_neg (by decide), if_neg (by decide), if_neg (by decide), if_pos rfl]
            rw [hn, ht, show (35 + i - 47) % 8 = i - 12 by omega, cfgV_byte (hq 12 (.inl rfl)) (by omega), drop_at, show 35 + (12 + (i - 12)) = 35 + i by omega]
          · have hn : numOf (35 + i) = 0x3a2 := by
              have := List.all_eq_true.1 num_a0 (i - 20) (by simp; omega)
              simp only [Bool.and_eq_true, decide_eq_true_eq] at this
              rw [show 20 + (i - 20) = i by omega] at this
              exact this.2
            have ht : toldF (D.drop 35) mip time 0x3a2 = cfgV (D.drop 35) 20 8 := by
              unfold toldF
              rw [if_neg (by decide), if_neg (by decide), if_neg (by decide), if_neg (by decide), if_neg (by decide), if_pos rfl]
            rw [hn, ht, show (35 + i - 47) % 8 = i - 20 by omega, cfgV_byte (hq 20 (.inr rfl)) (by omega), drop_at, show 35 + (20 + (i - 20)) = 35 + i by omega]
      · rw [if_neg h2, told_num hi (by omega), drop_at]
        split <;> rfl

end Go.Proofs.Ytibfaifjnifgjaa
