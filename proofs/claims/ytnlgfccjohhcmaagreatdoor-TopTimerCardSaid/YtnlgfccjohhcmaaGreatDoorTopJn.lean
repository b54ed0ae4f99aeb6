/-
  The console takes bytes: as a summary. No condition.
-/
import Derived.Test.YtnlgfccjohhcmaaGreatDoorTopJoin
namespace Go.Sx
open Go.RowKit Go.Top Go.Proofs

section
variable {env : Env} {B : Nat} {ρ : List Nat} {H : List Blk} {w w0 : World}

theorem setC_get {b o : Nat} {c : C} {H' : List Blk} (h : setC H b o c = some H') : ∃ cs t, H[b]? = some (.cells cs t) ∧ o < cs.length ∧ H' = H.set b (.cells (cs.set o c) t) := by
  unfold setC at h
  split at h
  · rename_i cs t hb
    rw [getL_eq] at hb
    split at h
    · rename_i hlt
      rw [lenL_eq] at hlt
      simp only [Option.some.injEq] at h
      subst h
      exact ⟨cs, t, hb, by simpa [Nat.blt_eq] using hlt, by rw [setL_eq, setL_eq]⟩
    · cases h
  · cases h

theorem setC_mk {b o : Nat} {c : C} {cs : List C} {t : TypeId} (hb : H[b]? = some (.cells cs t)) (ho : o < cs.length) : setC H b o c = some (H.set b (.cells (cs.set o c) t)) := by
  unfold setC
  rw [getL_eq, hb]
  simp only [lenL_eq, setL_eq]
  rw [if_pos (by simpa [Nat.blt_eq] using ho)]

/-- Less may be known of a cell. -/
theorem bad_ok (h : HeapOk env B ρ H w) {b o g : Nat} (hg : ρ[b]? = some g) {H' : List Blk} (hs : setC H b o .bad = some H') : HeapOk env B ρ H' w := by
  obtain ⟨cs, t, hb, ho, rfl⟩ := setC_get hs
  obtain ⟨xs, tl, h1, h2, h3⟩ := h.blk b g _ hg hb
  have hlx : o < xs.length := by rw [← h2.1]; exact ho
  have := h.upd (w' := w) hg (fun _ _ => rfl) (nb := .cells (cs.set o .bad) t) ⟨xs, tl, h1, by
    have := rels_set (c := .bad) (o := o) (v := xs[o]) h2 (bad_r _)
    rwa [List.set_getElem_self] at this, fun k v hk hv => by
    rw [List.getElem?_set] at hk
    split at hk
    · cases hk
    · exact h3 k v hk hv⟩
  rwa [setL_eq] at this

theorem noQ_set {b o : Nat} {c : C} {H' : List Blk} (hn : H.all blkNoQ = true) (hs : setC H b o c = some H') (hc : c.noQ = true) : H'.all blkNoQ = true := by
  obtain ⟨cs, t, hb, ho, rfl⟩ := setC_get hs
  rw [List.all_eq_true] at hn ⊢
  intro x hx
  rcases List.mem_or_eq_of_mem_set hx with hx | rfl
  · exact hn x hx
  · have h0 := hn _ (List.mem_of_getElem? hb)
    simp only [blkNoQ, List.all_eq_true] at h0 ⊢
    intro y hy
    rcases List.mem_or_eq_of_mem_set hy with hy | rfl
    · exact h0 y hy
    · exact hc

theorem drew_ok (h : HeapOk env B ρ H w) : HeapOk env B ρ H w.drew :=
  ⟨h.len, h.lo, h.inj, fun i g b hi hb => (h.blk i g b hi hb).mono (fun _ _ h => h) rfl (fun _ _ _ k => ⟨rfl, k⟩), h.fz, h.fm⟩

theorem below_drew (h : Below B w0 w) : Below B w0 w.drew := ⟨h.os, h.tape, h.output, h.size, h.block⟩

theorem que_r (h : HeapOk env B ρ H w) {b o g : Nat} (hg : ρ[b]? = some g) (hc : isQue (cellC H b o) = true) : ∃ ao n c, w.cell? ⟨g, o, none⟩ = some (.slice ao n c) ∧ QueOk env B ρ w (.slice ao n c) := by
  have hne : cellC H b o ≠ .bad := fun he => by rw [he] at hc; cases hc
  obtain ⟨cs, t, xs, tl, x, k1, k2, k3, k4, k5, k6, k7⟩ := cellC_ok h hg hne
  have hcell : w.cell? ⟨g, o, none⟩ = some x := by rw [cell_at k3, List.getElem?_append_left (List.getElem?_eq_some_iff.1 k6).1, k6]
  cases hcc : cellC H b o with
  | such p =>
    rw [hcc] at hc k7 k2
    have hp : p = 0 := Nat.eq_of_beq_eq_true hc
    subst hp
    obtain ⟨a, n, c, hx, _⟩ := k7
    simp only [List.cons.injEq, and_true] at hx
    subst hx
    exact ⟨a, n, c, hcell, k5 o _ k2 k6⟩
  | nilslice =>
    rw [hcc] at k7
    simp only [C.r, List.cons.injEq, and_true] at k7
    subst k7
    exact ⟨none, 0, 0, hcell, .inl rfl⟩
  | _ => rw [hcc] at hc; cases hc

/-- A cell of which nothing is known, in the world. -/
theorem bad_cell (h : HeapOk env B ρ H w) {b o g : Nat} (hg : ρ[b]? = some g) {cs : List C} {t : TypeId} (hb : H[b]? = some (.cells cs t)) (ho : o < cs.length) : (∃ x, w.cell? ⟨g, o, none⟩ = some x) ∧ w.frozen? ⟨g, o, none⟩ = false := by
  obtain ⟨xs, tl, h1, h2, h3⟩ := h.blk b g _ hg hb
  have hlx : o < xs.length := by rw [← h2.1]; exact ho
  refine ⟨⟨xs[o], ?_⟩, by simp [World.frozen?, h1]⟩
  rw [cell_at h1, List.getElem?_append_left hlx, List.getElem?_eq_getElem hlx]

theorem join_ok {vs : List C} {t : T (C × List Blk)} (ht : smJoin vs H = some t) (hinp : ∀ v, env.such 1 v → InpOk w0 B v) {G : C × List Blk → Prop} {xs : List Value} (hH : HeapOk env B ρ H w) (hb : Below B w0 w) (hsz : B ≤ w0.heap.size) (hr : Rels env ρ vs xs) (hs : t.sat env G) :
    (∀ w, (callFunc 24 xs.toArray).run Tryz.prog w = .ok (.enter 24 xs.toArray) w) ∧
    Calls Tryz.prog 24 xs.toArray w fun e w' => ∃ r y ρ', G r ∧ e = .returned y ∧ Pre ρ ρ' ∧ r.1.r env ρ' [y] ∧ HeapOk env B ρ' r.2 w' ∧ Below B w0 w' := by
  refine ⟨enter24 _, ?_⟩
  unfold smJoin at ht
  split at ht
  · rename_i b o p
    split at ht
    · rename_i hc
      simp only [Bool.and_eq_true] at hc
      obtain ⟨hp, hc0, hc2⟩ := hc
      have hp := Nat.eq_of_beq_eq_true hp
      subst hp
      split at ht
      · rename_i H1 hH1
        split at ht
        · rename_i hnq
          obtain ⟨x, ys, rfl, hx, hys⟩ := hr.uncons
          obtain ⟨y, rfl, hy⟩ := rels1 hys
          obtain ⟨g, hg, rfl⟩ := ptr_r hx
          obtain ⟨bo, m, cb, hy, hsu⟩ := hy
          simp only [List.cons.injEq, and_true] at hy
          subst hy
          have hin := hinp _ (hsu (by decide))
          obtain ⟨c0, z0⟩ := word_ok hH hg hc0
          obtain ⟨ao, n, c, c2, hq⟩ := que_r hH hg hc2
          -- the states
          simp only [setCs] at hH1
          cases ha : setC H b o .bad with
          | none => rw [ha] at hH1; cases hH1
          | some Ha =>
          simp only [ha] at hH1
          cases hbb : setC Ha b (o + 2) .bad with
          | none => rw [hbb] at hH1; cases hH1
          | some Hb =>
          simp only [hbb] at hH1
          cases hcc : setC Hb b (o + 8) .bad with
          | none => rw [hcc] at hH1; cases hH1
          | some Hc =>
          simp only [hcc, Option.some.injEq] at hH1
          subst hH1
          have k1 := bad_ok (bad_ok (bad_ok hH hg ha) hg hbb) hg hcc
          obtain ⟨cs, ty, g1, g2, g3⟩ := setC_get ha
          have hbl : b < H.length := (List.getElem?_eq_some_iff.1 g1).1
          obtain ⟨cs', ty', g4, g5, g6⟩ := setC_get hbb
          obtain ⟨cs'', ty'', g7, g8, g9⟩ := setC_get hcc
          subst g3
          rw [List.getElem?_set_self hbl] at g4
          simp only [Option.some.injEq, Blk.cells.injEq] at g4
          obtain ⟨rfl, rfl⟩ := g4
          rw [List.set_set] at g6
          subst g6
          rw [List.getElem?_set_self hbl] at g7
          simp only [Option.some.injEq, Blk.cells.injEq] at g7
          obtain ⟨rfl, rfl⟩ := g7
          rw [List.set_set] at g9
          subst g9
          -- now the list of cells
          generalize hcs1 : ((cs.set o C.bad).set (o + 2) C.bad).set (o + 8) C.bad = cs1 at *
          have hl8 : o + 8 < cs1.length := by rw [← hcs1]; simpa using g8
          have hob : cs1[o]? = some .bad := by
            rw [← hcs1, List.getElem?_set_ne (by omega), List.getElem?_set_ne (by omega), List.getElem?_set_self g2]
          have hblk : (H.set b (.cells cs1 ty))[b]? = some (.cells cs1 ty) := List.getElem?_set_self hbl
          generalize hH1 : H.set b (.cells cs1 ty) = H1 at *
          have hL : setC H1 b o (.int .i32 (.lit 1)) = some (H1.set b (.cells (cs1.set o (.int .i32 (.lit 1))) ty)) := setC_mk hblk (by omega)
          generalize hH2 : H1.set b (.cells (cs1.set o (.int .i32 (.lit 1))) ty) = H2 at *
          have hb1 : b < H1.length := by rw [← hH1]; simpa using hbl
          have hblk2 : H2[b]? = some (.cells (cs1.set o (.int .i32 (.lit 1))) ty) := by rw [← hH2]; exact List.getElem?_set_self hb1
          have hback : setC H2 b o .bad = some H1 := by
            rw [setC_mk hblk2 (by simp; omega), ← hH2]
            simp only [List.set_set]
            congr 1
            have e1 : cs1.set o C.bad = cs1 := by
              apply List.ext_getElem?
              intro i
              rw [List.getElem?_set]
              split
              · rename_i he; subst he; rw [hob]; simp; omega
              · rfl
            rw [e1]
            apply List.ext_getElem?
            intro i
            rw [List.getElem?_set]
            split
            · rename_i he; subst he; rw [hblk]
            · rfl
          have hnq2 : H2.all blkNoQ = true := noQ_set hnq hL rfl
          obtain ⟨k2, kb2⟩ := setC_ok (v := .int .i32 1) k1 hb hg hL ⟨rfl, inKb_iff.1 rfl⟩ (fun h => by cases h)
          have k3 := drew_ok k2
          have kb3 := below_drew kb2
          have hq3 : QueOk env B ρ (w.setCell ⟨g, o, none⟩ (.int .i32 1)).drew (.slice ao n c) := hq.mono (fun g' _ _ hno => ⟨setCell_other w g o g' _ (fun e => hno b (by rw [e]; exact hg)), hno⟩)
          have hn64 : n ≤ 64 := by
            rcases hq with h | ⟨_, _, _, _, h, _, _, _, _, _, _, _, h8⟩
            · simp only [Value.slice.injEq] at h; omega
            · simp only [Value.slice.injEq] at h; omega
          have hmc : m ≤ cb := by
            obtain ⟨_, _, _, he, h1, _⟩ := hin
            simp only [Value.slice.injEq] at he; omega
          refine (join_any g o ao bo n c m cb w c0 c2 z0 hn64 hmc (fun qa qn qc w2 => HeapOk env B ρ H2 w2 ∧ Below B w0 w2 ∧ QueOk env B ρ w2 (.slice qa qn qc)) ?_).mono ?_
          · intro k hk hnk
            obtain ⟨qa, qn, qc, w2, r1, r2, r3, r4⟩ := append_que k3 kb3 hsz hnq2 hq3 hin hk hnk
            obtain ⟨e0, f0⟩ := word_ok r2 hg (n := 1) (o := o) (b := b) (by
              unfold cellC
              rw [getL_eq, hblk2]
              simp only [getL_eq]
              rw [List.getElem?_set_self (by omega)]
              rfl)
            obtain ⟨⟨y2, e2⟩, f2⟩ := bad_cell r2 hg (o := o + 2) hblk2 (by simp; omega)
            obtain ⟨⟨y8, e8⟩, f8⟩ := bad_cell r2 hg (o := o + 8) hblk2 (by simp; omega)
            exact ⟨qa, qn, qc, w2, y2, y8, r1, ⟨r2, r3, r4⟩, e0, f0, e2, f2, e8, f8⟩
          · rintro e w' ⟨rfl, qa, qn, qc, w2, ⟨r2, r3, r4⟩, hw⟩
            have q1 := bad_ok r2 hg hback
            cases hs1 : setC H1 b (o + 2) (.such 0) with
            | none => simp only [setCs, hs1] at ht; cases ht
            | some Hs =>
            simp only [setCs, hs1] at ht
            cases hs2 : setC Hs b (o + 8) .bad with
            | none => rw [hs2] at ht; cases ht
            | some Ht =>
            simp only [hs2] at ht
            cases hs3 : setC Ht b o (.int .i32 (.lit 0)) with
            | none => rw [hs3] at ht; cases ht
            | some Hu =>
            simp only [hs3, Option.map_some, Option.some.injEq] at ht
            subst ht
            have hs : G (.tup .nil, Hu) := hs
            have hqq : QueOk env B ρ (w2.setCell ⟨g, o + 2, none⟩ (.slice qa qn qc)) (.slice qa qn qc) := r4.mono (fun g' _ _ hno => ⟨setCell_other w2 g (o + 2) g' _ (fun e => hno b (by rw [e]; exact hg)), hno⟩)
            obtain ⟨q2, b2⟩ := setC_ok (v := .slice qa qn qc) q1 r3 hg hs1 ⟨qa, qn, qc, rfl, fun h => absurd rfl h⟩ (fun _ => hqq)
            rcases hw with rfl | rfl
            · obtain ⟨q3, b3⟩ := setC_ok (v := .bool true) q2 b2 hg hs2 (bad_r _) (fun h => by cases h)
              obtain ⟨q4, b4⟩ := setC_ok (v := .int .i32 0) q3 b3 hg hs3 ⟨rfl, inKb_iff.1 rfl⟩ (fun h => by cases h)
              exact ⟨_, _, ρ, hs, rfl, Pre.refl _, ⟨[], rfl, rfl⟩, q4, b4⟩
            · have q3 := bad_ok q2 hg hs2
              obtain ⟨q4, b4⟩ := setC_ok (v := .int .i32 0) q3 b2 hg hs3 ⟨rfl, inKb_iff.1 rfl⟩ (fun h => by cases h)
              exact ⟨_, _, ρ, hs, rfl, Pre.refl _, ⟨[], rfl, rfl⟩, q4, b4⟩
        · cases ht
      · cases ht
    · cases ht
  · cases ht

end
end Go.Sx
