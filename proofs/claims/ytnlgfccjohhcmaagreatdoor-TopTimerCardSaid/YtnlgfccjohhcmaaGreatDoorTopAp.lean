/-
  The append to the console's queue. No condition.
-/
import Derived.Test.YtnlgfccjohhcmaaGreatDoorTopLk
import Derived.Laws.OwnMore
import Derived.ArgAppend
import Derived.Deep.RegionLawGrows
namespace Go.Sx
open Go.RowKit Go.Proofs

section
variable {env : Env} {B : Nat} {ρ : List Nat} {H : List Blk} {w w0 : World}

theorem list_of_fun {α : Type} (n : Nat) (f : Nat → α) : ∃ l : List α, l.length = n ∧ ∀ i, i < n → l[i]? = some (f i) := by
  refine ⟨(List.range n).map f, by simp, fun i hi => ?_⟩
  rw [List.getElem?_map, List.getElem?_range hi]; rfl

/-- Another world in which all blocks but one that lies apart are the same, where no block of H holds a queue. -/
theorem heap_apart (hH : HeapOk env B ρ H w) {w' : World} {row : Option Nat} (hg : w.grownBy w' row) (hr : ∀ g, row = some g → (∀ i : Nat, ρ[i]? ≠ some g) ∧ env.fz g = none) (hnoq : H.all blkNoQ = true) : HeapOk env B ρ H w' := by
  refine ⟨hH.len, hH.lo, hH.inj, fun i g b hi hb => ?_, fun g o ho => ?_, hH.fm⟩
  · have hne : some g ≠ row := fun he => (hr g he.symm).1 i hi
    have hs := hg.block g (hH.lt hi) hne
    have h0 := hH.blk i g b hi hb
    cases b with
    | cells cs ty =>
      obtain ⟨xs, tl, h1, h2, h3⟩ := h0
      refine ⟨xs, tl, by rw [hs]; exact h1, h2, fun k v hk hv => ?_⟩
      exact (noQ_such (List.all_eq_true.1 hnoq _ (List.mem_of_getElem? hb)) hk).elim
    | mp es c =>
      obtain ⟨ms, c, h1, h2⟩ := h0
      exact ⟨ms, c, by rw [hs]; exact h1, h2⟩
  · obtain ⟨h1, h2⟩ := hH.fz g o ho
    refine ⟨?_, h2⟩
    rw [hg.block g (Array.getElem?_eq_some_iff.1 h1).1 (fun he => by have := (hr g he.symm).2; rw [this] at ho; cases ho)]
    exact h1

theorem below_grown (hb : Below B w0 w) {w' : World} {row : Option Nat} (hg : w.grownBy w' row) (hr : ∀ g, row = some g → B ≤ g) (hB : B ≤ w.heap.size) : Below B w0 w' :=
  hb.trans ⟨hg.os, hg.tape, hg.output, hg.size, fun k hk => hg.block k (by omega) (fun he => by have := hr k he.symm; omega)⟩

theorem que_new (hH : HeapOk env B ρ H w) (hB : B ≤ w.heap.size) {w' : World} {v : Value} {n : Nat} {xs : List Value} (hn : n ≤ 64) (ho : w'.ownsRow w.heap.size 5 1 v n xs) : QueOk env B ρ w' v := by
  rcases ho.2 with ⟨h, _⟩ | ⟨g, cap, cur, h1, h2, h3, h4, h5, h6, _⟩
  · exact .inl h
  · refine .inr ⟨g, n, cap, cur, h1, by omega, ?_, fun i hi => ?_, h3, h4, h5, h6, hn⟩
    · cases hz : env.fz g with
      | none => rfl
      | some o =>
        have := (Array.getElem?_eq_some_iff.1 (hH.fz g o hz).1).1
        omega
    · have := hH.lt hi; omega

theorem info5 : ∃ i, Tryz.prog.info? 5 = some i ∧ i.zero = some (.int .u8 0) ∧ i.size = 1 ∧ i.bytes = 1 := by
  have h : (Tryz.prog.info? 5).map (fun i => (i.zero, i.size, i.bytes)) = some (some (.int .u8 0), 1, 1) := by kernel_rfl
  cases hi : Tryz.prog.info? 5 with
  | none => rw [hi] at h; cases h
  | some i =>
    rw [hi] at h
    simp only [Option.map_some, Option.some.injEq, Prod.mk.injEq] at h
    exact ⟨i, rfl, h.1, h.2.1, h.2.2⟩

theorem slice_add (ad : Addr) (hs : ad.spot = none) (j : Nat) : ad.add j = ⟨ad.block, ad.off + j, none⟩ := by
  cases ad; simp_all [Addr.add]

/-- **The append to the queue.** -/
theorem append_que (hH : HeapOk env B ρ H w) (hb : Below B w0 w) (hsz : B ≤ w0.heap.size) (hnoq : H.all blkNoQ = true) {ao : Option Addr} {n c : Nat} (hq : QueOk env B ρ w (.slice ao n c)) {bo : Option Addr} {m cb k : Nat} (hi : InpOk w0 B (.slice bo m cb)) (hk : k ≤ m) (hnk : n + k ≤ 64) :
    ∃ qa qn qc w', (Builtin.append_ #[35, 35] 35 #[.slice ao n c, .slice bo k cb]).run Tryz.prog w = .ok (.slice qa qn qc) w' ∧ HeapOk env B ρ H w' ∧ Below B w0 w' ∧ QueOk env B ρ w' (.slice qa qn qc) := by
  have hB : B ≤ w.heap.size := by have := hb.size; omega
  obtain ⟨ti, i1, i2, i3, i4⟩ := info5
  obtain ⟨a, len, cap, he, h1, h2, h3, h4⟩ := hi
  simp only [Value.slice.injEq] at he
  obtain ⟨rfl, rfl, rfl⟩ := he
  cases bo with
  | none =>
    obtain ⟨rfl, rfl⟩ := h3 rfl
    have hk0 : k = 0 := by omega
    subst hk0
    refine ⟨ao, n, c, w, ?_, hH, hb, hq⟩
    have hnc : n ≤ c := by
      rcases hq with h | ⟨g, n', c', xs, h, _, _, _, _, h5, _⟩
      · simp only [Value.slice.injEq] at h; omega
      · simp only [Value.slice.injEq] at h; omega
    have hr35 : (underlying 35).run Tryz.prog w = .ok (.slice 5) w := Tryz.runUnderlying35 w
    have hs5 : (sizeOf 5).run Tryz.prog w = .ok 1 w := Tryz.sizeOf5 w
    cases ao with
    | none => simp [Builtin.append_, Builtin.lenOf, Builtin.firstCells, hr35, hs5, hnc, storeCells]
    | some aa => simp [Builtin.append_, Builtin.lenOf, Builtin.firstCells, hr35, hs5, hnc, storeCells]
  | some ad =>
    have hcell : ∀ i : Nat, i < k → ad.spot = none ∧ ∃ x, w.cell? ⟨ad.block, ad.off + i, none⟩ = some (.int .u8 x) := fun i hik => by
      obtain ⟨k1, k2, x, k3⟩ := h4 ad rfl i (by omega)
      exact ⟨k1, x, by rw [hb.cell (p := ⟨ad.block, _, none⟩) k2]; exact k3⟩
    obtain ⟨news, hl, hnews⟩ := list_of_fun k fun i => (w.cell? ⟨ad.block, ad.off + i, none⟩).getD undef
    have hl1 : news.length = k * 1 := by omega
    have hcells : ∀ (j : Nat) u, news[j]? = some u → w.cell? (ad.add j) = some u := fun j u hu => by
      have hj : j < k := by rw [← hl]; exact (List.getElem?_eq_some_iff.1 hu).1
      obtain ⟨k1, x, k2⟩ := hcell j hj
      rw [slice_add ad k1, k2]
      rw [hnews j hj, k2] at hu
      simpa using hu
    have hone : ∀ u ∈ news, u.oneCell' = true := fun u hu => by
      obtain ⟨j, hj, rfl⟩ := List.getElem_of_mem hu
      obtain ⟨k1, x, k2⟩ := hcell j (by omega)
      have h0 := hnews j (by omega)
      rw [List.getElem?_eq_getElem hj, k2] at h0
      simp only [Option.getD_some, Option.some.injEq] at h0
      rw [h0]; rfl
    have hmax : n + k ≤ maxLen := by simp only [maxLen]; omega
    have hbyt : (n + k) * 1 ≤ 140737488355328 := by omega
    rcases hq with h | ⟨g, n', c', xs, h, q1, q2, q3, q4, q5, q6, q7, q8⟩
    · simp only [Value.slice.injEq] at h
      obtain ⟨rfl, rfl, rfl⟩ := h
      obtain ⟨v', w', r1, r2, r3, r4⟩ := run_append_own (P := Tryz.prog) w w.heap.size 35 35 5 ti _ 1 1 Tryz.underlying35 i1 i2 i3 i4 rfl (by omega) (.slice none 0 0) 0 [] (World.ownsRow_nil w _ 5 1) ad k cb news hl1 hcells hone hmax hbyt (Nat.le_refl _)
      have hQ := que_new hH hB hnk r2
      obtain ⟨qa, qn, qc, rfl⟩ : ∃ qa qn qc, v' = .slice qa qn qc := by
        rcases hQ with h | ⟨_, _, _, _, h, _⟩
        · exact ⟨_, _, _, h⟩
        · exact ⟨_, _, _, h⟩
      exact ⟨qa, qn, qc, w', r1, heap_apart hH r3 (fun g hg => by cases hg) hnoq, below_grown hb r3 (fun g hg => by cases hg) hB, hQ⟩
    · simp only [Value.slice.injEq] at h
      obtain ⟨rfl, rfl, rfl⟩ := h
      by_cases hroom : n + k ≤ c
      · obtain ⟨w', r1, r2, r3⟩ := run_append_fits (P := Tryz.prog) w B 35 35 5 ti 1 Tryz.underlying35 i1 i3 g n c (xs.toList.take (n * 1)) ⟨by simp [q7]; omega, .inr ⟨g, c, xs, rfl, q1, q4, q5, q6, q7, rfl⟩⟩ ad k cb news hl1 hcells hone hroom
        refine ⟨_, _, _, w', r1, heap_apart hH r3 (fun g' hg => by cases hg; exact ⟨q3, q2⟩) hnoq, below_grown hb r3 (fun g' hg => by cases hg; exact q1) hB, ?_⟩
        rcases r2.2 with ⟨h, _⟩ | ⟨g', cap, cur, h1, h2, h3, h4, h5, h6, _⟩
        · cases h
        · simp only [Value.slice.injEq, Option.some.injEq, Addr.mk.injEq, true_and, and_true] at h1
          obtain ⟨rfl, rfl⟩ := h1
          exact .inr ⟨g, n + k, c, cur, rfl, q1, q2, q3, h3, h4, h5, h6, hnk⟩
      · obtain ⟨v', w', r1, r2, r3⟩ := run_append_arg_grows (P := Tryz.prog) w 35 35 5 ti _ 1 1 Tryz.underlying35 i1 i2 i3 i4 rfl (by omega) ⟨g, 0, none⟩ n c (xs.toList.take (n * 1)) (by simp [q7]; omega) (fun j u hu => by
          rw [List.getElem?_take] at hu
          split at hu
          · rw [slice_add _ rfl]
            simp only [World.cell?, q4, Nat.zero_add]
            simpa using hu
          · cases hu) ad k cb news hl1 hcells (by omega) hmax hbyt
        have hQ := que_new hH hB hnk r2
        obtain ⟨qa, qn, qc, rfl⟩ : ∃ qa qn qc, v' = .slice qa qn qc := by
          rcases hQ with h | ⟨_, _, _, _, h, _⟩
          · exact ⟨_, _, _, h⟩
          · exact ⟨_, _, _, h⟩
        exact ⟨qa, qn, qc, w', r1, heap_apart hH r3 (fun g hg => by cases hg) hnoq, below_grown hb r3 (fun g hg => by cases hg) hB, hQ⟩

end
end Go.Sx
