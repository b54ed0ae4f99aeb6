/-
  A region that makes a map and fills it in whatever order: the symbolic run of it is right. No condition.
-/
import Derived.Test.YtnlgfccjohhcmaaGreatDoorSxO
namespace Go.Sx
open Go.RowKit

theorem forceN_eq {α : Type} (f : Nat → α) (n : Nat) : forceN f n = f n := by cases n <;> rfl

theorem readyE_spec {x : Ent} {N : Nat} (h : readyE x N = true) (hm : x.m = maskOf x.o.after.toList) : ∀ e ∈ x.o.after, N.testBit e.on = true :=
  fun e he => mask_sub (l := x.o.after.toList) (by rw [← hm]; exact h) e (by simpa using he)

theorem edge_mem {b : Nat} : ∀ {l : List Edge}, (maskOf l).testBit b = true → ∃ e ∈ l, e.on = b := by
  intro l
  induction l with
  | nil => intro h; have h : Nat.testBit 0 b = true := h; simp at h
  | cons x l ih =>
    intro h
    have e1 : maskOf (x :: l) = (1 <<< x.on) ||| maskOf l := rfl
    rw [e1, Nat.testBit_or, Bool.or_eq_true] at h
    rcases h with h | h
    · refine ⟨x, by simp, ?_⟩
      rw [Nat.shiftLeft_eq, Nat.one_mul, Nat.testBit_two_pow] at h
      simpa using h
    · obtain ⟨e, he, hb⟩ := ih h
      exact ⟨e, by simp [he], hb⟩

/-- What is asked of a region's operations. -/
structure Well (all : Array Oper) : Prop where
  guard : ∀ (i : Nat) (o : Oper), all[i]? = some o → o.guard = none
  binds : ∀ (i : Nat) (o : Oper), all[i]? = some o → ∀ e ∈ o.after, Region.binds .any e = true
  pair : ∀ (i j : Nat) (oi oj : Oper) (d : Tmp), all[i]? = some oi → all[j]? = some oj → i ≠ j → oi.dst = some d → oj.dst ≠ some d ∧ (Operand.tmp d ∈ oj.op.operands.toList → ∃ e ∈ oj.after, e.on = i)

theorem bindsAll_spec : ∀ {l : List Edge}, bindsAll l = true → ∀ e ∈ l, Region.binds .any e = true := by
  intro l
  induction l with
  | nil => intro _ e he; cases he
  | cons x l ih =>
    intro h e he
    have h' : (match x.ground with | .textOnly _ => false | .gcOnly _ => false | _ => bindsAll l) = true := h
    rcases List.mem_cons.1 he with rfl | he
    · unfold Region.binds
      cases hg : e.ground <;> simp_all
    · refine ih ?_ e he
      cases hg : x.ground <;> simp_all

theorem well_of {all : Array Oper} (h : wellOk (ents all.toList 0) = true) : Well all := by
  unfold wellOk at h
  rw [List.all_eq_true] at h
  have hx : ∀ (i : Nat) (o : Oper), all[i]? = some o → plainOp (mkEnt i o) = true ∧ ∀ (j : Nat) (oj : Oper), all[j]? = some oj → pairOk (mkEnt j oj) (mkEnt i o) = true := fun i o ho => by
    have := h _ (ents_mem ho)
    rw [Bool.and_eq_true, List.all_eq_true] at this
    exact ⟨this.1, fun j oj hj => this.2 _ (ents_mem hj)⟩
  refine ⟨fun i o ho => ?_, fun i o ho e he => ?_, fun i j oi oj d hi hj hne hd => ?_⟩
  · have := (hx i o ho).1
    unfold plainOp at this
    rw [Bool.and_eq_true] at this
    cases hg : o.guard with
    | none => rfl
    | some g => have h1 := this.1; simp only [mkEnt, hg] at h1; cases h1
  · have := (hx i o ho).1
    unfold plainOp at this
    rw [Bool.and_eq_true] at this
    exact bindsAll_spec this.2 e (by simpa [mkEnt] using he)
  · have := (hx j oj hj).2 i oi hi
    unfold pairOk at this
    simp only [mkEnt, hd, Bool.or_eq_true, Bool.and_eq_true, Nat.beq_eq, hne, false_or] at this
    obtain ⟨h1, h2⟩ := this
    refine ⟨fun he => ?_, fun hm => ?_⟩
    · rw [he] at h1; simp at h1
    · have h3 := tmpsOf_bit hm
      rw [bitAt_eq, bitAt_eq, h3] at h2
      simp only [Bool.not_true, Bool.false_eq_true, false_or] at h2
      obtain ⟨e, he, hb⟩ := edge_mem h2
      exact ⟨e, by simpa using he, hb⟩

theorem looks_eq {all : Array Oper} {o : Oper} (hg : o.guard = none) {d : Tmp} : d ∈ o.looksAt all ↔ Operand.tmp d ∈ o.op.operands.toList := by
  unfold Oper.looksAt
  rw [hg]
  simp only [List.append_nil, List.mem_filterMap]
  constructor
  · rintro ⟨x, hx, h⟩
    cases x <;> simp at h
    subst h; exact hx
  · intro h; exact ⟨_, h, rfl⟩

theorem free_of {all : Array Oper} (hw : Well all) {listed : Array Bool} {i : Nat} {oi : Oper} (hi : all[i]? = some oi) (hr : ∀ e ∈ oi.after, listed.getD e.on false = true) : Region.free .any all listed i = true := by
  unfold Region.free
  rw [hi]
  simp only [List.all_eq_true, List.mem_range]
  intro j hj
  by_cases hji : j = i
  · subst hji; simp
  · cases hl : listed.getD j true with
    | true => simp
    | false =>
      have hoj : all[j]? = some all[j] := Array.getElem?_eq_getElem hj
      generalize all[j] = oj at hoj
      rw [hoj]
      by_cases hex : ∃ e ∈ oj.after, e.on = i
      · obtain ⟨e, he, hei⟩ := hex
        have : (oj.after.any fun e => Region.binds .any e && e.on == i) = true := by
          rw [Array.any_eq_true']
          exact ⟨e, he, by simp [hw.binds j oj hoj e he, hei]⟩
        simp [this]
      · have hap : oi.apart all oj = true := by
          unfold Oper.apart
          have gi := hw.guard i oi hi
          have gj := hw.guard j oj hoj
          rw [Bool.and_eq_true]
          constructor
          · cases hd : oi.dst with
            | none => rfl
            | some d =>
              obtain ⟨h1, h2⟩ := hw.pair i j oi oj d hi hoj (Ne.symm hji) hd
              have h3 : d ∉ oj.looksAt all := fun hm => hex (h2 ((looks_eq gj).1 hm))
              simp [h1, h3]
          · cases hd : oj.dst with
            | none => rfl
            | some d =>
              obtain ⟨h1, h2⟩ := hw.pair j i oj oi d hoj hi hji hd
              have h3 : d ∉ oi.looksAt all := fun hm => by
                obtain ⟨e, he, hej⟩ := h2 ((looks_eq gi).1 hm)
                have h4 := hr e he
                rw [hej] at h4
                rcases Nat.lt_or_ge j listed.size with h' | h'
                · simp [h'] at hl h4; rw [hl] at h4; cases h4
                · simp [Array.getElem?_eq_none h'] at h4
              simp [h3]
        simp [hap]

theorem unl {listed : Array Bool} {j : Nat} (h : listed.getD j true = false) : j < listed.size ∧ listed.getD j false = false := by
  rcases Nat.lt_or_ge j listed.size with h' | h'
  · exact ⟨h', by simp [h'] at h ⊢; exact h⟩
  · simp [Array.getElem?_eq_none h'] at h

theorem unl' {listed : Array Bool} {j : Nat} (hj : j < listed.size) (h : listed.getD j false = false) : listed.getD j true = false := by
  simp [hj] at h ⊢; exact h

/-- What is fixed of such a region. 'S': the side operations, 'Ph': the others. -/
structure PhStat (P : Program) (all : Array Oper) (sd : List Ins) (im : Nat) (tm : Tmp) (S Ph : Nat) : Prop where
  well : Well all
  sok : ∃ k0, SdOk sd k0
  ph : ∀ j, Ph.testBit j = true → j < all.size ∧ S.testBit j = false
  imS : ∀ j, j < all.size → S.testBit j = false → j ≠ im ∧ ∀ e ∈ sd, e.i ≠ j
  make : im < all.size → ∃ o t, all[im]? = some o ∧ o.op = .makeMap t none ∧ o.dst = some tm
  ins : ∀ e ∈ sd, im < all.size ∧ ∃ o t kt et kk, all[e.i]? = some o ∧ o.op = .insert t (.tmp tm) (.const (.int e.k e.n)) (.tmp e.v) ∧ o.dst = none ∧ P.underlying t = some (.map kt et) ∧ P.underlying kt = some (.int kk)
  side : ∀ j, S.testBit j = true → (j = im ∧ im < all.size) ∨ ∃ e ∈ sd, e.i = j

/-- What holds while the region runs. 'N': what is done of the others. -/
structure PhInv (env : Env) (all : Array Oper) (sd : List Ins) (im : Nat) (tm : Tmp) (S N : Nat) (B : Nat) (ρ : List Nat) (listed : Array Bool) (a : Act) (w : World) : Prop where
  size : listed.size = all.size
  bits : ∀ j, j < all.size → S.testBit j = false → listed.getD j false = N.testBit j
  closed : ∀ (j : Nat) (o : Oper), all[j]? = some o → listed.getD j false = true → ∀ e ∈ o.after, listed.getD e.on false = true
  map : MapSt sd im tm B ρ listed a w
  fz : ∀ g, listed.getD im false = true → a.tmps[tm]? = some (.map (some g)) → env.fz g = none
  tm : im < all.size → tm < a.tmps.size

theorem bit_set (N j q : Nat) : (Nat.lor N (Nat.shiftLeft 1 j)).testBit q = (N.testBit q || decide (j = q)) := by
  show (N ||| (1 <<< j)).testBit q = _
  rw [Nat.testBit_or, Nat.shiftLeft_eq, Nat.one_mul, Nat.testBit_two_pow]

theorem getD_set_self {listed : Array Bool} {j : Nat} (h : j < listed.size) : (listed.setIfInBounds j true).getD j false = true := by simp [h]

theorem size_put (a : Act) (d : Option Tmp) (v : Value) : (a.put d v).tmps.size = a.tmps.size := by
  cases d <;> simp [Act.put]

section
variable {env : Env} {w0 : World} {B : Nat} {ρ ρ' ρ0 : List Nat} {s : St} {a a' : Act} {w w' : World} {K : Ctx} {P : Program} {all : Array Oper} {sd : List Ins} {im : Nat} {tm : Tmp} {S Ph N : Nat} {listed : Array Bool} {H H0 : List Blk}

theorem closed_set (h : PhInv env all sd im tm S N B ρ listed a w) {j : Nat} {o : Oper} (ho : all[j]? = some o) (hr : ∀ e ∈ o.after, listed.getD e.on false = true) :
    ∀ (q : Nat) (oq : Oper), all[q]? = some oq → (listed.setIfInBounds j true).getD q false = true → ∀ e ∈ oq.after, (listed.setIfInBounds j true).getD e.on false = true := by
  intro q oq hq hl e he
  by_cases hjq : j = q
  · subst hjq
    rw [ho] at hq; cases hq
    exact getD_set_true (hr e he)
  · rw [getD_set_ne false hjq] at hl
    exact getD_set_true (h.closed q oq hq hl e he)

theorem PhInv.step (st : PhStat P all sd im tm S Ph) (h : PhInv env all sd im tm S N B ρ listed a w) {j : Nat} {o : Oper} (ho : all[j]? = some o) (hj : S.testBit j = false) (hun : listed.getD j true = false)
    (hr : ∀ e ∈ o.after, listed.getD e.on false = true) (htm : o.dst ≠ some tm) {v : Value} (ht : a'.tmps = (a.put o.dst v).tmps)
    (hfz : ∀ g, listed.getD im false = true → a.tmps[tm]? = some (.map (some g)) → w'.heap[g]? = w.heap[g]? ∧ ∀ i : Nat, ρ'[i]? ≠ some g) :
    PhInv env all sd im tm S (Nat.lor N (Nat.shiftLeft 1 j)) B ρ' (listed.setIfInBounds j true) a' w' := by
  have hjlt : j < all.size := (Array.getElem?_eq_some_iff.1 ho).1
  obtain ⟨hjim, hje⟩ := st.imS j hjlt hj
  have himl : (listed.setIfInBounds j true).getD im false = listed.getD im false := getD_set_ne false hjim
  refine ⟨by simp [h.size], fun q hq hSq => ?_, closed_set h ho hr, ?_, fun g hl hg => ?_, fun hi => by rw [ht, size_put]; exact h.tm hi⟩
  · rw [bit_set]
    by_cases hjq : j = q
    · subst hjq
      rw [getD_set_self (by rw [h.size]; exact hjlt)]; simp
    · rw [getD_set_ne false hjq, h.bits q hq hSq]; simp [hjq]
  · intro him
    rw [himl] at him
    refine MapSt.other h.map ht htm (fun e he hl hd => ?_) hjim hje hfz (by rw [himl]; exact him)
    obtain ⟨_, oe, t, kt, et, kk, hoe, hop, _⟩ := st.ins e he
    obtain ⟨x, hx, hxj⟩ := (st.well.pair j e.i o oe e.v ho hoe (Ne.symm (hje e he)) hd).2 (by rw [hop]; simp [Op.operands])
    have := h.closed e.i oe hoe hl x hx
    rw [hxj, (unl hun).2] at this
    cases this
  · rw [himl] at hl
    rw [ht, put_other htm] at hg
    exact h.fz g hl hg

theorem BlkOk.setObj {w : World} {q : Nat} {b : Blk} (h : BlkOk env B ρ w q b) {g : Nat} {es : Array MapEntry} {cl : Nat} (hm : w.heap[g]? = some (.map es cl)) (hq : q ≠ g) {o : Obj} : BlkOk env B ρ { w with heap := w.heap.setIfInBounds g o } q b := by
  cases b with
  | cells cs ty =>
    obtain ⟨xs, tl, hx, hr, hqu⟩ := h
    refine ⟨xs, tl, by rw [setObj_other w g q o hq]; exact hx, hr, fun k v hk hv => ?_⟩
    rcases hqu k v hk hv with h0 | ⟨g', n, c, xs', h1, h2, h0, h3, h4, h5⟩
    · exact .inl h0
    · exact .inr ⟨g', n, c, xs', h1, h2, h0, h3, by rw [setObj_other w g g' o (fun e => by rw [e, hm] at h4; cases h4)]; exact h4, h5⟩
  | mp es' c =>
    obtain ⟨ms, c', hx, hr⟩ := h
    exact ⟨ms, c', by rw [setObj_other w g q o hq]; exact hx, hr⟩

theorem BlkOk.more {w : World} {q : Nat} {b : Blk} (h : BlkOk env B ρ w q b) {g : Nat} {es : Array MapEntry} {cl : Nat} (hm : w.heap[g]? = some (.map es cl)) : BlkOk env B (ρ ++ [g]) w q b := by
  cases b with
  | cells cs ty =>
    obtain ⟨xs, tl, hx, hr, hqu⟩ := h
    refine ⟨xs, tl, hx, hr.mono (pre_of ρ g), fun k v hk hv => ?_⟩
    rcases hqu k v hk hv with h0 | ⟨g', n, c, xs', h1, h2, h0, h3, h4, h5⟩
    · exact .inl h0
    · refine .inr ⟨g', n, c, xs', h1, h2, h0, fun i hi => ?_, h4, h5⟩
      rw [List.getElem?_append] at hi
      split at hi
      · exact h3 i hi
      · rw [List.getElem?_singleton] at hi
        split at hi
        · cases hi; rw [hm] at h4; cases h4
        · cases hi
  | mp es' c =>
    obtain ⟨ms, c', hx, hr⟩ := h
    exact ⟨ms, c', hx, hr.mono' fun _ _ => r_mono (pre_of ρ g)⟩

theorem heap_set (h : HeapOk env B ρ H w) {g : Nat} (hg : ∀ i : Nat, ρ[i]? ≠ some g) (hz : env.fz g = none) {es : Array MapEntry} {cl : Nat} (hm : w.heap[g]? = some (.map es cl)) (o : Obj) : HeapOk env B ρ H { w with heap := w.heap.setIfInBounds g o } :=
  ⟨h.len, h.lo, h.inj, fun i q b hi hb => (h.blk i q b hi hb).setObj hm (fun e => hg i (by rw [← e]; exact hi)),
    fun q x hx => ⟨by rw [setObj_other w g q o (fun e => by rw [e, hz] at hx; cases hx)]; exact (h.fz q x hx).1, (h.fz q x hx).2⟩, h.fm⟩

theorem heap_new (h : HeapOk env B ρ H w) (o : Obj) : HeapOk env B ρ H (w.alloc o) :=
  ⟨h.len, h.lo, h.inj, fun i q b hi hb => (h.blk i q b hi hb).mono (fun _ _ h => h) (heap_alloc_old w o (h.lt hi)) (fun _ _ hlt hno => ⟨heap_alloc_old w o hlt, hno⟩),
    fun q x hx => ⟨by rw [heap_alloc_old w o (Array.getElem?_eq_some_iff.1 (h.fz q x hx).1).1]; exact (h.fz q x hx).1, (h.fz q x hx).2⟩, h.fm⟩

theorem TsOk.put_bad {ts : Ts} {xs : Array Value} (h : TsOk env ρ ts xs) {t : Tmp} (hb : getT ts t = .bad) (x : Value) : TsOk env ρ ts (xs.setIfInBounds t x) := by
  refine ⟨by simp [h.n], fun q => ?_⟩
  by_cases hq : t = q
  · subst hq; rw [hb]; exact bad_r _
  · have : (xs.setIfInBounds t x).getD q undef = xs.getD q undef := by simp [Array.getElem?_setIfInBounds_ne hq]
    rw [this]; exact h.r q

/-- A side operation. -/
theorem side_step (st : PhStat K.P all sd im tm S Ph) (h : PhInv env all sd im tm S N B ρ listed a w) (hS : Sim env w0 B ρ s a w) (hbad : tm < s.ts.n → getT s.ts tm = .bad)
    {j : Nat} (hj : j ∈ Region.ready .any all listed) (hs : S.testBit j = true) {Q : Exit → Act → World → Prop} {Kc : Act → World → Prop}
    (hK : ∀ a' w', PhInv env all sd im tm S N B ρ (listed.setIfInBounds j true) a' w' → Sim env w0 B ρ s a' w' → Kc a' w') : wpOp K.P all Q j Kc a w := by
  obtain ⟨hun, o, ho, hafter⟩ := mem_ready.1 hj
  have hafter : ∀ e ∈ o.after, listed.getD e.on false = true := fun e he => hafter e he (st.well.binds j o ho e he)
  have hw : Region.wanted o (yielded all a.tmps) = true := by simp [Region.wanted, st.well.guard j o ho]
  have hbits : ∀ q, q < all.size → S.testBit q = false → (listed.setIfInBounds j true).getD q false = N.testBit q := fun q hq hSq => by
    rw [getD_set_ne false (fun e => by rw [e, hSq] at hs; cases hs)]; exact h.bits q hq hSq
  unfold wpOp
  simp only [ho, hw, if_true]
  left
  unfold Oper.wp
  -- an insert comes after the map's making
  have hmk : ∀ e ∈ sd, listed.getD e.i false = true → listed.getD im false = true := fun e he hl => by
    obtain ⟨him, oe, t, kt, et, kk, hoe, hop, _⟩ := st.ins e he
    obtain ⟨om, tq, hom, hopm, hdm⟩ := st.make him
    have hne : im ≠ e.i := fun e' => by
      rw [e', hoe] at hom; cases hom; rw [hop] at hopm; cases hopm
    obtain ⟨x, hx, hxi⟩ := (st.well.pair im e.i om oe tm hom hoe hne hdm).2 (by rw [hop]; simp [Op.operands])
    have := h.closed e.i oe hoe hl x hx
    rwa [hxi] at this
  rcases st.side j hs with ⟨rfl, him⟩ | ⟨e, he, rfl⟩
  · obtain ⟨om, t, hom, hop, hdm⟩ := st.make him
    rw [ho] at hom; cases hom
    have hrun : (execOp a.eval o).run K.P w = .ok (.value (.map (some w.heap.size))) (w.alloc (.map #[] 0)) := by simp [execOp, hop, Instr.makeMap]
    rw [hrun, Oper.upon_value, hdm]
    have htm := h.tm him
    have hBs : B ≤ w.heap.size := by have := hS.below.size; have := hS.size; omega
    have hfz0 : env.fz w.heap.size = none := by
      cases hz : env.fz w.heap.size with
      | none => rfl
      | some x => have := (Array.getElem?_eq_some_iff.1 (hS.heap.fz _ x hz).1).1; omega
    refine hK _ _ ⟨by simp [h.size], hbits, closed_set h ho hafter, ?_, fun g _ hg => ?_, fun _ => by rw [size_put]; exact htm⟩ ?_
    · refine MapSt.made (fun e he => ?_) (fun e he => ?_) htm hBs (fun i g hi => hS.heap.lt hi)
      · cases hl : listed.getD e.i false with
        | false => rfl
        | true => have := hmk e he hl; rw [(unl hun).2] at this; cases this
      · obtain ⟨_, oe, t', kt, et, kk, hoe, hop', _⟩ := st.ins e he
        intro e'; rw [e', ho] at hoe; cases hoe; rw [hop] at hop'; cases hop'
    · simp only [Act.put, Array.getElem?_setIfInBounds_self_of_lt htm, Option.some.injEq, Value.map.injEq] at hg
      rw [← hg]; exact hfz0
    · have h1 : Sim env w0 B ρ s a (w.alloc (.map #[] 0)) := ⟨hS.ts, hS.defers, heap_new hS.heap _, hS.below.alloc (by have := hS.below.size; have := hS.size; omega) _, hS.size⟩
      exact ⟨h1.ts.put_bad (hbad (by rw [hS.ts.n]; exact htm)) _, h1.defers, h1.heap, h1.below, h1.size⟩
  · obtain ⟨him, oe, t, kt, et, kk, hoe, hop, hd, hu, hk⟩ := st.ins e he
    rw [ho] at hoe; cases hoe
    obtain ⟨om, tq, hom, hopm, hdm⟩ := st.make him
    have hne : im ≠ e.i := fun e' => by
      rw [e', ho] at hom; cases hom; rw [hop] at hopm; cases hopm
    have himl : listed.getD im false = true := by
      obtain ⟨x, hx, hxi⟩ := (st.well.pair im e.i om o tm hom ho hne hdm).2 (by rw [hop]; simp [Op.operands])
      have := hafter x hx
      rwa [hxi] at this
    obtain ⟨k0, hsd⟩ := st.sok
    obtain ⟨g, w', h1, h2, h3, h4, ⟨ob, rfl⟩, h6⟩ := MapSt.ins hsd h.map himl he hun hu hk
    have hev : a.eval (.tmp tm) = .map (some g) := by simp [Act.eval, h1]
    have hrun : (execOp a.eval o).run K.P w = .ok .skip { w with heap := w.heap.setIfInBounds g ob } := by
      have : Instr.mapUpdate t (a.eval (.tmp tm)) (a.eval (.const (.int e.k e.n))) (a.eval (.tmp e.v)) = Instr.mapUpdate t (.map (some g)) (.int e.k e.n) (a.tmps.getD e.v undef) := by rw [hev]; rfl
      simp only [execOp, hop, this, Sem.run_bind, h2]
      simp
    rw [hrun, Oper.upon_skip, hd]
    have hz := h.fz g himl h1
    obtain ⟨ms0, c0, hm0⟩ : ∃ (ms : List MapEntry) (c : Nat), w.heap[g]? = some (.map ms.toArray c) := by
      obtain ⟨g', ms, c, k1, _, _, k4, _⟩ := h.map himl
      rw [h1] at k1; cases k1
      exact ⟨ms, c, k4⟩
    exact hK _ _ ⟨by simp [h.size], hbits, closed_set h ho hafter, h6, fun g' _ hg => h.fz g' himl hg, h.tm⟩
      ⟨hS.ts, hS.defers, heap_set hS.heap h4 hz hm0 ob, below_setObj hS.below h3 ob, hS.size⟩

end
end Go.Sx
