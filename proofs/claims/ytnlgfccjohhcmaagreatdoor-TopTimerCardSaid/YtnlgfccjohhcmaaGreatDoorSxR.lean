/-
  A region that makes a map and fills it in whatever order: both parts of the run, and when a region is such. No condition.
-/
import Derived.Test.YtnlgfccjohhcmaaGreatDoorSxQ
namespace Go.Sx
open Go.RowKit

theorem entMask_bit : ∀ {l : List Ent} {j : Nat}, (entMask l).testBit j = true ↔ ∃ x ∈ l, x.i = j := by
  intro l
  induction l with
  | nil => intro j; show Nat.testBit 0 j = true ↔ _; simp
  | cons x l ih =>
    intro j
    show ((1 <<< x.i) ||| entMask l).testBit j = true ↔ _
    rw [Nat.testBit_or, Nat.shiftLeft_eq, Nat.one_mul, Nat.testBit_two_pow, Bool.or_eq_true, ih]
    simp

theorem insMask_bit : ∀ {l : List Ins} {j : Nat}, (insMask l).testBit j = true ↔ ∃ x ∈ l, x.i = j := by
  intro l
  induction l with
  | nil => intro j; show Nat.testBit 0 j = true ↔ _; simp
  | cons x l ih =>
    intro j
    show ((1 <<< x.i) ||| insMask l).testBit j = true ↔ _
    rw [Nat.testBit_or, Nat.shiftLeft_eq, Nat.one_mul, Nat.testBit_two_pow, Bool.or_eq_true, ih]
    simp

theorem entMask_ents {all : Array Oper} {j : Nat} : (entMask (ents all.toList 0)).testBit j = true ↔ j < all.size := by
  rw [entMask_bit]
  constructor
  · rintro ⟨x, hx, rfl⟩; exact (Array.getElem?_eq_some_iff.1 (mem_ents hx).1).1
  · intro h; exact ⟨_, ents_mem (Array.getElem?_eq_getElem h), rfl⟩

theorem mapTy_spec {P : Program} {t : TypeId} (h : mapTy P t = true) : ∃ kt et kk, P.underlying t = some (.map kt et) ∧ P.underlying kt = some (.int kk) := by
  unfold mapTy at h
  split at h
  · rename_i kt et hu
    split at h
    · rename_i kk hk; exact ⟨kt, et, kk, hu, hk⟩
    · cases h
  · cases h

theorem insOf_spec {P : Program} {tm : Tmp} {x : Ent} {e : Ins} (h : insOf P tm x = some e) :
    e.i = x.i ∧ InK e.k e.n ∧ ∃ t kt et kk, x.o.op = .insert t (.tmp tm) (.const (.int e.k e.n)) (.tmp e.v) ∧ x.o.dst = none ∧ P.underlying t = some (.map kt et) ∧ P.underlying kt = some (.int kk) := by
  unfold insOf at h
  split at h
  · cases h
  · rename_i hd
    split at h
    · rename_i t m k v hop
      split at h
      · rename_i t'
        split at h
        · rename_i c
          split at h
          · rename_i kk n
            split at h
            · rename_i u
              split at h
              · rename_i hc
                simp only [Bool.and_eq_true, Nat.beq_eq, inKb_iff] at hc
                cases h
                obtain ⟨kt, et, kk', h1, h2⟩ := mapTy_spec hc.2.1
                refine ⟨rfl, hc.2.2, t, kt, et, kk', ?_, hd, h1, h2⟩
                rw [hop, hc.1]
              · cases h
            · cases h
          · cases h
        · cases h
      · cases h
    · cases h

theorem inss_mem {P : Program} {tm : Tmp} : ∀ {l : List Ent} {e : Ins}, e ∈ inss P tm l → ∃ x ∈ l, insOf P tm x = some e := by
  intro l
  induction l with
  | nil => intro e h; cases h
  | cons x l ih =>
    intro e h
    simp only [inss] at h
    split at h
    · rename_i e' he
      rcases List.mem_cons.1 h with rfl | h
      · exact ⟨x, by simp, he⟩
      · obtain ⟨y, hy, h1⟩ := ih h; exact ⟨y, by simp [hy], h1⟩
    · obtain ⟨y, hy, h1⟩ := ih h; exact ⟨y, by simp [hy], h1⟩

theorem makeOf_spec : ∀ {l : List Ent} {im : Nat} {tm : Tmp}, makeOf l = some (im, tm) → ∃ x ∈ l, x.i = im ∧ x.o.dst = some tm ∧ ∃ t, x.o.op = .makeMap t none := by
  intro l
  induction l with
  | nil => intro im tm h; cases h
  | cons x l ih =>
    intro im tm h
    have step : makeOf l = some (im, tm) → ∃ y ∈ x :: l, y.i = im ∧ y.o.dst = some tm ∧ ∃ t, y.o.op = .makeMap t none := fun h => by
      obtain ⟨y, hy, h1⟩ := ih h; exact ⟨y, by simp [hy], h1⟩
    simp only [makeOf] at h
    split at h
    · rename_i t r hop
      split at h
      · split at h
        · rename_i d hd; cases h; exact ⟨x, by simp, rfl, hd, t, hop⟩
        · exact step h
      · exact step h
    · exact step h

theorem sdOk_spec {k0 : IntKind} : ∀ {sd : List Ins}, sdOk k0 sd = true → SdOk sd k0 := by
  intro sd
  induction sd with
  | nil => intro _; exact ⟨by simp, by simp, by simp⟩
  | cons e l ih =>
    intro h
    simp only [sdOk, Bool.and_eq_true, sameKind_iff, List.all_eq_true, Bool.not_eq_true', intBeq_eq, decide_eq_false_iff_not] at h
    obtain ⟨h1, h2, h3⟩ := h
    have hl := ih h3
    have hi : ∀ e' ∈ l, e.i ≠ e'.i := fun e' he' hh => by
      have := (h2 e' he').2
      rw [hh] at this; simp at this
    refine ⟨fun x hx => ?_, fun x hx y hy hxy => ?_, fun x hx y hy hxy => ?_⟩
    · rcases List.mem_cons.1 hx with rfl | hx
      · exact h1
      · exact hl.kind x hx
    · rcases List.mem_cons.1 hx with hx | hx <;> rcases List.mem_cons.1 hy with hy | hy
      · rw [hx, hy]
      · rw [hx] at hxy; exact absurd hxy (h2 y hy).1
      · rw [hy] at hxy; exact absurd hxy.symm (h2 x hx).1
      · exact hl.key x hx y hy hxy
    · rcases List.mem_cons.1 hx with hx | hx <;> rcases List.mem_cons.1 hy with hy | hy
      · rw [hx, hy]
      · rw [hx] at hxy; exact absurd hxy (hi y hy)
      · rw [hy] at hxy; exact absurd hxy.symm (hi x hx)
      · exact hl.op x hx y hy hxy

section
variable {env : Env} {w0 : World} {B : Nat} {ρ ρ' ρ0 : List Nat} {s : St} {a a' : Act} {w w' : World} {K : Ctx} {all : Array Oper} {sd : List Ins} {im : Nat} {tm : Tmp} {S Ph N F : Nat} {listed : Array Bool} {H0 : List Blk}
  {call : FuncId → List C → List Blk → T (C × List Blk)} {why : Nat} {es : List Ent} {k : Nat → St → T St} {G : St → Prop}

/-- The side operations that are left, when all else is done but what waits for them. -/
theorem sides_ok {Q : Exit → Act → World → Prop} (st : PhStat K.P all sd im tm S Ph) (hes : es = ents all.toList 0) (hN : ∀ j, N.testBit j = true → Ph.testBit j = true) (hok : sidesOk es im S N = true) (hp0 : Pre ρ0 ρ) (hH : ∃ H', s.H = H0 ++ H') (hbad : tm < s.ts.n → getT s.ts tm = .bad)
    (hk : ∀ (a : Act) (w : World) (listed : Array Bool) (m : Nat), Sim env w0 B ρ s a w → PhInv env all sd im tm S N B ρ listed a w → (∀ j, S.testBit j = true → listed.getD j false = true) → Left all.size listed m → wpAnyH K.P .any all Q (Keeps env w0 B ρ0 H0 true) m listed a w) :
    ∀ (m : Nat) (a : Act) (w : World) (listed : Array Bool), Sim env w0 B ρ s a w → PhInv env all sd im tm S N B ρ listed a w → Left all.size listed m → wpAnyH K.P .any all Q (Keeps env w0 B ρ0 H0 true) m listed a w := by
  subst hes
  unfold sidesOk at hok
  rw [List.all_eq_true] at hok
  have hSlt : ∀ j, S.testBit j = true → j < all.size := fun j hj => by
    rcases st.side j hj with ⟨rfl, h⟩ | ⟨e, he, rfl⟩
    · exact h
    · obtain ⟨_, o, t, kt, et, kk, ho, _⟩ := st.ins e he; exact (Array.getElem?_eq_some_iff.1 ho).1
  have hNl : ∀ {listed : Array Bool} {a : Act} {w : World}, PhInv env all sd im tm S N B ρ listed a w → ∀ j, N.testBit j = true → listed.getD j false = true := fun hI j hj => by
    obtain ⟨h1, h2⟩ := st.ph j (hN j hj)
    rw [hI.bits j h1 h2]; exact hj
  -- a side operation that may come up now, if one is left
  have hex : ∀ {listed : Array Bool} {a : Act} {w : World}, PhInv env all sd im tm S N B ρ listed a w → ∀ j, S.testBit j = true → listed.getD j false = false → ∃ i, i ∈ Region.ready .any all listed := fun {listed a w} hI j hj hl => by
    by_cases him : im < all.size
    · cases hlm : listed.getD im false with
      | false =>
        obtain ⟨o, t, ho, hop, hd⟩ := st.make him
        refine ⟨im, mem_ready.2 ⟨unl' (by rw [hI.size]; exact him) hlm, o, ho, fun e he _ => ?_⟩⟩
        have h1 := hok _ (ents_mem ho)
        have hSim : S.testBit im = true := by
          cases hS : S.testBit im with
          | true => rfl
          | false => exact absurd rfl (st.imS im him hS).1
        simp only [mkEnt, bitAt_eq, hSim, if_true, Nat.beq_refl] at h1
        exact hNl hI _ (readyE_spec (x := mkEnt im o) h1 rfl e he)
      | true =>
        have hjlt := hSlt j hj
        have ho : all[j]? = some all[j] := Array.getElem?_eq_getElem hjlt
        generalize all[j] = o at ho
        refine ⟨j, mem_ready.2 ⟨unl' (by rw [hI.size]; exact hjlt) hl, o, ho, fun e he _ => ?_⟩⟩
        have h1 := hok _ (ents_mem ho)
        have hne : Nat.beq j im = false := by
          cases hb : Nat.beq j im with
          | false => rfl
          | true => rw [Nat.eq_of_beq_eq_true hb, hlm] at hl; cases hl
        simp only [mkEnt, bitAt_eq, hj, if_true, hne, Bool.false_eq_true, if_false] at h1
        have h2 := readyE_spec (x := mkEnt j o) h1 rfl e he
        rw [bit_set, Bool.or_eq_true] at h2
        rcases h2 with h2 | h2
        · exact hNl hI _ h2
        · have h2 : im = e.on := by simpa using h2
          rw [← h2]; exact hlm
    · rcases st.side j hj with ⟨_, h⟩ | ⟨e, he, _⟩
      · exact absurd h him
      · exact absurd (st.ins e he).1 him
  -- nothing else may come up
  have hall : ∀ {listed : Array Bool} {a : Act} {w : World}, PhInv env all sd im tm S N B ρ listed a w → (∃ j, S.testBit j = true ∧ listed.getD j false = false) → ∀ i ∈ Region.ready .any all listed, S.testBit i = true := fun {listed a w} hI hleft i hi => by
    obtain ⟨j, hj, hl⟩ := hleft
    obtain ⟨hun, o, ho, hafter⟩ := mem_ready.1 hi
    have h1 := hok _ (ents_mem ho)
    cases hS : S.testBit i with
    | true => rfl
    | false =>
      exfalso
      simp only [mkEnt, bitAt_eq, hS, Bool.false_eq_true, if_false, Bool.or_eq_true] at h1
      rcases h1 with h1 | h1
      · have := hNl hI i h1
        rw [(unl hun).2] at this; cases this
      · have h2 := Nat.eq_of_beq_eq_true h1
        have h3 : (maskOf o.after.toList).testBit j = true := by
          have h4 : (Nat.land (maskOf o.after.toList) S).testBit j = true := by rw [h2]; exact hj
          have h4 : (maskOf o.after.toList &&& S).testBit j = true := h4
          rw [Nat.testBit_and, Bool.and_eq_true] at h4
          exact h4.1
        obtain ⟨e, he, hej⟩ := edge_mem h3
        have := hafter e (by simpa using he) (st.well.binds i o ho e (by simpa using he))
        rw [hej, hl] at this; cases this
  intro m
  induction m with
  | zero =>
    intro a w listed hS hI hL
    refine hk a w listed 0 hS hI (fun j hj => ?_) hL
    cases hl : listed.getD j false with
    | true => rfl
    | false =>
      obtain ⟨q, hq⟩ := hL.pos (hSlt j hj) (unl' (by rw [hI.size]; exact hSlt j hj) hl)
      cases hq
  | succ m ih =>
    intro a w listed hS hI hL
    by_cases hleft : ∃ j, S.testBit j = true ∧ listed.getD j false = false
    · have hleft' := hleft
      obtain ⟨j, hj, hl⟩ := hleft'
      obtain ⟨i, hi⟩ := hex hI j hj hl
      refine wpAnyH_all rfl (List.ne_nil_of_mem hi) (fun q hq => ?_)
      have hqS := hall hI hleft q hq
      refine side_step st hI hS hbad hq hqS (fun a' w' hI' hS' => ⟨fun _ => ?_, ih a' w' _ hS' hI' (hL.set (hSlt q hqS) (mem_ready.1 hq).1)⟩)
      obtain ⟨H', hH'⟩ := hH
      exact ⟨ρ, H', hp0, by rw [← hH']; exact hS'.heap, hS'.below⟩
    · refine hk a w listed (m + 1) hS hI (fun j hj => ?_) hL
      cases hl : listed.getD j false with
      | true => rfl
      | false => exact absurd ⟨j, hj, hl⟩ hleft

/-- The map as a block, when all of it is there. -/
theorem map_done (st : PhStat K.P all sd im tm S Ph) (hin : ∀ e ∈ sd, InK e.k e.n) (him : im < all.size) (hS : Sim env w0 B ρ s a w) (hI : PhInv env all sd im tm S N B ρ listed a w) (hall : ∀ j, S.testBit j = true → listed.getD j false = true) (n : Nat) :
    ∃ g, Sim env w0 B (ρ ++ [g]) ⟨setT s.ts tm (.map s.H.length), s.H ++ [.mp (sdEs s.ts sd) n]⟩ a w := by
  have himS : S.testBit im = true := by
    cases h : S.testBit im with
    | true => rfl
    | false => exact absurd rfl (st.imS im him h).1
  have hsdS : ∀ e ∈ sd, S.testBit e.i = true := fun e he => by
    cases h : S.testBit e.i with
    | true => rfl
    | false =>
      obtain ⟨_, o, t, kt, et, kk, ho, _⟩ := st.ins e he
      exact absurd rfl ((st.imS e.i (Array.getElem?_eq_some_iff.1 ho).1 h).2 e he)
  obtain ⟨g, ms, c, h1, h2, h3, h4, h5, h6⟩ := hI.map (hall im himS)
  obtain ⟨k0, hsd⟩ := st.sok
  have hfz := hI.fz g (hall im himS) h1
  have hmp : MpOk env ρ (sdEs s.ts sd) ms := MapSt.mp hsd hin hS.ts (fun m hm => by obtain ⟨e, he, _, hk⟩ := h5 m hm; exact ⟨e, he, hk⟩) (fun e he => h6 e he (hall _ (hsdS e he)))
  have hpre := pre_of ρ g
  have hlast : (ρ ++ [g])[s.H.length]? = some g := by rw [← hS.heap.len]; simp
  have hgs : ∀ {i q : Nat}, (ρ ++ [g])[i]? = some q → (i < ρ.length ∧ ρ[i]? = some q) ∨ (i = ρ.length ∧ q = g) := fun {i q} hi => by
    rw [List.getElem?_append] at hi
    split at hi
    · rename_i hl; exact .inl ⟨hl, hi⟩
    · rename_i hl
      rw [List.getElem?_singleton] at hi
      split at hi
      · cases hi; exact .inr ⟨by omega, rfl⟩
      · cases hi
  refine ⟨g, ⟨?_, (by show DfOk env (ρ ++ [g]) (setT s.ts tm _).d a.defers; rw [setT_d]; exact hS.defers.mono hpre), ⟨by simp [hS.heap.len], fun i q hi => ?_, fun i j q hi hj => ?_, fun i q b hi hb => ?_, fun q o hq => ⟨(hS.heap.fz q o hq).1, fun i hi => ?_⟩, hS.heap.fm⟩, hS.below, hS.size⟩⟩
  · have hts := (hS.ts.mono hpre).set (v := .map s.H.length) (x := .map (some g)) ⟨g, hlast, rfl⟩ tm
    rw [set_self h1] at hts
    exact hts
  · rcases hgs hi with ⟨_, h⟩ | ⟨_, rfl⟩
    · exact hS.heap.lo i q h
    · exact h2
  · rcases hgs hi with ⟨hl, h⟩ | ⟨hl, rfl⟩ <;> rcases hgs hj with ⟨hl', h'⟩ | ⟨hl', hq⟩
    · exact hS.heap.inj i j q h h'
    · subst hq; exact absurd h (h3 i)
    · exact absurd h' (h3 j)
    · omega
  · rcases hgs hi with ⟨hl, h⟩ | ⟨hl, rfl⟩
    · rw [hS.heap.len] at hl
      rw [List.getElem?_append_left hl] at hb
      exact (hS.heap.blk i q b h hb).more h4
    · rw [hS.heap.len] at hl
      subst hl
      rw [List.getElem?_append_right (Nat.le_refl _)] at hb
      simp only [Nat.sub_self, List.getElem?_cons_zero, Option.some.injEq] at hb
      subst hb
      exact ⟨ms, c, h4, hmp.mono' fun _ _ => r_mono hpre⟩
  · rcases hgs hi with ⟨_, h⟩ | ⟨_, rfl⟩
    · exact (hS.heap.fz q o hq).2 i h
    · rw [hfz] at hq; cases hq

theorem evM_ok (hE : EnvOk env K w0 B) (hcall : ∀ z, CallOk (env.fr z) K w0 B call) (hsel : Region.noSelect all = true) {Q : Exit → Act → World → Prop} (hQp : ∀ c a w, ¬ Q (.panic c) a w)
    (hes : es = ents all.toList 0) (hwell : Well all) (hsd : ∃ k0, SdOk sd k0) (hmk : ∃ o t, all[im]? = some o ∧ o.op = .makeMap t none ∧ o.dst = some tm)
    (hins : ∀ e ∈ sd, InK e.k e.n ∧ ∃ o t kt et kk, all[e.i]? = some o ∧ o.op = .insert t (.tmp tm) (.const (.int e.k e.n)) (.tmp e.v) ∧ o.dst = none ∧ K.P.underlying t = some (.map kt et) ∧ K.P.underlying kt = some (.int kk))
    (hSd : S = Nat.lor (Nat.shiftLeft 1 im) (insMask sd)) (hF : F = entMask es) (htm : tm < s.ts.n)
    (hS : Sim env w0 B ρ s a w) (hs : (evM K call why all es im tm sd S F s).sat env G)
    (hQ : ∀ s' ρ' a' w', Pre ρ ρ' → Sim env w0 B ρ' s' a' w' → G s' → Q .normal a' w') : wpAnyH K.P .any all Q (Keeps env w0 B ρ s.H true) all.size (Array.replicate all.size false) a w := by
  have him : im < all.size := by obtain ⟨o, _, ho, _⟩ := hmk; exact (Array.getElem?_eq_some_iff.1 ho).1
  have hSb : ∀ j, S.testBit j = true ↔ j = im ∨ ∃ e ∈ sd, e.i = j := fun j => by
    have : S = (1 <<< im) ||| insMask sd := hSd
    rw [this, Nat.testBit_or, Nat.shiftLeft_eq, Nat.one_mul, Nat.testBit_two_pow, Bool.or_eq_true, insMask_bit]
    simp [eq_comm]
  have hFb : ∀ j, F.testBit j = true ↔ j < all.size := fun j => by rw [hF, hes, entMask_ents]
  have hSlt : ∀ j, S.testBit j = true → j < all.size := fun j hj => by
    rcases (hSb j).1 hj with rfl | ⟨e, he, rfl⟩
    · exact him
    · obtain ⟨_, o, t, kt, et, kk, ho, _⟩ := hins e he; exact (Array.getElem?_eq_some_iff.1 ho).1
  have hPb : ∀ j, (Nat.xor F S).testBit j = true ↔ j < all.size ∧ S.testBit j = false := fun j => by
    show (F ^^^ S).testBit j = true ↔ _
    rw [Nat.testBit_xor]
    cases hSj : S.testBit j with
    | true => have := (hFb j).2 (hSlt j hSj); simp [this]
    | false => simp [hFb]
  have st : PhStat K.P all sd im tm S (Nat.xor F S) := ⟨hwell, hsd, fun j hj => (hPb j).1 hj, fun j _ hj => ⟨fun e => (by
      have := (hSb j).2 (.inl e); rw [hj] at this; cases this), fun e he hej => (by
      have := (hSb j).2 (.inr ⟨e, he, hej⟩); rw [hj] at this; cases this)⟩, fun _ => hmk, fun e he => ⟨him, (hins e he).2⟩,
    fun j hj => by
      rcases (hSb j).1 hj with h | h
      · exact .inl ⟨h, him⟩
      · exact .inr h⟩
  have hgf : ∀ j, (Array.replicate all.size false).getD j false = false := fun j => by
    rcases Nat.lt_or_ge j all.size with h | h <;> simp [h]
  have hI : PhInv env all sd im tm S 0 B ρ (Array.replicate all.size false) a w := by
    refine ⟨by simp, fun j _ _ => by rw [hgf]; simp, fun j o _ h => (by rw [hgf] at h; cases h), fun h => (by rw [hgf] at h; cases h), fun g h => (by rw [hgf] at h; cases h), fun _ => ?_⟩
    rw [← hS.ts.n]; exact htm
  have hlen0 : ρ.length = s.H.length := hS.heap.len
  unfold evM at hs
  refine evPh_ok hE hcall hsel hlen0 hQp st hes ?_ all.size _ 0 _ ρ a w _ (Pre.refl _) (hS.bad tm) ⟨[], by simp⟩ hI (by simp) (Left.start _) (bad_setT _ _) hs
  intro N s1 ρ1 a1 w1 l1 m1 hp1 hS1 hH1 hI1 hN1 hL1 hbad1 hk1
  split at hk1
  · rename_i hok
    refine sides_ok st hes hN1 hok hp1 hH1 hbad1 ?_ m1 a1 w1 l1 hS1 hI1 hL1
    intro a2 w2 l2 m2 hS2 hI2 hall2 hL2
    obtain ⟨g, hS3⟩ := map_done st (fun e he => (hins e he).1) him hS2 hI2 hall2 sd.length
    have st' : PhStat K.P all [] all.size (s1.ts.n) 0 F := ⟨hwell, ⟨.u8, by simp, by simp, by simp⟩, fun j hj => ⟨(hFb j).1 hj, by simp⟩, fun j hj _ => ⟨by omega, by simp⟩, fun h => absurd h (Nat.lt_irrefl _), by simp, fun j hj => by simp at hj⟩
    have hbits : ∀ j, j < all.size → l2.getD j false = (Nat.lor N S).testBit j := fun j hj => by
      show _ = (N ||| S).testBit j
      rw [Nat.testBit_or]
      cases hSj : S.testBit j with
      | true => rw [hall2 j hSj]; simp
      | false => rw [hI2.bits j hj hSj]; simp
    have hnl : l2.getD all.size false = false := by simp [hI2.size]
    have hI3 : PhInv env all [] all.size (s1.ts.n) 0 (Nat.lor N S) B (ρ1 ++ [g]) l2 a2 w2 :=
      ⟨hI2.size, fun j hj _ => hbits j hj, hI2.closed, fun h => (by rw [hnl] at h; cases h), fun g h => (by rw [hnl] at h; cases h), fun h => absurd h (Nat.lt_irrefl _)⟩
    have hN3 : ∀ j, (Nat.lor N S).testBit j = true → F.testBit j = true := fun j hj => by
      have hj : (N ||| S).testBit j = true := hj
      rw [Nat.testBit_or, Bool.or_eq_true] at hj
      rcases hj with hj | hj
      · exact (hFb j).2 ((hPb j).1 (hN1 j hj)).1
      · exact (hFb j).2 (hSlt j hj)
    have hH3 : ∃ H', s1.H ++ [Blk.mp (sdEs s1.ts sd) sd.length] = s.H ++ H' := by
      obtain ⟨H', h⟩ := hH1
      exact ⟨H' ++ [Blk.mp (sdEs s1.ts sd) sd.length], by rw [h, List.append_assoc]⟩
    have hpre3 : Pre ρ (ρ1 ++ [g]) := hp1.trans (pre_of ρ1 g)
    have hts3 : s1.ts.n < (setT s1.ts tm (C.map s1.H.length)).n → getT (setT s1.ts tm (C.map s1.H.length)) s1.ts.n = .bad := fun h => by
      rw [setT_n] at h; exact absurd h (Nat.lt_irrefl _)
    refine evPh_ok hE hcall hsel hlen0 hQp st' hes ?_ m2 _ _ _ (ρ1 ++ [g]) a2 w2 l2 hpre3 hS3 hH3 hI3 hN3 hL2 hts3 hk1
    intro N4 s4 ρ4 a4 w4 l4 m4 hp4 hS4 hH4 hI4 hN4 hL4 _ hk4
    split at hk4
    · rename_i hdone
      refine wpAnyH_done ?_ (hQ s4 ρ4 a4 w4 hp4 hS4 hk4) m4
      rw [List.eq_nil_iff_forall_not_mem]
      intro j hj
      obtain ⟨hun, o, ho, _⟩ := mem_ready.1 hj
      have hjlt := (Array.getElem?_eq_some_iff.1 ho).1
      unfold doneOk at hdone
      rw [List.all_eq_true] at hdone
      subst hes
      have h1 := hdone _ (ents_mem ho)
      simp only [mkEnt, bitAt_eq] at h1
      have := hI4.bits j hjlt (by simp)
      rw [h1, (unl hun).2] at this; cases this
    · exact hk4.elim
  · exact hk1.elim

theorem evMap_ok (hE : EnvOk env K w0 B) (hcall : ∀ z, CallOk (env.fr z) K w0 B call) (hsel : Region.noSelect all = true) {Q : Exit → Act → World → Prop} (hQp : ∀ c a w, ¬ Q (.panic c) a w) {t : T St} (ht : evMap K call why all s = some t)
    (hS : Sim env w0 B ρ s a w) (hs : t.sat env G) (hQ : ∀ s' ρ' a' w', Pre ρ ρ' → Sim env w0 B ρ' s' a' w' → G s' → Q .normal a' w') : wpAnyH K.P .any all Q (Keeps env w0 B ρ s.H true) all.size (Array.replicate all.size false) a w := by
  unfold evMap at ht
  split at ht
  · cases ht
  · rename_i im tm hmk
    obtain ⟨x, hx, hxi, hxd, ty, hxo⟩ := makeOf_spec hmk
    split at ht
    · cases ht
    · rename_i e sd hsd
      split at ht
      · rename_i hc
        simp only [Bool.and_eq_true] at hc
        obtain ⟨h1, h2, h3⟩ := hc
        rw [forceN_eq, forceN_eq] at ht
        cases ht
        rw [← hsd] at hs h2
        have hlt : tm < s.ts.n := Nat.le_of_ble_eq_true h3
        refine evM_ok hE hcall hsel hQp rfl (well_of h1) ⟨_, sdOk_spec h2⟩ ⟨x.o, ty, by rw [← hxi]; exact (mem_ents hx).1, hxo, hxd⟩ (fun e' he' => ?_) rfl rfl hlt hS hs hQ
        obtain ⟨y, hy, hye⟩ := inss_mem he'
        obtain ⟨g1, g2, t', kt, et, kk, g3, g4, g5, g6⟩ := insOf_spec hye
        exact ⟨g2, y.o, t', kt, et, kk, by rw [g1]; exact (mem_ents hy).1, g3, g4, g5, g6⟩
      · cases ht

end
end Go.Sx
