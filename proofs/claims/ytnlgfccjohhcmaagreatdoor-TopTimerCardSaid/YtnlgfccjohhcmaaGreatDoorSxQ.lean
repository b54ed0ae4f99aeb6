/-
  A region that makes a map and fills it in whatever order: the run of all of it. No condition.
-/
import Derived.Test.YtnlgfccjohhcmaaGreatDoorSxP
namespace Go.Sx
open Go.RowKit

section
variable {env : Env} {w0 : World} {B : Nat} {ρ ρ' ρ0 : List Nat} {s : St} {a a' : Act} {w w' : World} {K : Ctx} {all : Array Oper} {sd : List Ins} {im : Nat} {tm : Tmp} {S Ph N : Nat} {listed : Array Bool} {H0 : List Blk}
  {call : FuncId → List C → List Blk → T (C × List Blk)} {why : Nat} {es : List Ent} {k : Nat → St → T St} {G : St → Prop}

theorem evPh_cons {i : Nat} {l : List Nat} (hs : (evPh K call why H0 all es S Ph tm k (i :: l) N s).sat env G) :
    ∃ x, x ∈ es ∧ readyE x N = true ∧ bitAt N x.i = false ∧ bitAt Ph x.i = true ∧ dstNot x.o.dst tm = true ∧
      ((∃ v nd, evTake K true H0 all x.o s = some (v, nd) ∧ nd.tt env = true ∧ (evPh K call why H0 all es S Ph tm k l (Nat.lor N (Nat.shiftLeft 1 x.i)) ⟨putD s.ts x.o.dst v, s.H⟩).sat env G) ∨
       (waitAll es S N (Nat.xor Ph N) x.i = true ∧ (evStep K call why x.o s fun s' => if preH H0 s'.H then evPh K call why H0 all es S Ph tm k l (Nat.lor N (Nat.shiftLeft 1 x.i)) ⟨setT s'.ts tm .bad, s'.H⟩ else .fail (why + 9)).sat env G)) := by
  simp only [evPh] at hs
  split at hs
  · exact hs.elim
  · rename_i x hx
    split at hs
    · rename_i hc
      simp only [Bool.and_eq_true, Bool.not_eq_true'] at hc
      rw [forceN_eq] at hs
      refine ⟨x, by rw [getL_eq] at hx; exact List.mem_of_getElem? hx, hc.1, hc.2.1, hc.2.2.1, hc.2.2.2, ?_⟩
      split at hs
      · rename_i v nd hv
        obtain ⟨hnd, hs⟩ := needT_sat hs
        exact .inl ⟨v, nd, hv, hnd, hs⟩
      · split at hs
        · rename_i hw; exact .inr ⟨hw, hs⟩
        · exact hs.elim
    · exact hs.elim

theorem dstNot_spec {d : Option Tmp} {tm : Tmp} (h : dstNot d tm = true) : d ≠ some tm := by
  intro e
  rw [e] at h
  simp [dstNot] at h

theorem setT_n (ts : Ts) (t : Nat) (v : C) : (setT ts t v).n = ts.n := by unfold setT; cases Nat.blt t ts.n <;> rfl

theorem setT_ne {ts : Ts} {d t : Nat} (h : d ≠ t) (v : C) : getT (setT ts d v) t = getT ts t := by
  unfold setT
  cases Nat.blt d ts.n with
  | false => rfl
  | true => show getA ((d, v) :: ts.l) t = _; rw [getA_cons, if_neg h]; rfl

theorem setT_at {ts : Ts} {t : Nat} (h : t < ts.n) (v : C) : getT (setT ts t v) t = v := by
  unfold setT
  rw [show Nat.blt t ts.n = true from Nat.ble_eq_true_of_le h]
  show getA ((t, v) :: ts.l) t = _; rw [getA_cons, if_pos rfl]

theorem bad_putD {ts : Ts} {d : Option Tmp} {v : C} {tm : Tmp} (hd : d ≠ some tm) (h : tm < ts.n → getT ts tm = .bad) : tm < (putD ts d v).n → getT (putD ts d v) tm = .bad := by
  cases d with
  | none => exact h
  | some d =>
    show tm < (setT ts d v).n → getT (setT ts d v) tm = .bad
    rw [setT_n, setT_ne (fun e => hd (by rw [e]))]
    exact h

theorem bad_setT (ts : Ts) (tm : Tmp) : tm < (setT ts tm .bad).n → getT (setT ts tm .bad) tm = .bad := by
  rw [setT_n]; exact fun h => setT_at h _

theorem TsOk.bad {ts : Ts} {xs : Array Value} (h : TsOk env ρ ts xs) (tm : Tmp) : TsOk env ρ (setT ts tm .bad) xs := by
  unfold setT
  cases Nat.blt tm ts.n with
  | false => exact h
  | true =>
    refine ⟨h.n, fun t => ?_⟩
    show (getA ((tm, .bad) :: ts.l) t).r env ρ _
    rw [getA_cons]
    split
    · exact bad_r _
    · exact h.r t

theorem Sim.bad (h : Sim env w0 B ρ s a w) (tm : Tmp) : Sim env w0 B ρ ⟨setT s.ts tm .bad, s.H⟩ a w := ⟨h.ts.bad tm, by show DfOk env ρ (setT s.ts tm .bad).d a.defers; rw [setT_d]; exact h.defers, h.heap, h.below, h.size⟩

/-- Who may come up: operation i, or a side operation. -/
theorem ready_who (st : PhStat K.P all sd im tm S Ph) (h : PhInv env all sd im tm S N B ρ listed a w) (hN : ∀ j, N.testBit j = true → Ph.testBit j = true) (hes : es = ents all.toList 0) {i : Nat}
    (hw : waitAll es S N (Nat.xor Ph N) i = true) {j : Nat} (hj : j ∈ Region.ready .any all listed) : j = i ∨ S.testBit j = true := by
  obtain ⟨hun, o, ho, hafter⟩ := mem_ready.1 hj
  have hjlt := (Array.getElem?_eq_some_iff.1 ho).1
  subst hes
  unfold waitAll at hw
  rw [List.all_eq_true] at hw
  have h1 := hw _ (ents_mem ho)
  simp only [mkEnt, bitAt_eq, Bool.or_eq_true, Nat.beq_eq, Bool.not_eq_true'] at h1
  rcases h1 with h1 | h1 | h1 | h1
  · exact .inr h1
  · cases hS : S.testBit j with
    | true => exact .inr rfl
    | false => have := h.bits j hjlt hS; rw [h1, (unl hun).2] at this; cases this
  · exact .inl h1
  · exfalso
    have hne : (maskOf o.after.toList) &&& (Ph ^^^ N) ≠ 0 := fun e => by
      have e : Nat.land (maskOf o.after.toList) (Nat.xor Ph N) = 0 := e
      rw [e] at h1; cases h1
    obtain ⟨b, hb⟩ := Nat.exists_testBit_of_ne_zero hne
    rw [Nat.testBit_and, Bool.and_eq_true, Nat.testBit_xor] at hb
    obtain ⟨e, he, heb⟩ := edge_mem hb.1
    have hnb : N.testBit b = false := by
      cases hn : N.testBit b with
      | false => rfl
      | true => have := hN b hn; rw [hn, this] at hb; simp at hb
    have hpb : Ph.testBit b = true := by
      cases hp : Ph.testBit b with
      | true => rfl
      | false => rw [hnb, hp] at hb; simp at hb
    obtain ⟨hblt, hbS⟩ := st.ph b hpb
    have hl := hafter e (by simpa using he) (st.well.binds j o ho e (by simpa using he))
    rw [heb, h.bits b hblt hbS, hnb] at hl
    cases hl

/-- What is frozen while a call runs. -/
theorem freeze (h : PhInv env all sd im tm S N B ρ listed a w) (hS : Sim env w0 B ρ s a w) : ∃ z : Nat → Option Obj,
    (∀ (g : Nat) (o : Obj), z g = some o → w.heap[g]? = some o ∧ ∀ i : Nat, ρ[i]? ≠ some g) ∧ (∀ (g : Nat) (o : Obj), env.fz g = some o → z g = some o) ∧
    (∀ g, listed.getD im false = true → a.tmps[tm]? = some (.map (some g)) → ∃ o, z g = some o) ∧ (∀ (g : Nat) (o : Obj), z g = some o → env.fz g = some o ∨ isMp o = true) := by
  cases hl : listed.getD im false with
  | false => exact ⟨env.fz, hS.heap.fz, fun _ _ h => h, fun _ h => (by cases h), fun _ _ h => .inl h⟩
  | true =>
    obtain ⟨g, ms, c, h1, h2, h3, h4, _⟩ := h.map hl
    refine ⟨fun q => if q = g then w.heap[g]? else env.fz q, fun q o hq => ?_, fun q o hq => ?_, fun q _ hq => ?_, fun q o hq => ?_⟩
    · simp only [] at hq
      split at hq
      · rename_i he; subst he; exact ⟨hq, h3⟩
      · exact hS.heap.fz q o hq
    · simp only []
      rw [if_neg (fun he => by rw [he, h.fz g hl h1] at hq; cases hq)]; exact hq
    · rw [h1] at hq
      simp only [Option.some.injEq, Value.map.injEq] at hq
      subst hq
      exact ⟨_, by simp only [if_true]; exact h4⟩
    · simp only [] at hq
      split at hq
      · rename_i he; subst he; rw [h4] at hq; cases hq; exact .inr rfl
      · exact .inl hq

theorem evPh_ok (hE : EnvOk env K w0 B) (hcall : ∀ z, CallOk (env.fr z) K w0 B call) (hsel : Region.noSelect all = true) (hlen0 : ρ0.length = H0.length) {Q : Exit → Act → World → Prop} (hQp : ∀ c a w, ¬ Q (.panic c) a w)
    (st : PhStat K.P all sd im tm S Ph) (hes : es = ents all.toList 0)
    (hk : ∀ (N : Nat) (s : St) (ρ : List Nat) (a : Act) (w : World) (listed : Array Bool) (m : Nat), Pre ρ0 ρ → Sim env w0 B ρ s a w → (∃ H', s.H = H0 ++ H') → PhInv env all sd im tm S N B ρ listed a w → (∀ j, N.testBit j = true → Ph.testBit j = true) →
      Left all.size listed m → (tm < s.ts.n → getT s.ts tm = .bad) → (k N s).sat env G → wpAnyH K.P .any all Q (Keeps env w0 B ρ0 H0 true) m listed a w) :
    ∀ (m : Nat) (l : List Nat) (N : Nat) (s : St) (ρ : List Nat) (a : Act) (w : World) (listed : Array Bool), Pre ρ0 ρ → Sim env w0 B ρ s a w → (∃ H', s.H = H0 ++ H') → PhInv env all sd im tm S N B ρ listed a w → (∀ j, N.testBit j = true → Ph.testBit j = true) →
      Left all.size listed m → (tm < s.ts.n → getT s.ts tm = .bad) → (evPh K call why H0 all es S Ph tm k l N s).sat env G → wpAnyH K.P .any all Q (Keeps env w0 B ρ0 H0 true) m listed a w := by
  intro m
  induction m with
  | zero =>
    intro l N s ρ a w listed hp0 hS hH hI hN hL hbad hs
    cases l with
    | nil => exact hk N s ρ a w listed 0 hp0 hS hH hI hN hL hbad hs
    | cons i l =>
      obtain ⟨x, hx, _, hxN, hxP, _⟩ := evPh_cons hs
      subst hes
      obtain ⟨ho, _⟩ := mem_ents hx
      rw [bitAt_eq] at hxN hxP
      obtain ⟨hlt, hxS⟩ := st.ph x.i hxP
      have hun : listed.getD x.i true = false := unl' (by rw [hI.size]; exact hlt) (by rw [hI.bits x.i hlt hxS]; exact hxN)
      obtain ⟨q, hq⟩ := hL.pos hlt hun
      cases hq
  | succ m ih =>
    intro l N s ρ a w listed hp0 hS hH hI hN hL hbad hs
    cases l with
    | nil => exact hk N s ρ a w listed (m + 1) hp0 hS hH hI hN hL hbad hs
    | cons i l =>
      obtain ⟨x, hx, hxr, hxN, hxP, hxd, hs'⟩ := evPh_cons hs
      have hes' := hes
      subst hes
      obtain ⟨ho, hxe⟩ := mem_ents hx
      rw [bitAt_eq] at hxN hxP
      obtain ⟨hlt, hxS⟩ := st.ph x.i hxP
      have hun : listed.getD x.i true = false := unl' (by rw [hI.size]; exact hlt) (by rw [hI.bits x.i hlt hxS]; exact hxN)
      have hra : ∀ e ∈ x.o.after, listed.getD e.on false = true := fun e he => by
        have h1 := readyE_spec hxr (by rw [hxe]; rfl) e he
        obtain ⟨h2, h3⟩ := st.ph _ (hN _ h1)
        rw [hI.bits _ h2 h3]; exact h1
      have hready : x.i ∈ Region.ready .any all listed := mem_ready.2 ⟨hun, x.o, ho, fun e he _ => hra e he⟩
      have hxdn := dstNot_spec hxd
      have hN' : ∀ j, (Nat.lor N (Nat.shiftLeft 1 x.i)).testBit j = true → Ph.testBit j = true := fun j hj => by
        rw [bit_set, Bool.or_eq_true] at hj
        rcases hj with hj | hj
        · exact hN j hj
        · have : x.i = j := by simpa using hj
          rw [← this]; exact hxP
      have hkeep : Keeps env w0 B ρ0 H0 true w := fun _ => by
        obtain ⟨H', hH'⟩ := hH
        exact ⟨ρ, H', hp0, by rw [← hH']; exact hS.heap, hS.below⟩
      have hsame : ∀ g, listed.getD im false = true → a.tmps[tm]? = some (.map (some g)) → w.heap[g]? = w.heap[g]? ∧ ∀ i : Nat, ρ[i]? ≠ some g := fun g hl hg => by
        obtain ⟨g', _, _, h1, _, h3, _⟩ := hI.map hl
        rw [h1] at hg; cases hg
        exact ⟨rfl, h3⟩
      rcases hs' with ⟨v, nd, htk, hnd, hs'⟩ | ⟨hw, hs'⟩
      · obtain ⟨y, hy, hyi⟩ := take_yields hE hlen0 hp0 hS (fun _ => by obtain ⟨H', hH'⟩ := hH; exact ⟨H', by rw [← hH']; exact hS.heap⟩) htk hnd
        refine wpAnyH_take ho hsel (free_of st.well ho hra) (by simpa using hready) (fun c a w hq => absurd hq (hQp c _ _)) hyi hkeep ?_
        exact ih l _ _ ρ _ w _ hp0 (hS.put hy x.o.dst) hH (hI.step st ho hxS hun hra hxdn rfl hsame) hN' (hL.set hlt hun) (bad_putD hxdn hbad) hs'
      · refine wpAnyH_all rfl (List.ne_nil_of_mem hready) (fun j hj => ?_)
        rcases ready_who st hI hN hes' hw hj with rfl | hjS
        · obtain ⟨z, hz1, hz2, hz3, hz4⟩ := freeze hI hS
          have hSz : Sim (env.fr z) w0 B ρ s a w := sim_fr hS hz1 hz4
          have hwant : Region.wanted x.o (yielded all a.tmps) = true := by simp only [Region.wanted, st.well.guard _ _ ho]
          unfold wpOp
          rw [ho]
          simp only [hwant, if_true]
          left
          refine Oper.wp_mono ?_ (wp_puts (evStep_ok (Q := Q) (next := fun a' w' => ∃ s' ρ', Pre ρ ρ' ∧ Sim (env.fr z) w0 B ρ' s' a' w' ∧ (if preH H0 s'.H then evPh K call why H0 all (ents all.toList 0) S Ph tm k l (Nat.lor N (Nat.shiftLeft 1 x.i)) ⟨setT s'.ts tm .bad, s'.H⟩ else .fail (why + 9)).sat env G)
            (envOk_fr hE) (hcall z) hSz (sat_fr.2 hs') (fun s' ρ' a' w' hp hS' hk' => ⟨s', ρ', hp, hS', sat_fr.1 hk'⟩)))
          rintro a' w' ⟨⟨s', ρ', hp, hS', hk'⟩, y, hy⟩
          split at hk'
          · rename_i hpre
            obtain ⟨H', hH'⟩ := preH_eq hpre
            have hSe : Sim env w0 B ρ' s' a' w' := by
              have := sim_fr (z := env.fz) hS' (fun g o hg => by
                have := hS'.heap.fz g o (hz2 g o hg)
                exact this) (fun g o hg => .inl (hz2 g o hg))
              exact this
            have hfz : ∀ g, listed.getD im false = true → a.tmps[tm]? = some (.map (some g)) → w'.heap[g]? = w.heap[g]? ∧ ∀ i : Nat, ρ'[i]? ≠ some g := fun g hl hg => by
              obtain ⟨o, hzo⟩ := hz3 g hl hg
              have h1 := hS'.heap.fz g o hzo
              exact ⟨by rw [h1.1, (hz1 g o hzo).1], h1.2⟩
            refine ⟨fun _ => ⟨ρ', H', hp0.trans hp, by rw [← hH']; exact hSe.heap, hSe.below⟩, ?_⟩
            exact ih l _ _ ρ' a' w' _ (hp0.trans hp) (hSe.bad tm) ⟨H', hH'⟩ (hI.step st ho hxS hun hra hxdn hy hfz) hN' (hL.set hlt hun) (bad_setT _ _) hk'
          · exact hk'.elim
        · have hjun := (mem_ready.1 hj).1
          have hjlt : j < all.size := by rw [← hI.size]; exact (unl hjun).1
          refine side_step st hI hS hbad hj hjS (fun a' w' hI' hS' => ⟨fun _ => ?_, ih (i :: l) N s ρ a' w' _ hp0 hS' hH hI' hN (hL.set hjlt hjun) hbad hs⟩)
          obtain ⟨H', hH'⟩ := hH
          exact ⟨ρ, H', hp0, by rw [← hH']; exact hS'.heap, hS'.below⟩

end
end Go.Sx
