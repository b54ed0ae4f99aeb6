/-
  The symbolic executor is right: regions whose operations have no guards, what is done kept as a number's bits. No condition.
-/
import Derived.Test.YtnlgfccjohhcmaaGreatDoorSxR
namespace Go.Sx
open Go.RowKit

/-- The bits say what is listed. -/
def Bits (N : Nat) (listed : Array Bool) : Prop := ∀ j, listed.getD j false = N.testBit j

theorem Bits.set {N i : Nat} {listed : Array Bool} (h : Bits N listed) (hi : i < listed.size) : Bits (Nat.lor N (Nat.shiftLeft 1 i)) (listed.setIfInBounds i true) := by
  intro j
  rw [bit_set]
  by_cases hij : i = j
  · subst hij; rw [getD_set_self hi]; simp
  · rw [getD_set_ne false hij, h j]; simp [hij]

theorem Bits.zero (n : Nat) : Bits 0 (Array.replicate n false) := by
  intro j
  by_cases h : j < n <;> simp [h]

theorem edge_memB {b : Nat} : ∀ {l : List Edge}, (maskB l).testBit b = true ↔ ∃ e ∈ l, Region.binds .any e = true ∧ e.on = b := by
  intro l
  induction l with
  | nil => constructor
           · intro h; have h : Nat.testBit 0 b = true := h; simp at h
           · rintro ⟨e, he, _⟩; cases he
  | cons x l ih =>
    have e1 : maskB (x :: l) = cond (Region.binds .any x) ((1 <<< x.on) ||| maskB l) (maskB l) := rfl
    rw [e1]
    cases hb : Region.binds .any x with
    | false =>
      simp only [cond_false, ih, List.mem_cons]
      constructor
      · rintro ⟨e, he, h⟩; exact ⟨e, .inr he, h⟩
      · rintro ⟨e, he | he, h1, h2⟩
        · subst he; rw [hb] at h1; cases h1
        · exact ⟨e, he, h1, h2⟩
    | true =>
      simp only [cond_true, Nat.testBit_or, Bool.or_eq_true, ih, List.mem_cons, Nat.shiftLeft_eq, Nat.one_mul, Nat.testBit_two_pow, decide_eq_true_eq]
      constructor
      · rintro (h | ⟨e, he, h⟩)
        · exact ⟨x, .inl rfl, hb, h⟩
        · exact ⟨e, .inr he, h⟩
      · rintro ⟨e, he | he, h1, h2⟩
        · subst he; exact .inl h2
        · exact .inr ⟨e, he, h1, h2⟩

theorem readyB {i : Nat} {o : Oper} {N : Nat} : readyE (mkEntB i o) N = true ↔ ∀ e ∈ o.after, Region.binds .any e = true → N.testBit e.on = true := by
  unfold readyE mkEntB
  simp only [Nat.beq_eq]
  constructor
  · intro h e he hb
    have hm := edge_memB.2 ⟨e, show e ∈ o.after.toList by simpa using he, hb, rfl⟩
    have h2 : (maskB o.after.toList &&& N).testBit e.on = true := by
      show (Nat.land (maskB o.after.toList) N).testBit e.on = true
      rw [h]; exact hm
    rw [Nat.testBit_and, Bool.and_eq_true] at h2
    exact h2.2
  · intro h
    apply Nat.eq_of_testBit_eq
    intro b
    show (maskB o.after.toList &&& N).testBit b = _
    rw [Nat.testBit_and]
    cases hb : (maskB o.after.toList).testBit b with
    | false => rfl
    | true =>
      obtain ⟨e, he, h1, rfl⟩ := edge_memB.1 hb
      rw [h e (by simpa using he) h1]; rfl

theorem entsB_get : ∀ (l : List Oper) (i j : Nat), (entsB l i)[j]? = (l[j]?).map (mkEntB (i + j)) := by
  intro l
  induction l with
  | nil => intro i j; rfl
  | cons o l ih =>
    intro i j
    show (mkEntB i o :: entsB l (i + 1))[j]? = _
    cases j with
    | zero => rfl
    | succ j => rw [List.getElem?_cons_succ, ih, List.getElem?_cons_succ]; congr 2; omega

theorem mem_entsB {ops : Array Oper} {x : Ent} (h : x ∈ entsB ops.toList 0) : ops[x.i]? = some x.o ∧ x = mkEntB x.i x.o := by
  obtain ⟨j, hj⟩ := List.mem_iff_getElem?.1 h
  rw [entsB_get] at hj
  cases ho : ops.toList[j]? with
  | none => rw [ho] at hj; cases hj
  | some o =>
    rw [ho] at hj
    simp only [Option.map_some, Option.some.injEq, Nat.zero_add] at hj
    subst hj
    exact ⟨show ops[j]? = some o by simpa using ho, rfl⟩

theorem entsB_mem {ops : Array Oper} {i : Nat} {o : Oper} (h : ops[i]? = some o) : mkEntB i o ∈ entsB ops.toList 0 := by
  refine List.mem_iff_getElem?.2 ⟨i, ?_⟩
  rw [entsB_get, Nat.zero_add]
  have : ops.toList[i]? = some o := by simpa using h
  rw [this]; rfl

structure WellB (all : Array Oper) : Prop where
  guard : ∀ (i : Nat) (o : Oper), all[i]? = some o → o.guard = none
  pair : ∀ (i j : Nat) (oi oj : Oper) (d : Tmp), all[i]? = some oi → all[j]? = some oj → i ≠ j → oi.dst = some d → oj.dst ≠ some d ∧ (Operand.tmp d ∈ oj.op.operands.toList → ∃ e ∈ oj.after, Region.binds .any e = true ∧ e.on = i)

theorem wellB_of {all : Array Oper} (h : wellB (entsB all.toList 0) = true) : WellB all := by
  unfold wellB at h
  rw [List.all_eq_true] at h
  have hx : ∀ (i : Nat) (o : Oper), all[i]? = some o → noGuard (mkEntB i o) = true ∧ ∀ (j : Nat) (oj : Oper), all[j]? = some oj → pairOk (mkEntB j oj) (mkEntB i o) = true := fun i o ho => by
    have := h _ (entsB_mem ho)
    rw [Bool.and_eq_true, List.all_eq_true] at this
    exact ⟨this.1, fun j oj hj => this.2 _ (entsB_mem hj)⟩
  refine ⟨fun i o ho => ?_, fun i j oi oj d hi hj hne hd => ?_⟩
  · have := (hx i o ho).1
    unfold noGuard at this
    cases hg : o.guard with
    | none => rfl
    | some g => simp only [mkEntB, hg] at this; cases this
  · have := (hx j oj hj).2 i oi hi
    unfold pairOk at this
    simp only [mkEntB, hd, Bool.or_eq_true, Bool.and_eq_true, Nat.beq_eq, hne, false_or] at this
    obtain ⟨h1, h2⟩ := this
    refine ⟨fun he => ?_, fun hm => ?_⟩
    · rw [he] at h1; simp at h1
    · have h3 := tmpsOf_bit hm
      rw [bitAt_eq, bitAt_eq, h3] at h2
      simp only [Bool.not_true, Bool.false_eq_true, false_or] at h2
      obtain ⟨e, he, hb⟩ := edge_memB.1 h2
      exact ⟨e, by simpa using he, hb⟩

theorem free_ofB {all : Array Oper} (hw : WellB all) {listed : Array Bool} {i : Nat} {oi : Oper} (hi : all[i]? = some oi) (hr : ∀ e ∈ oi.after, Region.binds .any e = true → listed.getD e.on false = true) : Region.free .any all listed i = true := by
  unfold Region.free
  rw [hi]
  simp only [List.all_eq_true, List.mem_range]
  intro j hj
  by_cases hji : j = i
  · subst hji; simp
  · cases hl : listed.getD j true with
    | true => simp
    | false =>
      have hoj : all[j]? = some all[j] := Array.getElem?_eq_getElem hj
      generalize all[j] = oj at hoj
      rw [hoj]
      by_cases hex : ∃ e ∈ oj.after, Region.binds .any e = true ∧ e.on = i
      · obtain ⟨e, he, heb, hei⟩ := hex
        have : (oj.after.any fun e => Region.binds .any e && e.on == i) = true := by
          rw [Array.any_eq_true']
          exact ⟨e, he, by simp [heb, hei]⟩
        simp [this]
      · have hap : oi.apart all oj = true := by
          unfold Oper.apart
          have gi := hw.guard i oi hi
          have gj := hw.guard j oj hoj
          rw [Bool.and_eq_true]
          constructor
          · cases hd : oi.dst with
            | none => rfl
            | some d =>
              obtain ⟨h1, h2⟩ := hw.pair i j oi oj d hi hoj (Ne.symm hji) hd
              have h3 : d ∉ oj.looksAt all := fun hm => hex (h2 ((looks_eq gj).1 hm))
              simp [h1, h3]
          · cases hd : oj.dst with
            | none => rfl
            | some d =>
              obtain ⟨h1, h2⟩ := hw.pair j i oj oi d hoj hi hji hd
              have h3 : d ∉ oi.looksAt all := fun hm => by
                obtain ⟨e, he, heb, hej⟩ := h2 ((looks_eq gi).1 hm)
                have h4 := hr e he heb
                rw [hej] at h4
                rcases Nat.lt_or_ge j listed.size with h' | h'
                · simp [h'] at hl h4; rw [hl] at h4; cases h4
                · simp [Array.getElem?_eq_none h'] at h4
              simp [h3]
        simp [hap]

theorem takeQ_ok {K : Ctx} {ld : Bool} {H0 : List Blk} {all : Array Oper} {s : St} {x : Ent} {v : C} {nd : E} : ∀ {l : List Ent}, takeQ K ld H0 all s l = some (x, v, nd) → x ∈ l ∧ evTake K ld H0 all x.o s = some (v, nd) := by
  intro l
  induction l with
  | nil => intro h; cases h
  | cons y l ih =>
    intro h
    simp only [takeQ] at h
    split at h
    · rename_i u hu
      simp only [Option.some.injEq, Prod.mk.injEq] at h
      obtain ⟨rfl, rfl⟩ := h
      exact ⟨by simp, hu⟩
    · obtain ⟨h1, h2⟩ := ih h; exact ⟨by simp [h1], h2⟩

theorem allE_sat {env : Env} {α : Type} {f : Ent → T α} {G : α → Prop} : ∀ {l : List Ent}, (allE f l).sat env G → ∀ x ∈ l, (f x).sat env G := by
  intro l
  induction l with
  | nil => intro _ x hx; cases hx
  | cons y l ih =>
    intro h x hx
    cases l with
    | nil => simp at hx; subst hx; exact h
    | cons z l =>
      obtain ⟨h1, h2⟩ := h
      rcases List.mem_cons.1 hx with rfl | hx
      · exact h1
      · exact ih h2 x hx

/-- Who may come up. -/
theorem memB {all : Array Oper} {N : Nat} {listed : Array Bool} (hsz : listed.size = all.size) (hb : Bits N listed) {x : Ent} (hx : x ∈ readyQ (entsB all.toList 0) N) : all[x.i]? = some x.o ∧ x.i < listed.size ∧ x.i ∈ Region.ready .any all listed ∧ (∀ e ∈ x.o.after, Region.binds .any e = true → listed.getD e.on false = true) := by
  unfold readyQ at hx
  rw [List.mem_filter, Bool.and_eq_true] at hx
  obtain ⟨h1, h2, h3⟩ := hx
  obtain ⟨ho, he⟩ := mem_entsB h1
  have hlt : x.i < listed.size := by rw [hsz]; exact (Array.getElem?_eq_some_iff.1 ho).1
  rw [he] at h3
  have h3 := readyB.1 h3
  have hbit : N.testBit x.i = false := by rw [bitAt_eq] at h2; simpa using h2
  have hr : ∀ e ∈ x.o.after, Region.binds .any e = true → listed.getD e.on false = true := fun e he hbb => by rw [hb]; exact h3 e he hbb
  exact ⟨ho, hlt, mem_ready.2 ⟨unl' hlt (by rw [hb]; exact hbit), x.o, ho, hr⟩, hr⟩

theorem convB {all : Array Oper} {N : Nat} {listed : Array Bool} (_hsz : listed.size = all.size) (hb : Bits N listed) {i : Nat} (hi : i ∈ Region.ready .any all listed) : ∃ x ∈ readyQ (entsB all.toList 0) N, x.i = i := by
  obtain ⟨hun, o, ho, hr⟩ := mem_ready.1 hi
  refine ⟨mkEntB i o, ?_, rfl⟩
  unfold readyQ
  rw [List.mem_filter, Bool.and_eq_true]
  refine ⟨entsB_mem ho, ?_, readyB.2 fun e he hbb => by rw [← hb]; exact hr e he hbb⟩
  have : N.testBit i = false := by rw [← hb]; exact (unl hun).2
  rw [bitAt_eq]; simp [mkEntB, this]

theorem doneB {all : Array Oper} {N : Nat} {listed : Array Bool} (hsz : listed.size = all.size) (hb : Bits N listed) (h : readyQ (entsB all.toList 0) N = []) : Region.ready .any all listed = [] := by
  cases hr : Region.ready .any all listed with
  | nil => rfl
  | cons i l =>
    obtain ⟨x, hx, _⟩ := convB hsz hb (i := i) (by rw [hr]; simp)
    rw [h] at hx; cases hx

section
variable {env : Env} {w0 : World} {B : Nat} {K : Ctx}

theorem evQ_ok (hE : EnvOk env K w0 B) {call : FuncId → List C → List Blk → T (C × List Blk)} (hcall : CallOk env K w0 B call) {why : Nat} {ld : Bool} {mk : List Nat} {H0 : List Blk} {ρ0 : List Nat} {all : Array Oper} (hsel : Region.noSelect all = true) (hwell : WellB all) (hlen0 : ρ0.length = H0.length) {G : St → Prop} {Q : Exit → Act → World → Prop}
    (hQp : ∀ c a w, ¬ Q (.panic c) a w) :
    ∀ (m N : Nat) (listed : Array Bool) (s : St) (ρ : List Nat) (a : Act) (w : World), listed.size = all.size → Bits N listed → Pre ρ0 ρ → Sim env w0 B ρ s a w → (ld = true → ∃ H', HeapOk env B ρ (H0 ++ H') w) → (evQ K call why ld mk H0 all (entsB all.toList 0) m N s).sat env G →
      (∀ s' ρ' a' w', Pre ρ0 ρ' → Sim env w0 B ρ' s' a' w' → G s' → Q .normal a' w') → wpAnyH K.P .any all Q (Keeps env w0 B ρ0 H0 ld) m listed a w := by
  intro m
  induction m with
  | zero =>
    intro N listed s ρ a w hsz hb hp0 h hld hs hQ
    simp only [evQ] at hs
    split at hs
    · rename_i hr; exact wpAnyH_done (doneB hsz hb hr) (hQ s ρ a w hp0 h hs) 0
    · exact hs.elim
  | succ m ih =>
    intro N listed s ρ a w hsz hb hp0 h hld hs hQ
    simp only [evQ] at hs
    split at hs
    · rename_i hr; exact wpAnyH_done (doneB hsz hb hr) (hQ s ρ a w hp0 h hs) _
    · rename_i r rs hr
      have hkeep : Keeps env w0 B ρ0 H0 ld w := fun hl => by
        obtain ⟨H', hH'⟩ := hld hl
        exact ⟨ρ, H', hp0, hH', h.below⟩
      split at hs
      · rename_i x v nd htq
        obtain ⟨hmem, htk⟩ := takeQ_ok htq
        rw [← hr] at hmem
        obtain ⟨ho, hlt, hrd, hpre⟩ := memB hsz hb hmem
        obtain ⟨hnd, hs⟩ := needT_sat hs
        rw [forceN_eq] at hs
        obtain ⟨y, hy, hyi⟩ := take_yields hE hlen0 hp0 h hld htk hnd
        refine wpAnyH_take ho hsel (free_ofB hwell ho hpre) (by simpa using hrd) (fun c a w hq => absurd hq (hQp c _ _)) hyi hkeep ?_
        exact ih _ _ _ ρ _ w (by simpa using hsz) (hb.set hlt) hp0 (h.put hy x.o.dst) hld hs hQ
      · obtain ⟨_, _, hrd0, _⟩ := memB hsz hb (x := r) (by rw [hr]; simp)
        refine wpAnyH_all rfl (List.ne_nil_of_mem hrd0) (fun i hi => ?_)
        obtain ⟨x, hx, rfl⟩ := convB hsz hb hi
        obtain ⟨ho, hlt, _, _⟩ := memB hsz hb hx
        rw [hr] at hx
        have hsi := allE_sat hs x hx
        have hwant : Region.wanted x.o (yielded all a.tmps) = true := by simp only [Region.wanted, hwell.guard _ _ ho]
        unfold wpOp
        rw [ho]
        simp only [hwant, if_true]
        refine .inl (evStep_ok hE hcall h hsi (fun s' ρ' a' w' hp hS hk => ?_))
        split at hk
        · rename_i hc
          rw [forceN_eq] at hk
          have hld' : ld = true → ∃ H', HeapOk env B ρ' (H0 ++ H') w' := fun hl => by
            have : preH H0 (wkH mk s'.H) = true := by simpa [hl] using hc
            obtain ⟨H', hH'⟩ := preH_eq this
            exact ⟨H', by rw [← hH']; exact wkH_ok hS.heap⟩
          refine ⟨fun hl => ?_, ih _ _ s' ρ' a' w' (by simpa using hsz) (hb.set hlt) (hp0.trans hp) hS hld' hk hQ⟩
          obtain ⟨H', hH'⟩ := hld' hl
          exact ⟨ρ', H', hp0.trans hp, hH', hS.below⟩
        · exact hk.elim

/-! ### What comes after all loads -/

/-- Whatever order is picked, and 'S' holds behind every operation but those of 'fin'; behind one of these nothing is asked any more. -/
def wpAnyF (P : Program) (md : Region.Mode) (ops : Array Oper) (Q : Exit → Act → World → Prop) (S : World → Prop) (fin : Nat → Bool) : Nat → Array Bool → Act → World → Prop
  | 0, listed, a, w => Region.ready md ops listed = [] ∧ Q .normal a w
  | fuel + 1, listed, a, w =>
    (Region.ready md ops listed = [] → Q .normal a w) ∧
    ∀ i ∈ Region.ready md ops listed, wpOp P ops Q i (fun a' w' => if fin i = true then wpAnyH P md ops Q (fun _ => True) fuel (listed.setIfInBounds i true) a' w'
      else S w' ∧ wpAnyF P md ops Q S fin fuel (listed.setIfInBounds i true) a' w') a w

theorem wpAny_of_F {P : Program} {md : Region.Mode} {ops : Array Oper} {Q : Exit → Act → World → Prop} {S : World → Prop} {fin : Nat → Bool} : ∀ (fuel : Nat) (listed : Array Bool) (a : Act) (w : World), wpAnyF P md ops Q S fin fuel listed a w → wpAny P md ops Q fuel listed a w
  | 0, _, _, _, h => h
  | fuel + 1, _, _, _, h => ⟨h.1, fun i hi => wpOp_mono (fun a' w' h' => by
      split at h'
      · exact wpAny_of_held fuel _ a' w' h'
      · exact wpAny_of_F fuel _ a' w' h'.2) (h.2 i hi)⟩

/-- What is listed is closed: what it comes after is listed. -/
def Closed (md : Region.Mode) (ops : Array Oper) (listed : Array Bool) : Prop :=
  ∀ (k : Nat) (ok : Oper), ops[k]? = some ok → listed.getD k false = true → ∀ e ∈ ok.after, Region.binds md e = true → listed.getD e.on false = true

theorem Closed.set {md : Region.Mode} {ops : Array Oper} {listed : Array Bool} (h : Closed md ops listed) {j : Nat} (hj : j ∈ Region.ready md ops listed) : Closed md ops (listed.setIfInBounds j true) := by
  obtain ⟨_, oj, hoj, hall⟩ := mem_ready.1 hj
  intro k ok hk hl e he hb
  apply getD_set_true
  by_cases hjk : j = k
  · subst hjk; rw [hoj] at hk; cases hk; exact hall e he hb
  · rw [getD_set_ne false hjk] at hl; exact h k ok hk hl e he hb

/-- An operation may be taken first: a load for which all of 'fin' wait, or what yields its value in whatever world. -/
theorem wpAnyF_first {P : Program} {md : Region.Mode} {ops : Array Oper} {Q : Exit → Act → World → Prop} {S : World → Prop} {fin : Nat → Bool} {i : Nat} {oi : Oper} {v : Value} (hi : ops[i]? = some oi) (hsel : ∀ (j : Nat) (o : Oper) cs b, ops[j]? = some o → o.op ≠ .select cs b)
    (hQ : ∀ c a w, Q (.panic c) (a.put oi.dst v) w → Q (.panic c) a w) (hfi : fin i = false) :
    ∀ (fuel : Nat) (listed : Array Bool) (a : Act) (w : World),
      (∀ j oj, ops[j]? = some oj → j ≠ i → listed.getD j true = false → (∀ e ∈ oj.after, Region.binds md e = true → e.on ≠ i) → oi.apart ops oj = true) →
      ((∀ (l : Array Bool) j oj, Closed md ops l → ops[j]? = some oj → fin j = true → (∀ e ∈ oj.after, Region.binds md e = true → l.getD e.on false = true) → l.getD i false = true) ∨ YieldsIf P ops (fun _ => True) oi v a) → Closed md ops listed →
      i ∈ Region.ready md ops listed → YieldsIf P ops S oi v a → S w →
      wpAnyF P md ops Q S fin fuel (listed.setIfInBounds i true) (a.put oi.dst v) w → wpAnyF P md ops Q S fin (fuel + 1) listed a w := by
  intro fuel
  induction fuel with
  | zero =>
    intro listed a w hfree hfin hcl hr hy hS H
    refine ⟨fun h => (by rw [h] at hr; cases hr), fun j hj => ?_⟩
    by_cases hji : j = i
    · subst hji
      refine hy.wpOp hi hS ?_
      rw [if_neg (by rw [hfi]; simp)]
      exact ⟨hS, H⟩
    · have := ready_mono hj hji
      rw [H.1] at this
      cases this
  | succ fuel ih =>
    intro listed a w hfree hfin hcl hr hy hS H
    refine ⟨fun h => (by rw [h] at hr; cases hr), fun j hj => ?_⟩
    by_cases hji : j = i
    · subst hji
      refine hy.wpOp hi hS ?_
      rw [if_neg (by rw [hfi]; simp)]
      exact ⟨hS, H⟩
    · have h1 := H.2 j (ready_mono hj hji)
      obtain ⟨hjun, oj, hoj, hall⟩ := mem_ready.1 hj
      have hnot : ∀ e ∈ oj.after, Region.binds md e = true → e.on ≠ i := fun e he hb heq => by
        have h1 := hall e he hb
        have h0 := (mem_ready.1 hr).1
        rw [heq] at h1
        rcases Nat.lt_or_ge i listed.size with h' | h'
        · simp [h'] at h0 h1; rw [h0] at h1; cases h1
        · simp [Array.getElem?_eq_none h'] at h1
      have hfree' : ∀ k ok, ops[k]? = some ok → k ≠ i → (listed.setIfInBounds j true).getD k true = false →
          (∀ e ∈ ok.after, Region.binds md e = true → e.on ≠ i) → oi.apart ops ok = true := fun k ok hk hki hun hno => by
        refine hfree k ok hk hki ?_ hno
        by_cases hjk : j = k
        · subst hjk; exact hjun
        · rw [getD_set_ne true hjk] at hun; exact hun
      cases hfj : fin j with
      | false =>
        simp only [hfj, Bool.false_eq_true, if_false] at h1 ⊢
        rcases hfin with hfin | hyT
        · have h2 := wpOp_putIf hoj (hfree j oj hoj hji hjun hnot) (fun cs b => hsel i oi cs b hi) (fun cs b => hsel j oj cs b hoj) hQ hy h1
          refine wpOp_mono (fun a' w' h3 => ⟨h3.2.1, ih (listed.setIfInBounds j true) a' w' hfree' (.inl hfin) (hcl.set hj) (ready_mono hr (Ne.symm hji)) h3.1 h3.2.1 ?_⟩) h2
          rw [Array.setIfInBounds_comm _ _ hji]; exact h3.2.2
        · have h2 := wpOp_putIf hoj (hfree j oj hoj hji hjun hnot) (fun cs b => hsel i oi cs b hi) (fun cs b => hsel j oj cs b hoj) hQ hyT h1
          refine wpOp_mono (fun a' w' h3 => ⟨h3.2.1, ih (listed.setIfInBounds j true) a' w' hfree' (.inr h3.1) (hcl.set hj) (ready_mono hr (Ne.symm hji)) (h3.1.imp (fun ⟨x, y⟩ => ⟨x, fun w _ => y w trivial⟩) id) h3.2.1 ?_⟩) h2
          rw [Array.setIfInBounds_comm _ _ hji]; exact h3.2.2
      | true =>
        simp only [hfj, if_true] at h1 ⊢
        rcases hfin with hfin | hyT
        · have h5 := hfin listed j oj hcl hoj hfj hall
          have h0 := (mem_ready.1 hr).1
          rw [(unl h0).2] at h5; cases h5
        · have h2 := wpOp_putIf hoj (hfree j oj hoj hji hjun hnot) (fun cs b => hsel i oi cs b hi) (fun cs b => hsel j oj cs b hoj) hQ hyT h1
          refine wpOp_mono (fun a' w' h3 => ?_) h2
          refine wpAnyH_first hi hsel hQ fuel (listed.setIfInBounds j true) a' w' hfree' (ready_mono hr (Ne.symm hji)) h3.1 trivial ?_
          rw [Array.setIfInBounds_comm _ _ hji]
          exact h3.2

theorem wpAnyF_done {P : Program} {md : Region.Mode} {ops : Array Oper} {Q : Exit → Act → World → Prop} {S : World → Prop} {fin : Nat → Bool} {listed : Array Bool} {a : Act} {w : World} (hr : Region.ready md ops listed = []) (h : Q .normal a w) :
    ∀ fuel, wpAnyF P md ops Q S fin fuel listed a w
  | 0 => ⟨hr, h⟩
  | _ + 1 => ⟨fun _ => h, by rw [hr]; simp⟩

theorem held_true {P : Program} {md : Region.Mode} {ops : Array Oper} {Q : Exit → Act → World → Prop} {S : World → Prop} : ∀ (fuel : Nat) (listed : Array Bool) (a : Act) (w : World), wpAnyH P md ops Q S fuel listed a w → wpAnyH P md ops Q (fun _ => True) fuel listed a w
  | 0, _, _, _, h => h
  | fuel + 1, _, _, _, h => ⟨h.1, fun i hi => wpOp_mono (fun a' w' h' => ⟨trivial, held_true fuel _ a' w' h'.2⟩) (h.2 i hi)⟩

theorem ldMask_bit : ∀ {l : List Ent} {x : Ent}, x ∈ l → isLd x.o.op = true → (ldMask l).testBit x.i = true := by
  intro l
  induction l with
  | nil => intro x hx; cases hx
  | cons y l ih =>
    intro x hx hl
    have e1 : ldMask (y :: l) = cond (isLd y.o.op) ((1 <<< y.i) ||| ldMask l) (ldMask l) := rfl
    rw [e1]
    rcases List.mem_cons.1 hx with rfl | hx
    · rw [hl, cond_true, Nat.testBit_or, Nat.shiftLeft_eq, Nat.one_mul, Nat.testBit_two_pow]; simp
    · have := ih hx hl
      cases isLd y.o.op with
      | true => rw [cond_true, Nat.testBit_or, this]; simp
      | false => exact this

theorem take_pure (hE : EnvOk env K w0 B) {ρ : List Nat} {a : Act} {w : World} {s : St} {H0 : List Blk} {all : Array Oper} {o : Oper} {v : C} {nd : E} (hg : o.guard = none) (hl : isLd o.op = false) (h : Sim env w0 B ρ s a w) (htk : evTake K true H0 all o s = some (v, nd)) (hnd : nd.tt env = true) :
    ∃ x, v.r env ρ [x] ∧ YieldsIf K.P all (fun _ => True) o x a := by
  unfold evTake at htk
  have he : evGuard all s.ts o = .known true := by unfold evGuard; rw [hg]
  rw [he] at htk
  simp only [hl, Bool.false_eq_true, if_false] at htk
  obtain ⟨x, hx, hrun⟩ := evOpR_pure hE h.ts hl htk hnd
  exact ⟨x, hx, .inl ⟨by simp [Region.wanted, hg], fun w1 _ => hrun w1⟩⟩

theorem lookM_mem {i : Nat} : ∀ {CL : List (Nat × Nat)}, lookM CL i = 0 ∨ (i, lookM CL i) ∈ CL := by
  intro CL
  induction CL with
  | nil => exact .inl rfl
  | cons p CL ih =>
    have e1 : lookM (p :: CL) i = cond (Nat.beq p.1 i) p.2 (lookM CL i) := rfl
    rw [e1]
    cases hb : Nat.beq p.1 i with
    | true => have := Nat.eq_of_beq_eq_true hb; subst this; exact .inr (by simp)
    | false => rcases ih with h | h
               · exact .inl h
               · exact .inr (by simp only [cond_false]; exact List.mem_cons_of_mem _ h)

/-- What a list of masks says. -/
def ClOk (all : Array Oper) (CL : List (Nat × Nat)) : Prop :=
  ∀ p ∈ CL, ∀ (l : Array Bool) (o : Oper), Closed .any all l → all[p.1]? = some o → (∀ e ∈ o.after, Region.binds .any e = true → l.getD e.on false = true) → ∀ b, p.2.testBit b = true → l.getD b false = true

theorem clM_ok {all : Array Oper} {m : Nat} {l : Array Bool} (hl : Closed .any all l) (hm : ∀ b, m.testBit b = true → l.getD b false = true) : ∀ {acc : List (Nat × Nat)}, ClOk all acc → (∀ p ∈ acc, ∃ o, all[p.1]? = some o) → ∀ b, (clM m acc).testBit b = true → l.getD b false = true := by
  intro acc
  induction acc with
  | nil => intro _ _ b hb; exact hm b hb
  | cons p acc ih =>
    intro hok hex b hb
    have e1 : clM m (p :: acc) = cond (bitAt m p.1) (p.2 ||| clM m acc) (clM m acc) := rfl
    rw [e1] at hb
    have ih' := ih (fun q hq => hok q (List.mem_cons_of_mem _ hq)) (fun q hq => hex q (List.mem_cons_of_mem _ hq))
    cases hp : bitAt m p.1 with
    | false => rw [hp] at hb; exact ih' b hb
    | true =>
      rw [hp, cond_true, Nat.testBit_or, Bool.or_eq_true] at hb
      rcases hb with hb | hb
      · rw [bitAt_eq] at hp
        obtain ⟨o, ho⟩ := hex p (by simp)
        exact hok p (by simp) l o hl ho (fun e he hbb => hl p.1 o ho (hm _ hp) e he hbb) b hb
      · exact ih' b hb

theorem clL_ok {all : Array Oper} : ∀ {es : List Ent} {acc : List (Nat × Nat)}, (∀ x ∈ es, all[x.i]? = some x.o ∧ x = mkEntB x.i x.o) → ClOk all acc → (∀ p ∈ acc, ∃ o, all[p.1]? = some o) → ClOk all (clL es acc) := by
  intro es
  induction es with
  | nil => intro acc _ h _; exact h
  | cons x es ih =>
    intro acc hes hok hex
    have e1 : clL (x :: es) acc = forceN (fun M => clL es ((x.i, M) :: acc)) (clM x.m acc) := rfl
    rw [e1, forceN_eq]
    obtain ⟨ho, hx⟩ := hes x (by simp)
    refine ih (fun y hy => hes y (List.mem_cons_of_mem _ hy)) (fun p hp => ?_) (fun p hp => ?_)
    · rcases List.mem_cons.1 hp with rfl | hp
      · intro l o hl ho' hpre b hb
        simp only [] at ho' hb
        rw [ho] at ho'; cases ho'
        refine clM_ok hl (fun b hb => ?_) hok hex b hb
        rw [hx] at hb
        obtain ⟨e, he, h1, rfl⟩ := edge_memB.1 hb
        exact hpre e (by simpa using he) h1
      · exact hok p hp
    · rcases List.mem_cons.1 hp with rfl | hp
      · exact ⟨_, ho⟩
      · exact hex p hp

/-- What a number's entry says of 'fin'. -/
noncomputable def finOf (all : Array Oper) (j : Nat) : Bool :=
  match all[j]? with
  | some o => finE (clL (entsB all.toList 0) []) (ldMask (entsB all.toList 0)) (mkEntB j o)
  | none => false

theorem evF_ok (hE : EnvOk env K w0 B) {call : FuncId → List C → List Blk → T (C × List Blk)} (hcall : CallOk env K w0 B call) {why : Nat} {mk : List Nat} {H0 : List Blk} {ρ0 : List Nat} {all : Array Oper} (hsel : Region.noSelect all = true) (hwell : WellB all) (hlen0 : ρ0.length = H0.length) {G : St → Prop} {Q : Exit → Act → World → Prop}
    (hQp : ∀ c a w, ¬ Q (.panic c) a w) :
    ∀ (m N : Nat) (listed : Array Bool) (s : St) (ρ : List Nat) (a : Act) (w : World), listed.size = all.size → Bits N listed → Closed .any all listed → Pre ρ0 ρ → Sim env w0 B ρ s a w → (∃ H', HeapOk env B ρ (H0 ++ H') w) → (evF K call why mk H0 all (entsB all.toList 0) (clL (entsB all.toList 0) []) (ldMask (entsB all.toList 0)) m N s).sat env G →
      (∀ s' ρ' a' w', Pre ρ0 ρ' → Sim env w0 B ρ' s' a' w' → G s' → Q .normal a' w') → wpAnyF K.P .any all Q (Keeps env w0 B ρ0 H0 true) (finOf all) m listed a w := by
  intro m
  induction m with
  | zero =>
    intro N listed s ρ a w hsz hb hcl hp0 h hld hs hQ
    simp only [evF] at hs
    split at hs
    · rename_i hr; exact wpAnyF_done (doneB hsz hb hr) (hQ s ρ a w hp0 h hs) 0
    · exact hs.elim
  | succ m ih =>
    intro N listed s ρ a w hsz hb hcl hp0 h hld hs hQ
    simp only [evF] at hs
    split at hs
    · rename_i hr; exact wpAnyF_done (doneB hsz hb hr) (hQ s ρ a w hp0 h hs) _
    · rename_i r rs hr
      have hkeep : Keeps env w0 B ρ0 H0 true w := fun _ => by
        obtain ⟨H', hH'⟩ := hld
        exact ⟨ρ, H', hp0, hH', h.below⟩
      have fin_eq : ∀ {x : Ent}, x ∈ readyQ (entsB all.toList 0) N → finOf all x.i = finE (clL (entsB all.toList 0) []) (ldMask (entsB all.toList 0)) x := fun {x} hx => by
        have hx1 : x ∈ entsB all.toList 0 := by unfold readyQ at hx; exact (List.mem_filter.1 hx).1
        obtain ⟨ho, he⟩ := mem_entsB hx1
        unfold finOf
        rw [ho]
        simp only [← he]
      split at hs
      · rename_i x v nd htq
        obtain ⟨hmem, htk⟩ := takeQ_ok htq
        rw [← hr] at hmem
        obtain ⟨ho, hlt, hrd, hpre⟩ := memB hsz hb hmem
        split at hs
        · exact hs.elim
        · rename_i hnf
          obtain ⟨hnd, hs⟩ := needT_sat hs
          rw [forceN_eq] at hs
          have hfi : finOf all x.i = false := by rw [fin_eq hmem]; simpa using hnf
          have hfree := Region.free_spec ho (free_ofB hwell ho hpre)
          cases hl : isLd x.o.op with
          | true =>
            obtain ⟨y, hy, hyi⟩ := take_yields hE hlen0 hp0 h (fun _ => hld) htk hnd
            refine wpAnyF_first ho (Region.noSelect_spec hsel) (fun c a w hq => absurd hq (hQp c _ _)) hfi m listed a w hfree (.inl fun l j oj hlc hoj hfj hpj => ?_) hcl hrd hyi hkeep (ih _ _ _ ρ _ w (by simpa using hsz) (hb.set hlt) (hcl.set hrd) hp0 (h.put hy x.o.dst) hld hs hQ)
            unfold finOf at hfj
            rw [hoj] at hfj
            have hfj : finE (clL (entsB all.toList 0) []) (ldMask (entsB all.toList 0)) (mkEntB j oj) = true := by simpa using hfj
            unfold finE at hfj
            rw [Bool.and_eq_true] at hfj
            have hm := Nat.eq_of_beq_eq_true hfj.2
            have hx1 : x ∈ entsB all.toList 0 := by unfold readyQ at hmem; exact (List.mem_filter.1 hmem).1
            have hbit := ldMask_bit hx1 hl
            rw [← hm] at hbit
            have hbit' : (lookM (clL (entsB all.toList 0) []) j &&& ldMask (entsB all.toList 0)).testBit x.i = true := hbit
            rw [Nat.testBit_and, Bool.and_eq_true] at hbit'
            rcases lookM_mem (i := j) (CL := clL (entsB all.toList 0) []) with h0 | hmem'
            · rw [h0] at hbit'; simp at hbit'
            · exact clL_ok (fun x hx => mem_entsB hx) (by intro p hp; cases hp) (by intro p hp; cases hp) _ hmem' l oj hlc hoj hpj x.i hbit'.1
          | false =>
            obtain ⟨y, hy, hyi⟩ := take_pure hE (hwell.guard _ _ ho) hl h htk hnd
            exact wpAnyF_first ho (Region.noSelect_spec hsel) (fun c a w hq => absurd hq (hQp c _ _)) hfi m listed a w hfree (.inr hyi) hcl hrd (hyi.imp (fun ⟨x, y⟩ => ⟨x, fun w _ => y w trivial⟩) id) hkeep (ih _ _ _ ρ _ w (by simpa using hsz) (hb.set hlt) (hcl.set hrd) hp0 (h.put hy x.o.dst) hld hs hQ)
      · obtain ⟨_, _, hrd0, _⟩ := memB hsz hb (x := r) (by rw [hr]; simp)
        refine ⟨fun h0 => absurd h0 (List.ne_nil_of_mem hrd0), fun i hi => ?_⟩
        obtain ⟨x, hx, rfl⟩ := convB hsz hb hi
        obtain ⟨ho, hlt, hrdx, _⟩ := memB hsz hb hx
        have hfe := fin_eq hx
        rw [hr] at hx
        have hsi := allE_sat hs x hx
        have hwant : Region.wanted x.o (yielded all a.tmps) = true := by simp only [Region.wanted, hwell.guard _ _ ho]
        unfold wpOp
        rw [ho]
        simp only [hwant, if_true]
        refine .inl (evStep_ok hE hcall h hsi (fun s' ρ' a' w' hp hS hk => ?_))
        split at hk
        · rename_i hc
          rw [forceN_eq] at hk
          rw [if_pos (by rw [hfe]; simpa using hc)]
          exact held_true _ _ _ _ (evQ_ok hE hcall hsel hwell hlen0 hQp m _ _ s' ρ' a' w' (by simpa using hsz) (hb.set hlt) (hp0.trans hp) hS (fun h => by cases h) hk hQ)
        · rename_i hc
          rw [if_neg (by rw [hfe]; simpa using hc)]
          split at hk
          · rename_i hpre
            rw [forceN_eq] at hk
            have hld' : ∃ H', HeapOk env B ρ' (H0 ++ H') w' := by
              obtain ⟨H', hH'⟩ := preH_eq hpre
              exact ⟨H', by rw [← hH']; exact wkH_ok hS.heap⟩
            refine ⟨fun _ => ?_, ih _ _ s' ρ' a' w' (by simpa using hsz) (hb.set hlt) (hcl.set hrdx) (hp0.trans hp) hS hld' hk hQ⟩
            obtain ⟨H', hH'⟩ := hld'
            exact ⟨ρ', H', hp0.trans hp, hH', hS.below⟩
          · exact hk.elim

end
end Go.Sx
