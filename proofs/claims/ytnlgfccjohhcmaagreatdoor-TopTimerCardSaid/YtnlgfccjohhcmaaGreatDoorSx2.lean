/-
  The values of the symbolic executor, and how they stand for the model's values. No condition.
-/
import Derived.Test.YtnlgfccjohhcmaaGreatDoorSx1
namespace Go.Sx

/-- A value. 'bad': nothing is known. 'cons', 'nil': lists of values. 'ptr', 'sl', 'map': into a block of the run's own, by its place in the list of blocks ('sl' with 0 as its last: how far it reaches is not known). 'such p': a slice of which the environment says something; 'such 0', in a block: a queue. -/
inductive C where
  | bad
  | int (k : IntKind) (e : E)
  | bool (e : E)
  | ptr (b o : Nat)
  | old (a : Addr)
  | osl (i : Nat)
  | optr (i : Nat) (e : E) (size off : Nat)
  | nilptr
  | nilif
  | nilfn
  | nilmap
  | nilslice
  | str (s : ByteArray)
  | sl (b o n c : Nat)
  | map (b : Nat)
  | fn (f : Fn) (first cap : C)
  | iface (t : TypeId) (v : C)
  | agg (l : C)
  | tup (l : C)
  | cons (a b : C)
  | nil
  | such (p : Nat)

def C.undef : C := .tup .nil

/-- 'c' stands for the values 'xs' (a single value: a list of one). 'ρ': the numbers of the run's own blocks. -/
def C.r (env : Env) (ρ : List Nat) : C → List Value → Prop
  | .bad, xs => ∃ x, xs = [x]
  | .int k e, xs => xs = [.int k (e.den env)] ∧ InK k (e.den env)
  | .bool e, xs => xs = [.bool (e.tt env)]
  | .ptr b o, xs => ∃ g, ρ[b]? = some g ∧ xs = [.pointer (some ⟨g, o, none⟩)]
  | .old a, xs => xs = [.pointer (some a)]
  | .osl i, xs => xs = [.slice (env.sl i).1 (env.sl i).2.1 (env.sl i).2.2]
  | .optr i e size off, xs => ∃ a, (env.sl i).1 = some a ∧ 0 ≤ e.den env ∧ e.den env < (env.sl i).2.1 ∧ xs = [.pointer (some ⟨a.block, a.off + (e.den env).toNat * size + off, none⟩)]
  | .nilptr, xs => xs = [.pointer none]
  | .nilif, xs => xs = [.nilIface]
  | .nilfn, xs => xs = [.nilFunc]
  | .nilmap, xs => xs = [.map none]
  | .nilslice, xs => xs = [.slice none 0 0]
  | .str s, xs => xs = [.string s]
  | .sl b o n c, xs => ∃ g k, ρ[b]? = some g ∧ (c ≠ 0 → k = c) ∧ xs = [.slice (some ⟨g, o, none⟩) n k]
  | .map b, xs => ∃ g, ρ[b]? = some g ∧ xs = [.map (some g)]
  | .fn f a b, xs => ∃ as bs, a.r env ρ as ∧ b.r env ρ bs ∧ xs = [.func f as.toArray bs.toArray]
  | .iface t v, xs => ∃ x, v.r env ρ [x] ∧ xs = [.iface t x]
  | .agg l, xs => ∃ ys, l.r env ρ ys ∧ xs = [.agg ys.toArray]
  | .tup l, xs => ∃ ys, l.r env ρ ys ∧ xs = [.tuple ys.toArray]
  | .cons a b, xs => ∃ y ys, a.r env ρ [y] ∧ b.r env ρ ys ∧ xs = y :: ys
  | .nil, xs => xs = []
  | .such p, xs => ∃ a n c, xs = [.slice a n c] ∧ (p ≠ 0 → env.such p (.slice a n c))

noncomputable def C.toC (l : List C) : C :=
  @List.rec C (fun _ => C) .nil (fun c _ ih => .cons c ih) l

noncomputable def C.ofC (c : C) : Option (List C) :=
  @C.rec (fun _ => Option (List C)) none (fun _ _ => none) (fun _ => none) (fun _ _ => none) (fun _ => none) (fun _ => none) (fun _ _ _ _ => none) none none none none none (fun _ => none)
    (fun _ _ _ _ => none) (fun _ => none) (fun _ _ _ _ _ => none) (fun _ _ _ => none) (fun _ _ => none) (fun _ _ => none)
    (fun a _ _ ih => match ih with
      | some cs => some (a :: cs)
      | none => none)
    (some []) (fun _ => none) c

theorem C.toC_nil : C.toC [] = .nil := rfl
theorem C.toC_cons (c : C) (cs : List C) : C.toC (c :: cs) = .cons c (C.toC cs) := rfl
theorem C.ofC_cons (a b : C) : (C.cons a b).ofC = match b.ofC with
    | some cs => some (a :: cs)
    | none => none := rfl

/-- A list of values, place by place. -/
def Rels (env : Env) (ρ : List Nat) (cs : List C) (xs : List Value) : Prop :=
  cs.length = xs.length ∧ ∀ (i : Nat) (c : C) (x : Value), cs[i]? = some c → xs[i]? = some x → c.r env ρ [x]

section
variable {env : Env} {ρ : List Nat}

theorem Rels.nil : Rels env ρ [] [] := ⟨rfl, by simp⟩

theorem Rels.cons {c : C} {x : Value} {cs : List C} {xs : List Value} (h : c.r env ρ [x]) (hs : Rels env ρ cs xs) : Rels env ρ (c :: cs) (x :: xs) := by
  refine ⟨by simp [hs.1], fun i c' x' hc hx => ?_⟩
  cases i with
  | zero => simp at hc hx; subst hc hx; exact h
  | succ i => exact hs.2 i c' x' (by simpa using hc) (by simpa using hx)

theorem Rels.uncons {c : C} {cs : List C} {xs : List Value} (h : Rels env ρ (c :: cs) xs) : ∃ y ys, xs = y :: ys ∧ c.r env ρ [y] ∧ Rels env ρ cs ys := by
  obtain ⟨hl, hr⟩ := h
  cases xs with
  | nil => simp at hl
  | cons y ys => exact ⟨y, ys, rfl, hr 0 c y rfl rfl, by simpa using hl, fun i c' x' hc hx => hr (i + 1) c' x' (by simpa using hc) (by simpa using hx)⟩

theorem toC_r : ∀ {cs : List C} {xs : List Value}, (C.toC cs).r env ρ xs ↔ Rels env ρ cs xs := by
  intro cs
  induction cs with
  | nil =>
    intro xs
    constructor
    · intro h; simp only [C.toC_nil, C.r] at h; subst h; exact .nil
    · intro h; have := h.1; simp at this; simp [C.toC_nil, C.r, List.length_eq_zero_iff.1 this.symm]
  | cons c cs ih =>
    intro xs
    constructor
    · intro h
      simp only [C.toC_cons, C.r] at h
      obtain ⟨y, ys, h1, h2, rfl⟩ := h
      exact .cons h1 (ih.1 h2)
    · intro h
      obtain ⟨y, ys, rfl, h1, h2⟩ := h.uncons
      simp only [C.toC_cons, C.r]
      exact ⟨y, ys, h1, ih.2 h2, rfl⟩

theorem ofC_r : ∀ {l : C} {cs : List C} {xs : List Value}, l.ofC = some cs → l.r env ρ xs → Rels env ρ cs xs := by
  intro l
  induction l with
  | nil => intro cs xs h hr; have h : some [] = some cs := h; simp only [Option.some.injEq] at h; subst h; simp only [C.r] at hr; subst hr; exact .nil
  | cons a b _ ihb =>
    intro cs xs h hr
    rw [C.ofC_cons] at h
    split at h
    · rename_i cs' hb
      simp only [Option.some.injEq] at h; subst h
      simp only [C.r] at hr
      obtain ⟨y, ys, h1, h2, rfl⟩ := hr
      exact .cons h1 (ihb hb h2)
    · cases h
  | _ => intro cs xs h; (have h : none = some cs := h; cases h)

/-! ### More blocks; fewer blocks -/

theorem r_mono {ρ' : List Nat} (hp : ∀ (i g : Nat), ρ[i]? = some g → ρ'[i]? = some g) : ∀ {c : C} {xs : List Value}, c.r env ρ xs → c.r env ρ' xs := by
  intro c
  induction c with
  | ptr b o => intro xs h; obtain ⟨g, hg, hx⟩ := h; exact ⟨g, hp _ _ hg, hx⟩
  | sl b o n c => intro xs h; obtain ⟨g, k, hg, hx⟩ := h; exact ⟨g, k, hp _ _ hg, hx⟩
  | map b => intro xs h; obtain ⟨g, hg, hx⟩ := h; exact ⟨g, hp _ _ hg, hx⟩
  | fn f a b iha ihb => intro xs h; obtain ⟨as, bs, h1, h2, hx⟩ := h; exact ⟨as, bs, iha h1, ihb h2, hx⟩
  | iface t v ih => intro xs h; obtain ⟨x, h1, hx⟩ := h; exact ⟨x, ih h1, hx⟩
  | agg l ih => intro xs h; obtain ⟨x, h1, hx⟩ := h; exact ⟨x, ih h1, hx⟩
  | tup l ih => intro xs h; obtain ⟨x, h1, hx⟩ := h; exact ⟨x, ih h1, hx⟩
  | cons a b iha ihb => intro xs h; obtain ⟨y, ys, h1, h2, hx⟩ := h; exact ⟨y, ys, iha h1, ihb h2, hx⟩
  | _ => intro xs h; exact h

theorem Rels.mono {ρ' : List Nat} (hp : ∀ (i g : Nat), ρ[i]? = some g → ρ'[i]? = some g) {cs : List C} {xs : List Value} (h : Rels env ρ cs xs) : Rels env ρ' cs xs :=
  ⟨h.1, fun i c x hc hx => r_mono hp (h.2 i c x hc hx)⟩

end

/-- What points to a block from 'm' on is forgotten. -/
noncomputable def C.cut (m : Nat) (c : C) : C :=
  @C.rec (fun _ => C) .bad .int .bool (fun b o => if Nat.blt b m then .ptr b o else .bad) .old .osl .optr .nilptr .nilif .nilfn .nilmap .nilslice .str
    (fun b o n c => if Nat.blt b m then .sl b o n c else .bad) (fun b => if Nat.blt b m then .map b else .bad)
    (fun f _ _ a b => .fn f a b) (fun t _ v => .iface t v) (fun _ l => .agg l) (fun _ l => .tup l) (fun _ _ a b => .cons a b) .nil .such c

/-- Does nothing in it point to a block from 'm' on? -/
noncomputable def C.clean (m : Nat) (c : C) : Bool :=
  @C.rec (fun _ => Bool) true (fun _ _ => true) (fun _ => true) (fun b _ => Nat.blt b m) (fun _ => true) (fun _ => true) (fun _ _ _ _ => true) true true true true true (fun _ => true)
    (fun b _ _ _ => Nat.blt b m) (fun b => Nat.blt b m) (fun _ _ _ a b => a && b) (fun _ _ v => v) (fun _ l => l) (fun _ l => l) (fun _ _ a b => a && b) true (fun _ => true) c

theorem C.cut_ptr (m b o : Nat) : (C.ptr b o).cut m = if Nat.blt b m then .ptr b o else .bad := rfl
theorem C.cut_sl (m b o n c : Nat) : (C.sl b o n c).cut m = if Nat.blt b m then .sl b o n c else .bad := rfl
theorem C.cut_map (m b : Nat) : (C.map b).cut m = if Nat.blt b m then .map b else .bad := rfl
theorem C.cut_fn (m : Nat) (f : Fn) (a b : C) : (C.fn f a b).cut m = .fn f (a.cut m) (b.cut m) := rfl
theorem C.cut_iface (m : Nat) (t : TypeId) (v : C) : (C.iface t v).cut m = .iface t (v.cut m) := rfl
theorem C.cut_agg (m : Nat) (l : C) : (C.agg l).cut m = .agg (l.cut m) := rfl
theorem C.cut_tup (m : Nat) (l : C) : (C.tup l).cut m = .tup (l.cut m) := rfl
theorem C.cut_cons (m : Nat) (a b : C) : (C.cons a b).cut m = .cons (a.cut m) (b.cut m) := rfl
theorem C.clean_fn (m : Nat) (f : Fn) (a b : C) : (C.fn f a b).clean m = (a.clean m && b.clean m) := rfl
theorem C.clean_cons (m : Nat) (a b : C) : (C.cons a b).clean m = (a.clean m && b.clean m) := rfl

theorem cut_r {env : Env} {ρ : List Nat} (m : Nat) : ∀ {c : C} {xs : List Value}, c.r env ρ xs → (c.cut m).r env (ρ.take m) xs := by
  have key : ∀ (b g : Nat), b < m → ρ[b]? = some g → (ρ.take m)[b]? = some g := fun b g hb hg => by rw [List.getElem?_take_of_lt hb]; exact hg
  intro c
  induction c with
  | ptr b o =>
    intro xs h; obtain ⟨g, hg, hx⟩ := h
    simp only [C.cut_ptr, C.cut_sl, C.cut_map]
    by_cases hb : b < m
    · rw [if_pos (by simpa using hb)]; exact ⟨g, key _ _ hb hg, hx⟩
    · rw [if_neg (by simpa using hb)]; exact ⟨_, hx⟩
  | sl b o n c =>
    intro xs h; obtain ⟨g, k, hg, hk, hx⟩ := h
    simp only [C.cut_ptr, C.cut_sl, C.cut_map]
    by_cases hb : b < m
    · rw [if_pos (by simpa using hb)]; exact ⟨g, k, key _ _ hb hg, hk, hx⟩
    · rw [if_neg (by simpa using hb)]; exact ⟨_, hx⟩
  | map b =>
    intro xs h; obtain ⟨g, hg, hx⟩ := h
    simp only [C.cut_ptr, C.cut_sl, C.cut_map]
    by_cases hb : b < m
    · rw [if_pos (by simpa using hb)]; exact ⟨g, key _ _ hb hg, hx⟩
    · rw [if_neg (by simpa using hb)]; exact ⟨_, hx⟩
  | fn f a b iha ihb => intro xs h; obtain ⟨as, bs, h1, h2, hx⟩ := h; exact ⟨as, bs, iha h1, ihb h2, hx⟩
  | iface t v ih => intro xs h; obtain ⟨x, h1, hx⟩ := h; exact ⟨x, ih h1, hx⟩
  | agg l ih => intro xs h; obtain ⟨x, h1, hx⟩ := h; exact ⟨x, ih h1, hx⟩
  | tup l ih => intro xs h; obtain ⟨x, h1, hx⟩ := h; exact ⟨x, ih h1, hx⟩
  | cons a b iha ihb => intro xs h; obtain ⟨y, ys, h1, h2, hx⟩ := h; exact ⟨y, ys, iha h1, ihb h2, hx⟩
  | _ => intro xs h; exact h

/-! ### The same value -/

noncomputable def C.beq (a : C) : C → Bool :=
  @C.rec (fun _ => C → Bool)
    (fun c => match c with | .bad => true | _ => false)
    (fun k e c => match c with | .int k' e' => sameKind k k' && e.beq e' | _ => false)
    (fun e c => match c with | .bool e' => e.beq e' | _ => false)
    (fun b o c => match c with | .ptr b' o' => Nat.beq b b' && Nat.beq o o' | _ => false)
    (fun a c => match c with | .old a' => decide (a = a') | _ => false)
    (fun i c => match c with | .osl j => Nat.beq i j | _ => false)
    (fun i e s o c => match c with | .optr i' e' s' o' => Nat.beq i i' && (e.beq e' && (Nat.beq s s' && Nat.beq o o')) | _ => false)
    (fun c => match c with | .nilptr => true | _ => false)
    (fun c => match c with | .nilif => true | _ => false)
    (fun c => match c with | .nilfn => true | _ => false)
    (fun c => match c with | .nilmap => true | _ => false)
    (fun c => match c with | .nilslice => true | _ => false)
    (fun s c => match c with | .str s' => decide (s = s') | _ => false)
    (fun b o n k c => match c with | .sl b' o' n' k' => Nat.beq b b' && (Nat.beq o o' && (Nat.beq n n' && Nat.beq k k')) | _ => false)
    (fun b c => match c with | .map b' => Nat.beq b b' | _ => false)
    (fun f _ _ x y c => match c with | .fn f' x' y' => decide (f = f') && (x x' && y y') | _ => false)
    (fun t _ v c => match c with | .iface t' v' => Nat.beq t t' && v v' | _ => false)
    (fun _ l c => match c with | .agg l' => l l' | _ => false)
    (fun _ l c => match c with | .tup l' => l l' | _ => false)
    (fun _ _ a b c => match c with | .cons a' b' => a a' && b b' | _ => false)
    (fun c => match c with | .nil => true | _ => false)
    (fun p c => match c with | .such q => Nat.beq p q | _ => false) a

theorem C.beq_eq : ∀ {a b : C}, a.beq b = true → a = b := by
  have nb : ∀ {m n : Nat}, Nat.beq m n = true → m = n := fun h => Nat.eq_of_beq_eq_true h
  intro a
  induction a with
  | int k e =>
    intro b h; cases b <;> first | exact Bool.noConfusion h | skip
    rename_i k' e'; have h : (sameKind k k' && e.beq e') = true := h
    simp only [Bool.and_eq_true, sameKind_iff] at h; rw [h.1, E.beq_eq h.2]
  | bool e => intro b h; cases b <;> first | exact Bool.noConfusion h | (have h : E.beq _ _ = true := h; rw [E.beq_eq h])
  | ptr b o =>
    intro b h; cases b <;> first | exact Bool.noConfusion h | skip
    have h : (Nat.beq _ _ && Nat.beq _ _) = true := h
    simp only [Bool.and_eq_true] at h; rw [nb h.1, nb h.2]
  | old a => intro b h; cases b <;> first | exact Bool.noConfusion h | (have h : decide (_ = _) = true := h; rw [of_decide_eq_true h])
  | osl i => intro b h; cases b <;> first | exact Bool.noConfusion h | (have h : Nat.beq _ _ = true := h; rw [nb h])
  | optr i e s o =>
    intro b h; cases b <;> first | exact Bool.noConfusion h | skip
    have h : (Nat.beq _ _ && (E.beq _ _ && (Nat.beq _ _ && Nat.beq _ _))) = true := h
    simp only [Bool.and_eq_true] at h; rw [nb h.1, E.beq_eq h.2.1, nb h.2.2.1, nb h.2.2.2]
  | str s => intro b h; cases b <;> first | exact Bool.noConfusion h | (have h : decide (_ = _) = true := h; rw [of_decide_eq_true h])
  | sl b o n k =>
    intro b h; cases b <;> first | exact Bool.noConfusion h | skip
    have h : (Nat.beq _ _ && (Nat.beq _ _ && (Nat.beq _ _ && Nat.beq _ _))) = true := h
    simp only [Bool.and_eq_true] at h; rw [nb h.1, nb h.2.1, nb h.2.2.1, nb h.2.2.2]
  | map b => intro b h; cases b <;> first | exact Bool.noConfusion h | (have h : Nat.beq _ _ = true := h; rw [nb h])
  | fn f x y ihx ihy =>
    intro b h; cases b <;> first | exact Bool.noConfusion h | skip
    rename_i f' x' y'; have h : (decide (f = f') && (x.beq x' && y.beq y')) = true := h
    simp only [Bool.and_eq_true, decide_eq_true_eq] at h; rw [h.1, ihx h.2.1, ihy h.2.2]
  | iface t v ih =>
    intro b h; cases b <;> first | exact Bool.noConfusion h | skip
    rename_i t' v'; have h : (Nat.beq t t' && v.beq v') = true := h
    simp only [Bool.and_eq_true] at h; rw [nb h.1, ih h.2]
  | agg l ih => intro b h; cases b <;> first | exact Bool.noConfusion h | (have h : C.beq _ _ = true := h; rw [ih h])
  | tup l ih => intro b h; cases b <;> first | exact Bool.noConfusion h | (have h : C.beq _ _ = true := h; rw [ih h])
  | cons x y ihx ihy =>
    intro b h; cases b <;> first | exact Bool.noConfusion h | skip
    rename_i x' y'; have h : (x.beq x' && y.beq y') = true := h
    simp only [Bool.and_eq_true] at h; rw [ihx h.1, ihy h.2]
  | such p => intro b h; cases b <;> first | exact Bool.noConfusion h | (have h : Nat.beq _ _ = true := h; rw [nb h])
  | _ => intro b h; cases b <;> first | exact Bool.noConfusion h | rfl

/-- Is all of it known? -/
def C.exact : C → Bool
  | .bad => false
  | .such _ => false
  | .sl _ _ _ c => !Nat.beq c 0
  | .fn _ a b => a.exact && b.exact
  | .iface _ v => v.exact
  | .agg l => l.exact
  | .tup l => l.exact
  | .cons a b => a.exact && b.exact
  | _ => true

theorem exact_eq {env : Env} {ρ ρ' : List Nat} (hp : ∀ (i g : Nat), ρ[i]? = some g → ρ'[i]? = some g) : ∀ {c : C} {xs ys : List Value}, c.exact = true → c.r env ρ xs → c.r env ρ' ys → xs = ys := by
  intro c
  induction c with
  | bad => intro xs ys h; cases h
  | such p => intro xs ys h; cases h
  | int k e => intro xs ys _ h h'; rw [h.1, h'.1]
  | ptr b o => intro xs ys _ h h'; obtain ⟨g, hg, rfl⟩ := h; obtain ⟨g', hg', rfl⟩ := h'; rw [hp _ _ hg] at hg'; cases hg'; rfl
  | sl b o n c =>
    intro xs ys he h h'; obtain ⟨g, k, hg, hk, rfl⟩ := h; obtain ⟨g', k', hg', hk', rfl⟩ := h'; rw [hp _ _ hg] at hg'; cases hg'
    have hc : c ≠ 0 := by
      intro h0; subst h0; simp [C.exact] at he
    rw [hk hc, hk' hc]
  | map b => intro xs ys _ h h'; obtain ⟨g, hg, rfl⟩ := h; obtain ⟨g', hg', rfl⟩ := h'; rw [hp _ _ hg] at hg'; cases hg'; rfl
  | optr i e s o => intro xs ys _ h h'; obtain ⟨g, hg, _, _, rfl⟩ := h; obtain ⟨g', hg', _, _, rfl⟩ := h'; rw [hg] at hg'; cases hg'; rfl
  | fn f a b iha ihb =>
    intro xs ys he h h'; obtain ⟨as, bs, h1, h2, rfl⟩ := h; obtain ⟨as', bs', h1', h2', rfl⟩ := h'
    simp only [C.exact, Bool.and_eq_true] at he
    rw [iha he.1 h1 h1', ihb he.2 h2 h2']
  | iface t v ih => intro xs ys he h h'; obtain ⟨x, h1, rfl⟩ := h; obtain ⟨x', h1', rfl⟩ := h'; have := ih he h1 h1'; simp at this; rw [this]
  | agg l ih => intro xs ys he h h'; obtain ⟨x, h1, rfl⟩ := h; obtain ⟨x', h1', rfl⟩ := h'; rw [ih he h1 h1']
  | tup l ih => intro xs ys he h h'; obtain ⟨x, h1, rfl⟩ := h; obtain ⟨x', h1', rfl⟩ := h'; rw [ih he h1 h1']
  | cons a b iha ihb =>
    intro xs ys he h h'; obtain ⟨y, ys', h1, h2, rfl⟩ := h; obtain ⟨y', ys'', h1', h2', rfl⟩ := h'
    simp only [C.exact, Bool.and_eq_true] at he
    have := iha he.1 h1 h1'; simp at this
    rw [this, ihb he.2 h2 h2']
  | _ => intro xs ys _ h h'; simp only [C.r] at h h'; rw [h, h']

/-! ### One value out of two -/

def C.sameLen : C → C → Bool
  | .nil, c => match c with | .nil => true | _ => false
  | .cons _ b, c => match c with | .cons _ b' => b.sameLen b' | _ => false
  | _, _ => false

/-- Is it 0 or 1, whatever the variables are? -/
def isB : E → Bool
  | .lit n => intBeq n 0 || intBeq n 1
  | .bin o _ _ _ => match o with
    | .eql => true
    | .neq => true
    | .lss => true
    | .leq => true
    | .gtr => true
    | .geq => true
    | _ => false
  | .ite _ a b => isB a && isB b
  | _ => false

/-- 'if c then a else b' of two numbers; where 'a' is one more than 'b': b + c. -/
noncomputable def mkIteI (k : IntKind) (c a b : E) : E :=
  match a with
  | .bin o k' x z => match z with
    | .lit n => if sameOp o .add && (sameKind k k' && (intBeq n 1 && (isB c && x.beq b))) then .bin .add k x c else mkIte c a b
    | _ => mkIte c a b
  | .lit m => match b with
    | .lit n => if sameKind k .i64 && (intBeq m 1 && (intBeq n 0 && isB c)) then .bin .add k (.lit 0) c else mkIte c a b
    | _ => mkIte c a b
  | _ => mkIte c a b

/-- 'if c then a else b'; 'lst': a list, element by element. -/
noncomputable def C.mg (c : E) : C → Bool → C → C
  | .int k e, l, b => match l with
    | true => .bad
    | false => match b with
      | .int k' e' => if sameKind k k' then .int k (mkIteI k c e e') else .bad
      | _ => .bad
  | .bool e, l, b => match l with
    | true => .bad
    | false => match b with
      | .bool e' => .bool (mkIteB c e e')
      | _ => .bad
  | .agg x, l, b => match l with
    | true => .bad
    | false => match b with
      | .agg y => if x.sameLen y then .agg (x.mg c true y) else .bad
      | _ => .bad
  | .tup x, l, b => match l with
    | true => .bad
    | false => match b with
      | .tup y => if x.sameLen y then .tup (x.mg c true y) else .bad
      | _ => .bad
  | .iface t x, l, b => match l with
    | true => .bad
    | false => match b with
      | .iface u y => if Nat.beq t u then .iface t (x.mg c false y) else .bad
      | _ => .bad
  | .cons x xs, l, b => match l with
    | false => .bad
    | true => match b with
      | .cons y ys => .cons (x.mg c false y) (xs.mg c true ys)
      | _ => .bad
  | .nil, l, _ => match l with
    | false => .bad
    | true => .nil
  | a, l, b => match l with
    | true => .bad
    | false => if a.beq b then a else .bad

section
variable {env : Env} {ρ : List Nat} {c : E}

theorem bad_r (x : Value) : C.bad.r env ρ [x] := ⟨x, rfl⟩

theorem isB_den {env : Env} : ∀ {e : E}, isB e = true → e.den env = b2i (e.tt env) := by
  intro e
  induction e with
  | lit n =>
    intro h
    simp only [isB, Bool.or_eq_true, intBeq_iff] at h
    rcases h with rfl | rfl <;> rfl
  | bin o k a b _ _ =>
    intro h
    have key : ∀ b : Bool, b2i b = b2i (decide (b2i b ≠ 0)) := fun b => by cases b <;> decide
    cases o <;> simp only [isB, Bool.false_eq_true] at h <;> simp only [E.tt, E.den, E.d, binDen] <;> exact key _
  | ite c a b _ iha ihb =>
    intro h
    simp only [isB, Bool.and_eq_true] at h
    rw [den_ite, tt_ite, iha h.1, ihb h.2]
    cases c.tt env <;> rfl
  | _ => intro h; simp [isB] at h

theorem wrap_in {k : IntKind} {n : Int} (h : InK k n) : k.wrap n = n := by
  obtain ⟨h1, h2⟩ := h
  cases k <;> simp only [IntKind.min, IntKind.max, IntKind.wrap, IntKind.signed, IntKind.bits] at * <;> simp at * <;> (try split) <;> omega

theorem mkIteI_left {env : Env} {k : IntKind} {c a b : E} (hc : c.tt env = true) : (mkIteI k c a b).den env = a.den env := by
  have h0 : (mkIte c a b).den env = a.den env := by rw [mkIte_den, if_pos hc]
  have hb : isB c = true → c.den env = 1 := fun h => by rw [isB_den h, hc]; rfl
  unfold mkIteI
  split
  · split
    · split
      · rename_i o k' x _ n h
        simp only [Bool.and_eq_true, sameOp_iff, sameKind_iff, intBeq_iff] at h
        obtain ⟨rfl, rfl, rfl, h4, _⟩ := h
        show k.wrap (x.den env + c.den env) = k.wrap (x.den env + 1)
        rw [hb h4]
      · exact h0
    · exact h0
  · split
    · split
      · rename_i m _ n h
        simp only [Bool.and_eq_true, sameKind_iff, intBeq_iff] at h
        obtain ⟨rfl, rfl, rfl, h4⟩ := h
        show IntKind.i64.wrap (0 + c.den env) = 1
        rw [hb h4]; rfl
      · exact h0
    · exact h0
  · exact h0

theorem mkIteI_right {env : Env} {k : IntKind} {c a b : E} (hc : c.tt env = false) (hi : InK k (b.den env)) : (mkIteI k c a b).den env = b.den env := by
  have h0 : (mkIte c a b).den env = b.den env := by rw [mkIte_den, hc]; simp
  have hb : isB c = true → c.den env = 0 := fun h => by rw [isB_den h, hc]; rfl
  unfold mkIteI
  split
  · split
    · split
      · rename_i o k' x _ n h
        simp only [Bool.and_eq_true, sameOp_iff, sameKind_iff, intBeq_iff] at h
        obtain ⟨rfl, rfl, rfl, h4, h5⟩ := h
        rw [← E.beq_eq h5] at hi ⊢
        show k.wrap (x.den env + c.den env) = x.den env
        rw [hb h4, Int.add_zero, wrap_in hi]
      · exact h0
    · exact h0
  · split
    · split
      · rename_i m _ n h
        simp only [Bool.and_eq_true, sameKind_iff, intBeq_iff] at h
        obtain ⟨rfl, rfl, rfl, h4⟩ := h
        show IntKind.i64.wrap (0 + c.den env) = 0
        rw [hb h4]; rfl
      · exact h0
    · exact h0
  · exact h0

theorem mg_left (hc : c.tt env = true) : ∀ {a : C} {l : Bool} {b : C} {xs : List Value}, a.r env ρ xs → (if l then a.sameLen b = true else ∃ x, xs = [x]) → (a.mg c l b).r env ρ xs := by
  have hI : ∀ (k : IntKind) (a b : E), (mkIteI k c a b).den env = a.den env := fun k a b => mkIteI_left hc
  have hB : ∀ a b : E, (mkIteB c a b).tt env = a.tt env := fun a b => by rw [mkIteB_tt, if_pos hc]
  intro a
  induction a with
  | int k e =>
    intro l b xs h hl
    cases l with
    | true => simp [C.sameLen] at hl
    | false =>
      obtain ⟨x, rfl⟩ : ∃ x, xs = [x] := by simpa using hl
      simp only [C.mg]
      cases b <;> try exact bad_r x
      rename_i k' e'
      simp only []
      split
      · simp only [C.r, hI]; exact h
      · exact bad_r x
  | bool e =>
    intro l b xs h hl
    cases l with
    | true => simp [C.sameLen] at hl
    | false =>
      obtain ⟨x, rfl⟩ : ∃ x, xs = [x] := by simpa using hl
      simp only [C.mg]
      cases b <;> try exact bad_r x
      simp only [C.r, hB]; exact h
  | agg u ih =>
    intro l b xs h hl
    cases l with
    | true => simp [C.sameLen] at hl
    | false =>
      obtain ⟨x, rfl⟩ : ∃ x, xs = [x] := by simpa using hl
      simp only [C.mg]
      cases b <;> try exact bad_r x
      simp only []
      split
      · rename_i hs
        obtain ⟨ys, h1, hx⟩ := h
        exact ⟨ys, ih h1 (by simpa using hs), hx⟩
      · exact bad_r x
  | tup u ih =>
    intro l b xs h hl
    cases l with
    | true => simp [C.sameLen] at hl
    | false =>
      obtain ⟨x, rfl⟩ : ∃ x, xs = [x] := by simpa using hl
      simp only [C.mg]
      cases b <;> try exact bad_r x
      simp only []
      split
      · rename_i hs
        obtain ⟨ys, h1, hx⟩ := h
        exact ⟨ys, ih h1 (by simpa using hs), hx⟩
      · exact bad_r x
  | iface t u ih =>
    intro l b xs h hl
    cases l with
    | true => simp [C.sameLen] at hl
    | false =>
      obtain ⟨x, rfl⟩ : ∃ x, xs = [x] := by simpa using hl
      simp only [C.mg]
      cases b <;> try exact bad_r x
      simp only []
      split
      · obtain ⟨y, h1, hx⟩ := h
        exact ⟨y, ih h1 (by simp), hx⟩
      · exact bad_r x
  | cons u us ihu ihus =>
    intro l b xs h hl
    cases l with
    | false =>
      obtain ⟨x, rfl⟩ : ∃ x, xs = [x] := by simpa using hl
      exact bad_r x
    | true =>
      simp only [if_true] at hl
      cases b <;> simp only [C.sameLen, Bool.false_eq_true] at hl
      obtain ⟨y, ys, h1, h2, rfl⟩ := h
      exact ⟨y, ys, ihu h1 (by simp), ihus h2 (by simpa using hl), rfl⟩
  | nil =>
    intro l b xs h hl
    cases l with
    | false =>
      obtain ⟨x, rfl⟩ : ∃ x, xs = [x] := by simpa using hl
      exact bad_r x
    | true => exact h
  | _ =>
    intro l b xs h hl
    cases l with
    | true => simp [C.sameLen] at hl
    | false =>
      obtain ⟨x, rfl⟩ : ∃ x, xs = [x] := by simpa using hl
      simp only [C.mg]
      split
      · exact h
      · exact bad_r x

theorem mg_right (hc : c.tt env = false) : ∀ {a : C} {l : Bool} {b : C} {xs : List Value}, b.r env ρ xs → (if l then a.sameLen b = true else ∃ x, xs = [x]) → (a.mg c l b).r env ρ xs := by
  have hB : ∀ a b : E, (mkIteB c a b).tt env = b.tt env := fun a b => by rw [mkIteB_tt, hc]; simp
  intro a
  induction a with
  | int k e =>
    intro l b xs h hl
    cases l with
    | true => simp [C.sameLen] at hl
    | false =>
      obtain ⟨x, rfl⟩ : ∃ x, xs = [x] := by simpa using hl
      simp only [C.mg]
      cases b <;> try exact bad_r x
      rename_i k' e'
      simp only []
      split
      · rename_i hk
        have hk' : k = k' := sameKind_iff.1 hk
        subst hk'
        have hI := h.2
        simp only [C.r] at h ⊢
        rw [mkIteI_right hc hI]; exact h
      · exact bad_r x
  | bool e =>
    intro l b xs h hl
    cases l with
    | true => simp [C.sameLen] at hl
    | false =>
      obtain ⟨x, rfl⟩ : ∃ x, xs = [x] := by simpa using hl
      simp only [C.mg]
      cases b <;> try exact bad_r x
      simp only [C.r, hB]; exact h
  | agg u ih =>
    intro l b xs h hl
    cases l with
    | true => simp [C.sameLen] at hl
    | false =>
      obtain ⟨x, rfl⟩ : ∃ x, xs = [x] := by simpa using hl
      simp only [C.mg]
      cases b <;> try exact bad_r x
      simp only []
      split
      · rename_i hs
        obtain ⟨ys, h1, hx⟩ := h
        exact ⟨ys, ih h1 (by simpa using hs), hx⟩
      · exact bad_r x
  | tup u ih =>
    intro l b xs h hl
    cases l with
    | true => simp [C.sameLen] at hl
    | false =>
      obtain ⟨x, rfl⟩ : ∃ x, xs = [x] := by simpa using hl
      simp only [C.mg]
      cases b <;> try exact bad_r x
      simp only []
      split
      · rename_i hs
        obtain ⟨ys, h1, hx⟩ := h
        exact ⟨ys, ih h1 (by simpa using hs), hx⟩
      · exact bad_r x
  | iface t u ih =>
    intro l b xs h hl
    cases l with
    | true => simp [C.sameLen] at hl
    | false =>
      obtain ⟨x, rfl⟩ : ∃ x, xs = [x] := by simpa using hl
      simp only [C.mg]
      cases b <;> try exact bad_r x
      simp only []
      split
      · rename_i t' v' ht
        obtain rfl : t = t' := by simpa using ht
        obtain ⟨y, h1, hx⟩ := h
        exact ⟨y, ih h1 (by simp), hx⟩
      · exact bad_r x
  | cons u us ihu ihus =>
    intro l b xs h hl
    cases l with
    | false =>
      obtain ⟨x, rfl⟩ : ∃ x, xs = [x] := by simpa using hl
      exact bad_r x
    | true =>
      simp only [if_true] at hl
      cases b <;> simp only [C.sameLen, Bool.false_eq_true] at hl
      obtain ⟨y, ys, h1, h2, rfl⟩ := h
      exact ⟨y, ys, ihu h1 (by simp), ihus h2 (by simpa using hl), rfl⟩
  | nil =>
    intro l b xs h hl
    cases l with
    | false =>
      obtain ⟨x, rfl⟩ : ∃ x, xs = [x] := by simpa using hl
      exact bad_r x
    | true =>
      simp only [if_true] at hl
      cases b <;> simp only [C.sameLen, Bool.false_eq_true] at hl
      exact h
  | _ =>
    intro l b xs h hl
    cases l with
    | true => simp [C.sameLen] at hl
    | false =>
      obtain ⟨x, rfl⟩ : ∃ x, xs = [x] := by simpa using hl
      simp only [C.mg]
      split
      · rename_i hb; rw [C.beq_eq hb]; exact h
      · exact bad_r x

end

/-! ### The model's values as values -/

def C.ofV0 : Value → C
  | .bool b => .bool (.lit (b2i b))
  | .int k n => if inKb k n then .int k (.lit n) else .bad
  | .string s => .str s
  | .pointer none => .nilptr
  | .nilIface => .nilif
  | .nilFunc => .nilfn
  | .map none => .nilmap
  | .slice none 0 0 => .nilslice
  | _ => .bad

noncomputable def C.ofV : Value → C
  | .agg cs => .agg (.toC (cs.toList.map .ofV0))
  | v => .ofV0 v

theorem ofV0_r (env : Env) (ρ : List Nat) (v : Value) : (C.ofV0 v).r env ρ [v] := by
  unfold C.ofV0
  split <;> try (simp [C.r]; done)
  · rename_i b; cases b <;> simp [C.r, E.tt, E.den, E.d, b2i]
  · rename_i k n
    split
    · rename_i h; exact ⟨rfl, inKb_iff.1 h⟩
    · exact ⟨_, rfl⟩

theorem ofV0s_r (env : Env) (ρ : List Nat) (vs : List Value) : Rels env ρ (vs.map C.ofV0) vs :=
  ⟨by simp, fun i c x hc hx => by
    rw [List.getElem?_map, hx] at hc
    simp at hc; subst hc; exact ofV0_r ..⟩

theorem ofV_r (env : Env) (ρ : List Nat) (v : Value) : (C.ofV v).r env ρ [v] := by
  unfold C.ofV
  split
  · rename_i cs
    exact ⟨cs.toList, toC_r.2 (ofV0s_r ..), by simp⟩
  · exact ofV0_r ..

end Go.Sx
