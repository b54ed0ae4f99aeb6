/-
  The values of the symbolic executor, and how they stand for the model's values. No condition.
-/
import Derived.Test.YtibfaifjnifgjaaSx1
namespace Go.Sx

/-- A value. 'bad': nothing is known. 'cons', 'nil': lists of values. 'ptr', 'sl', 'map': into a block of the run's own, by its place in the list of blocks. -/
inductive C where
  | bad
  | int (k : IntKind) (e : E)
  | bool (e : E)
  | ptr (b o : Nat)
  | old (a : Addr)
  | osl (i : Nat)
  | optr (i : Nat) (e : E) (size off : Nat)
  | nilptr
  | nilif
  | nilfn
  | nilmap
  | nilslice
  | str (s : ByteArray)
  | sl (b o n c : Nat)
  | map (b : Nat)
  | fn (f : Fn) (first cap : C)
  | iface (t : TypeId) (v : C)
  | agg (l : C)
  | tup (l : C)
  | cons (a b : C)
  | nil

def C.undef : C := .tup .nil

/-- 'c' stands for the values 'xs' (a single value: a list of one). 'ρ': the numbers of the run's own blocks. -/
def C.r (env : Env) (ρ : List Nat) : C → List Value → Prop
  | .bad, xs => ∃ x, xs = [x]
  | .int k e, xs => xs = [.int k (e.den env)] ∧ InK k (e.den env)
  | .bool e, xs => xs = [.bool (e.tt env)]
  | .ptr b o, xs => ∃ g, ρ[b]? = some g ∧ xs = [.pointer (some ⟨g, o, none⟩)]
  | .old a, xs => xs = [.pointer (some a)]
  | .osl i, xs => xs = [.slice (env.sl i).1 (env.sl i).2.1 (env.sl i).2.2]
  | .optr i e size off, xs => ∃ a, (env.sl i).1 = some a ∧ 0 ≤ e.den env ∧ e.den env < (env.sl i).2.1 ∧ xs = [.pointer (some ⟨a.block, a.off + (e.den env).toNat * size + off, none⟩)]
  | .nilptr, xs => xs = [.pointer none]
  | .nilif, xs => xs = [.nilIface]
  | .nilfn, xs => xs = [.nilFunc]
  | .nilmap, xs => xs = [.map none]
  | .nilslice, xs => xs = [.slice none 0 0]
  | .str s, xs => xs = [.string s]
  | .sl b o n c, xs => ∃ g, ρ[b]? = some g ∧ xs = [.slice (some ⟨g, o, none⟩) n c]
  | .map b, xs => ∃ g, ρ[b]? = some g ∧ xs = [.map (some g)]
  | .fn f a b, xs => ∃ as bs, a.r env ρ as ∧ b.r env ρ bs ∧ xs = [.func f as.toArray bs.toArray]
  | .iface t v, xs => ∃ x, v.r env ρ [x] ∧ xs = [.iface t x]
  | .agg l, xs => ∃ ys, l.r env ρ ys ∧ xs = [.agg ys.toArray]
  | .tup l, xs => ∃ ys, l.r env ρ ys ∧ xs = [.tuple ys.toArray]
  | .cons a b, xs => ∃ y ys, a.r env ρ [y] ∧ b.r env ρ ys ∧ xs = y :: ys
  | .nil, xs => xs = []

def C.toC : List C → C
  | [] => .nil
  | c :: cs => .cons c (toC cs)

def C.ofC : C → Option (List C)
  | .nil => some []
  | .cons a b => match b.ofC with
    | some cs => some (a :: cs)
    | none => none
  | _ => none

/-- A list of values, place by place. -/
def Rels (env : Env) (ρ : List Nat) (cs : List C) (xs : List Value) : Prop :=
  cs.length = xs.length ∧ ∀ (i : Nat) (c : C) (x : Value), cs[i]? = some c → xs[i]? = some x → c.r env ρ [x]

section
variable {env : Env} {ρ : List Nat}

theorem Rels.nil : Rels env ρ [] [] := ⟨rfl, by simp⟩

theorem Rels.cons {c : C} {x : Value} {cs : List C} {xs : List Value} (h : c.r env ρ [x]) (hs : Rels env ρ cs xs) : Rels env ρ (c :: cs) (x :: xs) := by
  refine ⟨by simp [hs.1], fun i c' x' hc hx => ?_⟩
  cases i with
  | zero => simp at hc hx; subst hc hx; exact h
  | succ i => exact hs.2 i c' x' (by simpa using hc) (by simpa using hx)

theorem Rels.uncons {c : C} {cs : List C} {xs : List Value} (h : Rels env ρ (c :: cs) xs) : ∃ y ys, xs = y :: ys ∧ c.r env ρ [y] ∧ Rels env ρ cs ys := by
  obtain ⟨hl, hr⟩ := h
  cases xs with
  | nil => simp at hl
  | cons y ys => exact ⟨y, ys, rfl, hr 0 c y rfl rfl, by simpa using hl, fun i c' x' hc hx => hr (i + 1) c' x' (by simpa using hc) (by simpa using hx)⟩

theorem toC_r : ∀ {cs : List C} {xs : List Value}, (C.toC cs).r env ρ xs ↔ Rels env ρ cs xs := by
  intro cs
  induction cs with
  | nil =>
    intro xs
    constructor
    · intro h; simp only [C.toC, C.r] at h; subst h; exact .nil
    · intro h; have := h.1; simp at this; simp [C.toC, C.r, List.length_eq_zero_iff.1 this.symm]
  | cons c cs ih =>
    intro xs
    constructor
    · intro h
      simp only [C.toC, C.r] at h
      obtain ⟨y, ys, h1, h2, rfl⟩ := h
      exact .cons h1 (ih.1 h2)
    · intro h
      obtain ⟨y, ys, rfl, h1, h2⟩ := h.uncons
      simp only [C.toC, C.r]
      exact ⟨y, ys, h1, ih.2 h2, rfl⟩

theorem ofC_r : ∀ {l : C} {cs : List C} {xs : List Value}, l.ofC = some cs → l.r env ρ xs → Rels env ρ cs xs := by
  intro l
  induction l with
  | nil => intro cs xs h hr; simp only [C.ofC, Option.some.injEq] at h; subst h; simp only [C.r] at hr; subst hr; exact .nil
  | cons a b _ ihb =>
    intro cs xs h hr
    simp only [C.ofC] at h
    split at h
    · rename_i cs' hb
      simp only [Option.some.injEq] at h; subst h
      simp only [C.r] at hr
      obtain ⟨y, ys, h1, h2, rfl⟩ := hr
      exact .cons h1 (ihb hb h2)
    · cases h
  | _ => intro cs xs h; simp [C.ofC] at h

/-! ### More blocks; fewer blocks -/

theorem r_mono {ρ' : List Nat} (hp : ∀ (i g : Nat), ρ[i]? = some g → ρ'[i]? = some g) : ∀ {c : C} {xs : List Value}, c.r env ρ xs → c.r env ρ' xs := by
  intro c
  induction c with
  | ptr b o => intro xs h; obtain ⟨g, hg, hx⟩ := h; exact ⟨g, hp _ _ hg, hx⟩
  | sl b o n c => intro xs h; obtain ⟨g, hg, hx⟩ := h; exact ⟨g, hp _ _ hg, hx⟩
  | map b => intro xs h; obtain ⟨g, hg, hx⟩ := h; exact ⟨g, hp _ _ hg, hx⟩
  | fn f a b iha ihb => intro xs h; obtain ⟨as, bs, h1, h2, hx⟩ := h; exact ⟨as, bs, iha h1, ihb h2, hx⟩
  | iface t v ih => intro xs h; obtain ⟨x, h1, hx⟩ := h; exact ⟨x, ih h1, hx⟩
  | agg l ih => intro xs h; obtain ⟨x, h1, hx⟩ := h; exact ⟨x, ih h1, hx⟩
  | tup l ih => intro xs h; obtain ⟨x, h1, hx⟩ := h; exact ⟨x, ih h1, hx⟩
  | cons a b iha ihb => intro xs h; obtain ⟨y, ys, h1, h2, hx⟩ := h; exact ⟨y, ys, iha h1, ihb h2, hx⟩
  | _ => intro xs h; exact h

theorem Rels.mono {ρ' : List Nat} (hp : ∀ (i g : Nat), ρ[i]? = some g → ρ'[i]? = some g) {cs : List C} {xs : List Value} (h : Rels env ρ cs xs) : Rels env ρ' cs xs :=
  ⟨h.1, fun i c x hc hx => r_mono hp (h.2 i c x hc hx)⟩

end

/-- What points to a block from 'm' on is forgotten. -/
def C.cut (m : Nat) : C → C
  | .ptr b o => if Nat.blt b m then .ptr b o else .bad
  | .sl b o n c => if Nat.blt b m then .sl b o n c else .bad
  | .map b => if Nat.blt b m then .map b else .bad
  | .fn f a b => .fn f (a.cut m) (b.cut m)
  | .iface t v => .iface t (v.cut m)
  | .agg l => .agg (l.cut m)
  | .tup l => .tup (l.cut m)
  | .cons a b => .cons (a.cut m) (b.cut m)
  | c => c

/-- Does nothing in it point to a block from 'm' on? -/
def C.clean (m : Nat) : C → Bool
  | .ptr b _ => Nat.blt b m
  | .sl b _ _ _ => Nat.blt b m
  | .map b => Nat.blt b m
  | .fn _ a b => a.clean m && b.clean m
  | .iface _ v => v.clean m
  | .agg l => l.clean m
  | .tup l => l.clean m
  | .cons a b => a.clean m && b.clean m
  | _ => true

theorem cut_r {env : Env} {ρ : List Nat} (m : Nat) : ∀ {c : C} {xs : List Value}, c.r env ρ xs → (c.cut m).r env (ρ.take m) xs := by
  have key : ∀ (b g : Nat), b < m → ρ[b]? = some g → (ρ.take m)[b]? = some g := fun b g hb hg => by rw [List.getElem?_take_of_lt hb]; exact hg
  intro c
  induction c with
  | ptr b o =>
    intro xs h; obtain ⟨g, hg, hx⟩ := h
    simp only [C.cut]
    by_cases hb : b < m
    · rw [if_pos (by simpa using hb)]; exact ⟨g, key _ _ hb hg, hx⟩
    · rw [if_neg (by simpa using hb)]; exact ⟨_, hx⟩
  | sl b o n c =>
    intro xs h; obtain ⟨g, hg, hx⟩ := h
    simp only [C.cut]
    by_cases hb : b < m
    · rw [if_pos (by simpa using hb)]; exact ⟨g, key _ _ hb hg, hx⟩
    · rw [if_neg (by simpa using hb)]; exact ⟨_, hx⟩
  | map b =>
    intro xs h; obtain ⟨g, hg, hx⟩ := h
    simp only [C.cut]
    by_cases hb : b < m
    · rw [if_pos (by simpa using hb)]; exact ⟨g, key _ _ hb hg, hx⟩
    · rw [if_neg (by simpa using hb)]; exact ⟨_, hx⟩
  | fn f a b iha ihb => intro xs h; obtain ⟨as, bs, h1, h2, hx⟩ := h; exact ⟨as, bs, iha h1, ihb h2, hx⟩
  | iface t v ih => intro xs h; obtain ⟨x, h1, hx⟩ := h; exact ⟨x, ih h1, hx⟩
  | agg l ih => intro xs h; obtain ⟨x, h1, hx⟩ := h; exact ⟨x, ih h1, hx⟩
  | tup l ih => intro xs h; obtain ⟨x, h1, hx⟩ := h; exact ⟨x, ih h1, hx⟩
  | cons a b iha ihb => intro xs h; obtain ⟨y, ys, h1, h2, hx⟩ := h; exact ⟨y, ys, iha h1, ihb h2, hx⟩
  | _ => intro xs h; exact h

/-! ### The same value -/

def C.beq : C → C → Bool
  | .bad, c => match c with | .bad => true | _ => false
  | .int k e, c => match c with | .int k' e' => decide (k = k') && e.beq e' | _ => false
  | .bool e, c => match c with | .bool e' => e.beq e' | _ => false
  | .ptr b o, c => match c with | .ptr b' o' => Nat.beq b b' && Nat.beq o o' | _ => false
  | .old a, c => match c with | .old a' => decide (a = a') | _ => false
  | .osl i, c => match c with | .osl j => Nat.beq i j | _ => false
  | .optr i e s o, c => match c with | .optr i' e' s' o' => Nat.beq i i' && e.beq e' && Nat.beq s s' && Nat.beq o o' | _ => false
  | .nilptr, c => match c with | .nilptr => true | _ => false
  | .nilif, c => match c with | .nilif => true | _ => false
  | .nilfn, c => match c with | .nilfn => true | _ => false
  | .nilmap, c => match c with | .nilmap => true | _ => false
  | .nilslice, c => match c with | .nilslice => true | _ => false
  | .str s, c => match c with | .str s' => decide (s = s') | _ => false
  | .sl b o n k, c => match c with | .sl b' o' n' k' => Nat.beq b b' && Nat.beq o o' && Nat.beq n n' && Nat.beq k k' | _ => false
  | .map b, c => match c with | .map b' => Nat.beq b b' | _ => false
  | .fn f x y, c => match c with | .fn f' x' y' => decide (f = f') && x.beq x' && y.beq y' | _ => false
  | .iface t v, c => match c with | .iface t' v' => Nat.beq t t' && v.beq v' | _ => false
  | .agg l, c => match c with | .agg l' => l.beq l' | _ => false
  | .tup l, c => match c with | .tup l' => l.beq l' | _ => false
  | .cons a b, c => match c with | .cons a' b' => a.beq a' && b.beq b' | _ => false
  | .nil, c => match c with | .nil => true | _ => false

theorem C.beq_eq : ∀ {a b : C}, a.beq b = true → a = b := by
  intro a
  induction a with
  | int k e => intro b h; cases b <;> simp [C.beq] at h; obtain ⟨rfl, h⟩ := h; rw [E.beq_eq h]
  | bool e => intro b h; cases b <;> simp [C.beq] at h; rw [E.beq_eq h]
  | ptr b o => intro b h; cases b <;> simp [C.beq] at h; rw [h.1, h.2]
  | old a => intro b h; cases b <;> simp [C.beq] at h; rw [h]
  | osl i => intro b h; cases b <;> simp [C.beq] at h; rw [h]
  | optr i e s o => intro b h; cases b <;> simp [C.beq] at h; obtain ⟨⟨⟨h1, h2⟩, h3⟩, h4⟩ := h; rw [h1, E.beq_eq h2, h3, h4]
  | str s => intro b h; cases b <;> simp [C.beq] at h; rw [h]
  | sl b o n k => intro b h; cases b <;> simp [C.beq] at h; obtain ⟨⟨⟨h1, h2⟩, h3⟩, h4⟩ := h; rw [h1, h2, h3, h4]
  | map b => intro b h; cases b <;> simp [C.beq] at h; rw [h]
  | fn f x y ihx ihy => intro b h; cases b <;> simp [C.beq] at h; obtain ⟨⟨rfl, h1⟩, h2⟩ := h; rw [ihx h1, ihy h2]
  | iface t v ih => intro b h; cases b <;> simp [C.beq] at h; obtain ⟨rfl, h1⟩ := h; rw [ih h1]
  | agg l ih => intro b h; cases b <;> simp [C.beq] at h; rw [ih h]
  | tup l ih => intro b h; cases b <;> simp [C.beq] at h; rw [ih h]
  | cons x y ihx ihy => intro b h; cases b <;> simp [C.beq] at h; rw [ihx h.1, ihy h.2]
  | _ => intro b h; cases b <;> simp [C.beq] at h; rfl

/-- Is all of it known? -/
def C.exact : C → Bool
  | .bad => false
  | .fn _ a b => a.exact && b.exact
  | .iface _ v => v.exact
  | .agg l => l.exact
  | .tup l => l.exact
  | .cons a b => a.exact && b.exact
  | _ => true

theorem exact_eq {env : Env} {ρ ρ' : List Nat} (hp : ∀ (i g : Nat), ρ[i]? = some g → ρ'[i]? = some g) : ∀ {c : C} {xs ys : List Value}, c.exact = true → c.r env ρ xs → c.r env ρ' ys → xs = ys := by
  intro c
  induction c with
  | bad => intro xs ys h; cases h
  | int k e => intro xs ys _ h h'; rw [h.1, h'.1]
  | ptr b o => intro xs ys _ h h'; obtain ⟨g, hg, rfl⟩ := h; obtain ⟨g', hg', rfl⟩ := h'; rw [hp _ _ hg] at hg'; cases hg'; rfl
  | sl b o n c => intro xs ys _ h h'; obtain ⟨g, hg, rfl⟩ := h; obtain ⟨g', hg', rfl⟩ := h'; rw [hp _ _ hg] at hg'; cases hg'; rfl
  | map b => intro xs ys _ h h'; obtain ⟨g, hg, rfl⟩ := h; obtain ⟨g', hg', rfl⟩ := h'; rw [hp _ _ hg] at hg'; cases hg'; rfl
  | optr i e s o => intro xs ys _ h h'; obtain ⟨g, hg, _, _, rfl⟩ := h; obtain ⟨g', hg', _, _, rfl⟩ := h'; rw [hg] at hg'; cases hg'; rfl
  | fn f a b iha ihb =>
    intro xs ys he h h'; obtain ⟨as, bs, h1, h2, rfl⟩ := h; obtain ⟨as', bs', h1', h2', rfl⟩ := h'
    simp only [C.exact, Bool.and_eq_true] at he
    rw [iha he.1 h1 h1', ihb he.2 h2 h2']
  | iface t v ih => intro xs ys he h h'; obtain ⟨x, h1, rfl⟩ := h; obtain ⟨x', h1', rfl⟩ := h'; have := ih he h1 h1'; simp at this; rw [this]
  | agg l ih => intro xs ys he h h'; obtain ⟨x, h1, rfl⟩ := h; obtain ⟨x', h1', rfl⟩ := h'; rw [ih he h1 h1']
  | tup l ih => intro xs ys he h h'; obtain ⟨x, h1, rfl⟩ := h; obtain ⟨x', h1', rfl⟩ := h'; rw [ih he h1 h1']
  | cons a b iha ihb =>
    intro xs ys he h h'; obtain ⟨y, ys', h1, h2, rfl⟩ := h; obtain ⟨y', ys'', h1', h2', rfl⟩ := h'
    simp only [C.exact, Bool.and_eq_true] at he
    have := iha he.1 h1 h1'; simp at this
    rw [this, ihb he.2 h2 h2']
  | _ => intro xs ys _ h h'; simp only [C.r] at h h'; rw [h, h']

/-! ### One value out of two -/

def C.sameLen : C → C → Bool
  | .nil, c => match c with | .nil => true | _ => false
  | .cons _ b, c => match c with | .cons _ b' => b.sameLen b' | _ => false
  | _, _ => false

/-- 'if c then a else b'; 'lst': a list, element by element. -/
def C.mg (c : E) : C → Bool → C → C
  | .int k e, l, b => match l with
    | true => .bad
    | false => match b with
      | .int k' e' => if decide (k = k') then .int k (mkIte c e e') else .bad
      | _ => .bad
  | .bool e, l, b => match l with
    | true => .bad
    | false => match b with
      | .bool e' => .bool (mkIteB c e e')
      | _ => .bad
  | .agg x, l, b => match l with
    | true => .bad
    | false => match b with
      | .agg y => if x.sameLen y then .agg (x.mg c true y) else .bad
      | _ => .bad
  | .tup x, l, b => match l with
    | true => .bad
    | false => match b with
      | .tup y => if x.sameLen y then .tup (x.mg c true y) else .bad
      | _ => .bad
  | .iface t x, l, b => match l with
    | true => .bad
    | false => match b with
      | .iface u y => if Nat.beq t u then .iface t (x.mg c false y) else .bad
      | _ => .bad
  | .cons x xs, l, b => match l with
    | false => .bad
    | true => match b with
      | .cons y ys => .cons (x.mg c false y) (xs.mg c true ys)
      | _ => .bad
  | .nil, l, _ => match l with
    | false => .bad
    | true => .nil
  | a, l, b => match l with
    | true => .bad
    | false => if a.beq b then a else .bad

section
variable {env : Env} {ρ : List Nat} {c : E}

theorem bad_r (x : Value) : C.bad.r env ρ [x] := ⟨x, rfl⟩

theorem mg_left (hc : c.tt env = true) : ∀ {a : C} {l : Bool} {b : C} {xs : List Value}, a.r env ρ xs → (if l then a.sameLen b = true else ∃ x, xs = [x]) → (a.mg c l b).r env ρ xs := by
  have hI : ∀ a b : E, (mkIte c a b).den env = a.den env := fun a b => by rw [mkIte_den, if_pos hc]
  have hB : ∀ a b : E, (mkIteB c a b).tt env = a.tt env := fun a b => by rw [mkIteB_tt, if_pos hc]
  intro a
  induction a with
  | int k e =>
    intro l b xs h hl
    cases l with
    | true => simp [C.sameLen] at hl
    | false =>
      obtain ⟨x, rfl⟩ : ∃ x, xs = [x] := by simpa using hl
      simp only [C.mg]
      cases b <;> try exact bad_r x
      rename_i k' e'
      simp only []
      split
      · simp only [C.r, hI]; exact h
      · exact bad_r x
  | bool e =>
    intro l b xs h hl
    cases l with
    | true => simp [C.sameLen] at hl
    | false =>
      obtain ⟨x, rfl⟩ : ∃ x, xs = [x] := by simpa using hl
      simp only [C.mg]
      cases b <;> try exact bad_r x
      simp only [C.r, hB]; exact h
  | agg u ih =>
    intro l b xs h hl
    cases l with
    | true => simp [C.sameLen] at hl
    | false =>
      obtain ⟨x, rfl⟩ : ∃ x, xs = [x] := by simpa using hl
      simp only [C.mg]
      cases b <;> try exact bad_r x
      simp only []
      split
      · rename_i hs
        obtain ⟨ys, h1, hx⟩ := h
        exact ⟨ys, ih h1 (by simpa using hs), hx⟩
      · exact bad_r x
  | tup u ih =>
    intro l b xs h hl
    cases l with
    | true => simp [C.sameLen] at hl
    | false =>
      obtain ⟨x, rfl⟩ : ∃ x, xs = [x] := by simpa using hl
      simp only [C.mg]
      cases b <;> try exact bad_r x
      simp only []
      split
      · rename_i hs
        obtain ⟨ys, h1, hx⟩ := h
        exact ⟨ys, ih h1 (by simpa using hs), hx⟩
      · exact bad_r x
  | iface t u ih =>
    intro l b xs h hl
    cases l with
    | true => simp [C.sameLen] at hl
    | false =>
      obtain ⟨x, rfl⟩ : ∃ x, xs = [x] := by simpa using hl
      simp only [C.mg]
      cases b <;> try exact bad_r x
      simp only []
      split
      · obtain ⟨y, h1, hx⟩ := h
        exact ⟨y, ih h1 (by simp), hx⟩
      · exact bad_r x
  | cons u us ihu ihus =>
    intro l b xs h hl
    cases l with
    | false =>
      obtain ⟨x, rfl⟩ : ∃ x, xs = [x] := by simpa using hl
      exact bad_r x
    | true =>
      simp only [if_true] at hl
      cases b <;> simp only [C.sameLen, Bool.false_eq_true] at hl
      obtain ⟨y, ys, h1, h2, rfl⟩ := h
      exact ⟨y, ys, ihu h1 (by simp), ihus h2 (by simpa using hl), rfl⟩
  | nil =>
    intro l b xs h hl
    cases l with
    | false =>
      obtain ⟨x, rfl⟩ : ∃ x, xs = [x] := by simpa using hl
      exact bad_r x
    | true => exact h
  | _ =>
    intro l b xs h hl
    cases l with
    | true => simp [C.sameLen] at hl
    | false =>
      obtain ⟨x, rfl⟩ : ∃ x, xs = [x] := by simpa using hl
      simp only [C.mg]
      split
      · exact h
      · exact bad_r x

theorem mg_right (hc : c.tt env = false) : ∀ {a : C} {l : Bool} {b : C} {xs : List Value}, b.r env ρ xs → (if l then a.sameLen b = true else ∃ x, xs = [x]) → (a.mg c l b).r env ρ xs := by
  have hI : ∀ a b : E, (mkIte c a b).den env = b.den env := fun a b => by rw [mkIte_den, hc]; simp
  have hB : ∀ a b : E, (mkIteB c a b).tt env = b.tt env := fun a b => by rw [mkIteB_tt, hc]; simp
  intro a
  induction a with
  | int k e =>
    intro l b xs h hl
    cases l with
    | true => simp [C.sameLen] at hl
    | false =>
      obtain ⟨x, rfl⟩ : ∃ x, xs = [x] := by simpa using hl
      simp only [C.mg]
      cases b <;> try exact bad_r x
      rename_i k' e'
      simp only []
      split
      · rename_i hk
        have hk' : k = k' := of_decide_eq_true hk
        subst hk'
        simp only [C.r, hI]; exact h
      · exact bad_r x
  | bool e =>
    intro l b xs h hl
    cases l with
    | true => simp [C.sameLen] at hl
    | false =>
      obtain ⟨x, rfl⟩ : ∃ x, xs = [x] := by simpa using hl
      simp only [C.mg]
      cases b <;> try exact bad_r x
      simp only [C.r, hB]; exact h
  | agg u ih =>
    intro l b xs h hl
    cases l with
    | true => simp [C.sameLen] at hl
    | false =>
      obtain ⟨x, rfl⟩ : ∃ x, xs = [x] := by simpa using hl
      simp only [C.mg]
      cases b <;> try exact bad_r x
      simp only []
      split
      · rename_i hs
        obtain ⟨ys, h1, hx⟩ := h
        exact ⟨ys, ih h1 (by simpa using hs), hx⟩
      · exact bad_r x
  | tup u ih =>
    intro l b xs h hl
    cases l with
    | true => simp [C.sameLen] at hl
    | false =>
      obtain ⟨x, rfl⟩ : ∃ x, xs = [x] := by simpa using hl
      simp only [C.mg]
      cases b <;> try exact bad_r x
      simp only []
      split
      · rename_i hs
        obtain ⟨ys, h1, hx⟩ := h
        exact ⟨ys, ih h1 (by simpa using hs), hx⟩
      · exact bad_r x
  | iface t u ih =>
    intro l b xs h hl
    cases l with
    | true => simp [C.sameLen] at hl
    | false =>
      obtain ⟨x, rfl⟩ : ∃ x, xs = [x] := by simpa using hl
      simp only [C.mg]
      cases b <;> try exact bad_r x
      simp only []
      split
      · rename_i t' v' ht
        obtain rfl : t = t' := by simpa using ht
        obtain ⟨y, h1, hx⟩ := h
        exact ⟨y, ih h1 (by simp), hx⟩
      · exact bad_r x
  | cons u us ihu ihus =>
    intro l b xs h hl
    cases l with
    | false =>
      obtain ⟨x, rfl⟩ : ∃ x, xs = [x] := by simpa using hl
      exact bad_r x
    | true =>
      simp only [if_true] at hl
      cases b <;> simp only [C.sameLen, Bool.false_eq_true] at hl
      obtain ⟨y, ys, h1, h2, rfl⟩ := h
      exact ⟨y, ys, ihu h1 (by simp), ihus h2 (by simpa using hl), rfl⟩
  | nil =>
    intro l b xs h hl
    cases l with
    | false =>
      obtain ⟨x, rfl⟩ : ∃ x, xs = [x] := by simpa using hl
      exact bad_r x
    | true =>
      simp only [if_true] at hl
      cases b <;> simp only [C.sameLen, Bool.false_eq_true] at hl
      exact h
  | _ =>
    intro l b xs h hl
    cases l with
    | true => simp [C.sameLen] at hl
    | false =>
      obtain ⟨x, rfl⟩ : ∃ x, xs = [x] := by simpa using hl
      simp only [C.mg]
      split
      · rename_i hb; rw [C.beq_eq hb]; exact h
      · exact bad_r x

end

/-! ### The model's values as values -/

def C.ofV0 : Value → C
  | .bool b => .bool (.lit (b2i b))
  | .int k n => if inKb k n then .int k (.lit n) else .bad
  | .string s => .str s
  | .pointer none => .nilptr
  | .nilIface => .nilif
  | .nilFunc => .nilfn
  | .map none => .nilmap
  | .slice none 0 0 => .nilslice
  | _ => .bad

def C.ofV : Value → C
  | .agg cs => .agg (.toC (cs.toList.map .ofV0))
  | v => .ofV0 v

theorem ofV0_r (env : Env) (ρ : List Nat) (v : Value) : (C.ofV0 v).r env ρ [v] := by
  unfold C.ofV0
  split <;> try (simp [C.r]; done)
  · rename_i b; cases b <;> simp [C.r, E.tt, E.den, E.d, b2i]
  · rename_i k n
    split
    · rename_i h; exact ⟨rfl, inKb_iff.1 h⟩
    · exact ⟨_, rfl⟩

theorem ofV0s_r (env : Env) (ρ : List Nat) (vs : List Value) : Rels env ρ (vs.map C.ofV0) vs :=
  ⟨by simp, fun i c x hc hx => by
    rw [List.getElem?_map, hx] at hc
    simp at hc; subst hc; exact ofV0_r ..⟩

theorem ofV_r (env : Env) (ρ : List Nat) (v : Value) : (C.ofV v).r env ρ [v] := by
  unfold C.ofV
  split
  · rename_i cs
    exact ⟨cs.toList, toC_r.2 (ofV0s_r ..), by simp⟩
  · exact ofV0_r ..

end Go.Sx
