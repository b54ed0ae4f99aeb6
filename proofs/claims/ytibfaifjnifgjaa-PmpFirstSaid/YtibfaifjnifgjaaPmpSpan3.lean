/-
  The summary of Span, for an entry that is known. No condition.
-/
import Derived.Test.YtibfaifjnifgjaaPmpSpan2
namespace Go.Proofs.Ytibfaifjnifgjaa
open Go.Sx Go.RowKit

/-! ### The terms' meaning -/

def lowN (a : Int) : Int := binDen .or .u64 (binDen .shl .u64 (binDen .andNot .u64 a (binDen .add .u64 a 1)) 1) 1
def napFromN (a : Int) : Int := binDen .shl .u64 (binDen .andNot .u64 a (lowN a)) 2
def napToN (a : Int) : Int := binDen .add .u64 (napFromN a) (binDen .or .u64 (binDen .shl .u64 (lowN a) 2) 3)
def fromG (k p a : Int) : Int :=
  if binDen .eql .i64 k 1 ≠ 0 then (if binDen .lss .u64 p a ≠ 0 then binDen .shl .u64 p 2 else 0) else if binDen .eql .i64 k 2 ≠ 0 then binDen .shl .u64 a 2 else if binDen .eql .i64 k 3 ≠ 0 then (if binDen .eql .u64 a m54 ≠ 0 then 0 else napFromN a) else 0
def toG (k p a : Int) : Int :=
  if binDen .eql .i64 k 1 ≠ 0 then (if binDen .lss .u64 p a ≠ 0 then binDen .sub .u64 (binDen .shl .u64 a 2) 1 else 0) else if binDen .eql .i64 k 2 ≠ 0 then binDen .add .u64 (binDen .shl .u64 a 2) 3
  else if binDen .eql .i64 k 3 ≠ 0 then (if binDen .eql .u64 a m54 ≠ 0 then 18446744073709551615 else napToN a) else 0
def okG (k p a : Int) : Int := if binDen .eql .i64 k 1 ≠ 0 then binDen .lss .u64 p a else if binDen .eql .i64 k 2 ≠ 0 then 1 else binDen .eql .i64 k 3

section
variable {env env' : Env} {c p a c' p' a' : E}

theorem fromE_den (env : Env) (c p a : E) : (fromE c p a).den env = fromG ((kindT c).den env) (p.den env) (a.den env) := rfl
theorem toE_den (env : Env) (c p a : E) : (toE c p a).den env = toG ((kindT c).den env) (p.den env) (a.den env) := rfl
theorem okE_den (env : Env) (c p a : E) : (okE c p a).den env = okG ((kindT c).den env) (p.den env) (a.den env) := rfl

theorem fromE_same (hc : (kindT c).den env = (kindT c').den env') (hp : p.den env = p'.den env') (ha : a.den env = a'.den env') : (fromE c p a).den env = (fromE c' p' a').den env' := by
  rw [fromE_den, fromE_den, hc, hp, ha]
theorem toE_same (hc : (kindT c).den env = (kindT c').den env') (hp : p.den env = p'.den env') (ha : a.den env = a'.den env') : (toE c p a).den env = (toE c' p' a').den env' := by
  rw [toE_den, toE_den, hc, hp, ha]
theorem okE_same (hc : (kindT c).den env = (kindT c').den env') (hp : p.den env = p'.den env') (ha : a.den env = a'.den env') : (okE c p a).den env = (okE c' p' a').den env' := by
  rw [okE_den, okE_den, hc, hp, ha]

end

theorem fkind (x : Int) (env : Env) (e : E) (h : e.den env = x) : (kindT e).den env = (kindT (.var 0)).den (envL [byteF x]) := by
  rw [(byte_facts x).2.2.1]
  show IntKind.i64.wrap (binDen .and .u8 (binDen .shr .u8 (e.den env) 3) 3) = _
  rw [h]
  rfl

theorem from_sem (env : Env) (c p a : E) (x : Int) (h : c.den env = x) : (fromE c p a).den env = fromF (byteF x) (p.den env) (a.den env) :=
  fromE_same (by rw [fkind x env c h]; rfl) rfl rfl
theorem to_sem (env : Env) (c p a : E) (x : Int) (h : c.den env = x) : (toE c p a).den env = toF (byteF x) (p.den env) (a.den env) :=
  toE_same (by rw [fkind x env c h]; rfl) rfl rfl
theorem ok_sem (env : Env) (c p a : E) (x : Int) (h : c.den env = x) : (okE c p a).den env = okF (byteF x) (p.den env) (a.den env) :=
  okE_same (by rw [fkind x env c h]; rfl) rfl rfl

/-! ### The summary -/

noncomputable def getE (es : List E) (i : Nat) : E := (getL es i).getD (.lit 0)

noncomputable def app3 (g : Nat) (c p a : E) : E := .app g (.cons c (.cons p (.cons a .nil)))

noncomputable def spanAns (nrm : E → E) (es : List E) (i : Nat) : C :=
  let c := pushB (getE es i)
  let p := match i with
    | 0 => .lit 0
    | j + 1 => nrm (mkBin .and .u64 (getE es (16 + j)) (.lit m54))
  let a := nrm (mkBin .and .u64 (getE es (16 + i)) (.lit m54))
  .tup (.cons (.int .u64 (nrm (app3 23 c p a))) (.cons (.int .u64 (nrm (app3 24 c p a))) (.cons (.bool (nrm (app3 25 c p a))) .nil)))

noncomputable def sgSpan (nrm : E → E) (f : FuncId) (vs : List C) : Option C :=
  if Nat.beq f 41 || Nat.beq f 42 then match parseA spanSh vs with
    | some es => match getL es 32 with
      | some (.lit (.ofNat i)) => if Nat.blt i 16 then some (spanAns nrm es i) else none
      | _ => none
    | none => none
  else none

theorem span41_0 : spanRun 41 0 = true := by kernel_rfl
theorem span41_1 : spanRun 41 1 = true := by kernel_rfl
theorem span41_2 : spanRun 41 2 = true := by kernel_rfl
theorem span41_3 : spanRun 41 3 = true := by kernel_rfl
theorem span41_4 : spanRun 41 4 = true := by kernel_rfl
theorem span41_5 : spanRun 41 5 = true := by kernel_rfl
theorem span41_6 : spanRun 41 6 = true := by kernel_rfl
theorem span41_7 : spanRun 41 7 = true := by kernel_rfl
theorem span41_8 : spanRun 41 8 = true := by kernel_rfl
theorem span41_9 : spanRun 41 9 = true := by kernel_rfl
theorem span41_10 : spanRun 41 10 = true := by kernel_rfl
theorem span41_11 : spanRun 41 11 = true := by kernel_rfl
theorem span41_12 : spanRun 41 12 = true := by kernel_rfl
theorem span41_13 : spanRun 41 13 = true := by kernel_rfl
theorem span41_14 : spanRun 41 14 = true := by kernel_rfl
theorem span41_15 : spanRun 41 15 = true := by kernel_rfl
theorem span41 : ∀ i, i < 16 → spanRun 41 i = true := below16 span41_0 span41_1 span41_2 span41_3 span41_4 span41_5 span41_6 span41_7 span41_8 span41_9 span41_10 span41_11 span41_12 span41_13 span41_14 span41_15
theorem span42_0 : spanRun 42 0 = true := by kernel_rfl
theorem span42_1 : spanRun 42 1 = true := by kernel_rfl
theorem span42_2 : spanRun 42 2 = true := by kernel_rfl
theorem span42_3 : spanRun 42 3 = true := by kernel_rfl
theorem span42_4 : spanRun 42 4 = true := by kernel_rfl
theorem span42_5 : spanRun 42 5 = true := by kernel_rfl
theorem span42_6 : spanRun 42 6 = true := by kernel_rfl
theorem span42_7 : spanRun 42 7 = true := by kernel_rfl
theorem span42_8 : spanRun 42 8 = true := by kernel_rfl
theorem span42_9 : spanRun 42 9 = true := by kernel_rfl
theorem span42_10 : spanRun 42 10 = true := by kernel_rfl
theorem span42_11 : spanRun 42 11 = true := by kernel_rfl
theorem span42_12 : spanRun 42 12 = true := by kernel_rfl
theorem span42_13 : spanRun 42 13 = true := by kernel_rfl
theorem span42_14 : spanRun 42 14 = true := by kernel_rfl
theorem span42_15 : spanRun 42 15 = true := by kernel_rfl
theorem span42 : ∀ i, i < 16 → spanRun 42 i = true := below16 span42_0 span42_1 span42_2 span42_3 span42_4 span42_5 span42_6 span42_7 span42_8 span42_9 span42_10 span42_11 span42_12 span42_13 span42_14 span42_15

theorem f23 {env : Env} (h : EnvF Phi env) (l : List Int) : env.f 23 l = fromF (cAt l 0) (cAt l 1) (cAt l 2) := h.1 23 l (by decide)
theorem f24 {env : Env} (h : EnvF Phi env) (l : List Int) : env.f 24 l = toF (cAt l 0) (cAt l 1) (cAt l 2) := h.1 24 l (by decide)
theorem f25 {env : Env} (h : EnvF Phi env) (l : List Int) : env.f 25 l = okF (cAt l 0) (cAt l 1) (cAt l 2) := h.1 25 l (by decide)

theorem app3_den (env : Env) (g : Nat) (c p a : E) : (app3 g c p a).den env = env.f g [c.den env, p.den env, a.den env] := rfl

theorem withV_var (env : Env) (es : List E) (i : Nat) (h : i < es.length) : (E.var i).den (withV env (es.map (E.den env))) = (getE es i).den env := by
  show ((es.map (E.den env))[i]?).getD 0 = ((getL es i).getD (.lit 0)).den env
  rw [getL_eq, List.getElem?_map, List.getElem?_eq_getElem h]; rfl

theorem a54_nrm {env : Env} {nrm : E → E} (hn : ∀ e, (nrm e).den env = e.den env) (es : List E) (i : Nat) (h : i < es.length) : (a54 (.var i)).den (withV env (es.map (E.den env))) = (nrm (mkBin .and .u64 (getE es i) (.lit m54))).den env := by
  rw [hn, mkBin_den, ← withV_var env es i h]; rfl

theorem parse_len2 {ks : List (Option IntKind)} {k : Option IntKind} {vs : List C} {es : List E} (h : parseA [.agg ks, .one k] vs = some es) : es.length = ks.length + 1 := by
  match vs, h with
  | c :: cs, h =>
    unfold parseA at h
    split at h
    · split at h
      · split at h
        · rename_i he
          split at h
          · rename_i r hr
            simp only [Option.some.injEq] at h
            have hl := unflat_len _ _ _ he
            match cs, hr with
            | d :: ds, hr =>
              unfold parseA at hr
              split at hr
              · rename_i he2
                split at hr
                · rename_i r2 hr2
                  simp only [Option.some.injEq] at hr
                  have hl2 := unflat_len _ _ _ he2
                  have : r2 = [] := by cases ds with
                    | nil => simp [parseA] at hr2; exact hr2
                    | cons => simp [parseA] at hr2
                  rw [← h, ← hr, this]; simp [hl, hl2]
                · cases hr
              · cases hr
            | [], hr => simp [parseA] at hr
          · cases h
        · cases h
      · cases h
    · cases h

set_option maxRecDepth 100000 in
theorem span_same {env : Env} (hF : EnvF Phi env) {nrm : E → E} (hn : ∀ e, (nrm e).den env = e.den env) (es : List E) (hlen : es.length = 33) {i f : Nat} (hlt : i < 16) (hf : Nat.beq f 41 = true ∨ Nat.beq f 42 = true) :
    C.same (withV env (es.map (E.den env))) env (spanR f i) (spanAns nrm es i) := by
  have hc := withV_var env es i (by omega)
  have hpc : (pushB (getE es i)).den env = byteF ((getE es i).den env) := pushB_den hF _
  have hA := a54_nrm hn es (16 + i) (by omega)
  have hx : ∀ (p q : E), p.den (withV env (es.map (E.den env))) = q.den env → (fromE (.var i) p (a54 (.var (16 + i)))).den (withV env (es.map (E.den env))) = (nrm (app3 23 (pushB (getE es i)) q (nrm (mkBin .and .u64 (getE es (16 + i)) (.lit m54))))).den env := fun p q hpq => by
    rw [from_sem _ _ _ _ _ hc, hn, app3_den, f23 hF, hpc, ← hA, ← hpq]; rfl
  have hy : ∀ (p q : E), p.den (withV env (es.map (E.den env))) = q.den env → (toE (.var i) p (a54 (.var (16 + i)))).den (withV env (es.map (E.den env))) = (nrm (app3 24 (pushB (getE es i)) q (nrm (mkBin .and .u64 (getE es (16 + i)) (.lit m54))))).den env := fun p q hpq => by
    rw [to_sem _ _ _ _ _ hc, hn, app3_den, f24 hF, hpc, ← hA, ← hpq]; rfl
  have hz : ∀ (p q : E), p.den (withV env (es.map (E.den env))) = q.den env → (okE (.var i) p (a54 (.var (16 + i)))).den (withV env (es.map (E.den env))) = (nrm (app3 25 (pushB (getE es i)) q (nrm (mkBin .and .u64 (getE es (16 + i)) (.lit m54))))).den env := fun p q hpq => by
    rw [ok_sem _ _ _ _ _ hc, hn, app3_den, f25 hF, hpc, ← hA, ← hpq]; rfl
  have z4 : ∀ a : E, ((.lit 0 : E)).den (withV env (es.map (E.den env))) = (E.ite (ltT (.lit 0) a) (.bin .shl .u64 (.lit 0) (.lit 2)) (.lit 0)).den (withV env (es.map (E.den env))) := fun a => by
    rw [den_ite]; split <;> rfl
  rcases hf with hf | hf
  · have hf := Nat.eq_of_beq_eq_true hf
    subst hf
    match i, hlt, hx, hy, hz with
    | 0, _, hx, hy, hz => exact ansI_same (fun _ => rfl) (hx (.lit 0) (.lit 0) rfl) (hy (.lit 0) (.lit 0) rfl) (hz (.lit 0) (.lit 0) rfl)
    | j + 1, hlt, hx, hy, hz =>
      have hP := a54_nrm hn es (16 + j) (by omega)
      exact ansI_same (fun _ => rfl) (hx _ _ hP) (hy _ _ hP) (hz _ _ hP)
  · have hf := Nat.eq_of_beq_eq_true hf
    subst hf
    match i, hlt, hx, hy, hz with
    | 0, _, hx, hy, hz => exact ansR_same (z4 _) (hx (.lit 0) (.lit 0) rfl) (hy (.lit 0) (.lit 0) rfl) (hz (.lit 0) (.lit 0) rfl)
    | j + 1, hlt, hx, hy, hz =>
      have hP := a54_nrm hn es (16 + j) (by omega)
      exact ansR_same rfl (hx _ _ hP) (hy _ _ hP) (hz _ _ hP)

set_option maxRecDepth 100000 in
theorem sgSpan_ok {env : Env} (hF : EnvF Phi env) {nrm : E → E} (hn : ∀ e, (nrm e).den env = e.den env) : SgF env Try.prog (sgSpan nrm) := by
  intro f vs v hv ρ xs w hr
  unfold sgSpan at hv
  split at hv
  · rename_i hf
    simp only [Bool.or_eq_true] at hf
    split at hv
    · rename_i es hes
      split at hv
      · rename_i i hi
        split at hv
        · rename_i hlt
          simp only [Option.some.injEq] at hv; subst hv
          have hlt : i < 16 := Nat.le_of_ble_eq_true hlt
          have hlen : es.length = 33 := parse_len2 hes
          have hrun : spanRun f i = true := by
            rcases hf with hf | hf
            · rw [Nat.eq_of_beq_eq_true hf]; exact span41 i hlt
            · rw [Nat.eq_of_beq_eq_true hf]; exact span42 i hlt
          have hj : (E.var 32).den (withV env (es.map (E.den env))) = Int.ofNat i := by
            rw [withV_var env es 32 (by omega), getE, hi]; rfl
          have heq : ∀ env', ∀ p ∈ spanEqs (.var (16 + i)), p.1.den env' = p.2.den env' := fun env' => spanEqs_ok env' _
          obtain ⟨h1, h2⟩ := sum_calls_fix (Φ := Phi) (.var 32) (Int.ofNat i) rfl hrun hF (fun env' hF' _ e => nrmS_den hF' (heq env') e) (fun env' hF' hn' => sgAll_ok hF' hn') hes hj hr w
          refine ⟨h1, h2.mono ?_⟩
          rintro e w' ⟨z, ρ', rfl, hz, hb⟩
          refine ⟨z, rfl, same_r ?_ hz, hb⟩
          exact span_same hF hn es hlen hlt hf
        · cases hv
      · cases hv
    · cases hv
  · cases hv

end Go.Proofs.Ytibfaifjnifgjaa
