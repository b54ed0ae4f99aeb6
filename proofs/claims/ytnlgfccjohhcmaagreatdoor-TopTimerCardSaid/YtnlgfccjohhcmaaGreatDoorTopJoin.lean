/-
  The console takes bytes: its walk. No condition.
-/
import Derived.Test.YtnlgfccjohhcmaaGreatDoorTopAp
import Derived.Deep.RegionLaw
import Derived.Deep.RegionLawGrows
import Derived.BigRegion
import Derived.WalkKit
namespace Go.Top
open Go Go.Proofs Go.MuLone Go.Sx


theorem step_join {P : Program} {ops : Array Oper} {o : Oper} {a : Act} {w : World} {K : Act → World → Prop} {Q : Exit → Act → World → Prop} {E : Prop}
    (hg : o.guard = none) (s x : Operand) (hop : o.op = Op.call { callee := Callee.builtin Builtin.append, args := #[s, x], argTypes := #[35, 35] })
    (v y : Value) (hs : a.eval s = v) (hx : a.eval x = y) {q : Value} {w' : World} (hrun : (Builtin.append_ #[35, 35] o.type #[v, y]).run P w = .ok q w') (hK : K (a.put o.dst q) w') :
    if Region.wanted o (yielded ops a.tmps) = true then Oper.wp P o a w K Q else E := by
  have hw : Region.wanted o (yielded ops a.tmps) = true := by simp [Region.wanted, hg]
  rw [if_pos hw]
  unfold Oper.wp
  simp [execOp, hop, resolve, invoke, builtin, hs, hx, hrun, Result.andThen]
  exact hK

def pickR (c : Code) : Code :=
  match c with
  | .seq _ b => match b with
    | .seq _ b => match b with
      | .seq _ b => match b with
        | .seq a _ => a
        | _ => .skip
      | _ => .skip
    | _ => .skip
  | _ => .skip
noncomputable def reg3 : Code := match Tryz.f24.body with | some c => pickR c | none => .skip

set_option maxHeartbeats 1600000 in
theorem reg3_wp (g o : Nat) (ao bo : Option Addr) (n c m cb k : Nat) (x2 x3 x5 x6 x7 x8 x9 x10 x11 x12 x13 x14 x15 x16 x17 x18 x19 x20 x21 x22 x23 x24 x25 x26 x27 x28 x29 x30 x31 x32 x33 x34 x35 x36 x37 x38 : Value) (ds : List Deferred) (w : World)
    (h2 : w.cell? ⟨g, o + 2, none⟩ = some (.slice ao n c)) (hk : (k : Int) ≤ (cb : Int))
    (qa : Option Addr) (qn qc : Nat) (w1 : World) (y : Value) (hR : (Builtin.append_ #[35, 35] 35 #[.slice ao n c, .slice bo k cb]).run Tryz.prog w.drew = .ok (.slice qa qn qc) w1)
    (hc : w1.cell? ⟨g, o + 2, none⟩ = some y) (hf : w1.frozen? ⟨g, o + 2, none⟩ = false) :
    reg3.wp Tryz.prog (fun e a' w' => match e with | .normal => a' = { tmps := #[(.pointer (some ⟨g, o, none⟩)), (.slice bo m cb), x2, x3, (.int .i64 (k : Int)), x5, x6, x7, x8, x9, x10, x11, x12, x13, x14, x15, x16, x17, x18, x19, x20, (.pointer (some ⟨g, o, none⟩)), (.pointer (some ⟨g, o, none⟩)), (.pointer (some ⟨g, o, none⟩)), (.pointer (some ⟨g, o + 2, none⟩)), (.slice ao n c), (.slice bo m cb), (.int .i64 (k : Int)), (.slice bo k cb), (.slice qa qn qc), (.pointer (some ⟨g, o, none⟩)), (.pointer (some ⟨g, o + 2, none⟩)), x32, x33, x34, x35, x36, x37, x38], defers := ds } ∧ w' = w1.setCell ⟨g, o + 2, none⟩ (.slice qa qn qc) | _ => False) { tmps := #[(.pointer (some ⟨g, o, none⟩)), (.slice bo m cb), x2, x3, (.int .i64 (k : Int)), x5, x6, x7, x8, x9, x10, x11, x12, x13, x14, x15, x16, x17, x18, x19, x20, x21, x22, x23, x24, x25, x26, x27, x28, x29, x30, x31, x32, x33, x34, x35, x36, x37, x38], defers := ds } w := by
  unfold reg3 pickR
  simp only [Tryz.f24]
  go_region_law (refine step_join rfl (.tmp 25) (.tmp 28) rfl _ _ (by simp [Act.eval]) (by simp [Act.eval]) hR ?_)
  exact ⟨rfl, rfl⟩

set_option maxHeartbeats 1600000 in
theorem join_any (g o : Nat) (ao bo : Option Addr) (n c m cb : Nat) (w : World)
    (h0 : w.cell? ⟨g, o, none⟩ = some (.int .i32 0)) (h2 : w.cell? ⟨g, o + 2, none⟩ = some (.slice ao n c))
    (f0 : w.frozen? ⟨g, o, none⟩ = false) (hn : n ≤ 64) (hm : m ≤ cb)
    (R : Option Addr → Nat → Nat → World → Prop) (happ : ∀ k, k ≤ m → n + k ≤ 64 → ∃ qa qn qc w2 y x8, (Builtin.append_ #[35, 35] 35 #[.slice ao n c, .slice bo k cb]).run Tryz.prog (w.setCell ⟨g, o, none⟩ (.int .i32 1)).drew = .ok (.slice qa qn qc) w2 ∧ R qa qn qc w2 ∧
      w2.cell? ⟨g, o, none⟩ = some (.int .i32 1) ∧ w2.frozen? ⟨g, o, none⟩ = false ∧ w2.cell? ⟨g, o + 2, none⟩ = some y ∧ w2.frozen? ⟨g, o + 2, none⟩ = false ∧ w2.cell? ⟨g, o + 8, none⟩ = some x8 ∧ w2.frozen? ⟨g, o + 8, none⟩ = false) :
    Calls Tryz.prog 24 #[.pointer (some ⟨g, o, none⟩), .slice bo m cb] w fun e w' => e = .returned (.tuple #[]) ∧ ∃ qa qn qc w2, R qa qn qc w2 ∧
      (w' = ((w2.setCell ⟨g, o + 2, none⟩ (.slice qa qn qc)).setCell ⟨g, o + 8, none⟩ (.bool true)).setCell ⟨g, o, none⟩ (.int .i32 0) ∨ w' = (w2.setCell ⟨g, o + 2, none⟩ (.slice qa qn qc)).setCell ⟨g, o, none⟩ (.int .i32 0)) := by
  go_enter_defers Tryz.func24, Tryz.ntmps24
  go_wp2_with (go_at_call 21; refine (lock_free Tryz.muLib ⟨g, o, none⟩ _ h0 f0).mono ?_; rintro e w' ⟨rfl, rfl⟩)
  · obtain ⟨k, hkn⟩ : ∃ k : Nat, (64 : Int) - (n : Int) = (k : Int) := ⟨64 - n, by omega⟩
    rw [hkn]
    have hkm : (k : Int) < (m : Int) := by omega
    obtain ⟨qa, qn, qc, w2, y, x8, r1, r2, c0, z0, c2, z2, c8, z8⟩ := happ k (by omega) (by omega)
    have hx : (w.setCell ⟨g, o, none⟩ (.int .i32 1)).cell? ⟨g, o + 2, none⟩ = some (.slice ao n c) := by rw [World.cell?_setCell_other _ _ _ _ (by simp)]; exact h2
    have hr3 := fun x1 x2 x3 x4 x5 x6 x7 x8 x9 x10 x11 x12 x13 x14 x15 x16 x17 x18 x19 x20 x21 x22 x23 x24 x25 x26 x27 x28 x29 x30 x31 x32 x33 x34 x35 x36 ds => reg3_wp g o ao bo n c m cb k x1 x2 x3 x4 x5 x6 x7 x8 x9 x10 x11 x12 x13 x14 x15 x16 x17 x18 x19 x20 x21 x22 x23 x24 x25 x26 x27 x28 x29 x30 x31 x32 x33 x34 x35 x36 ds _ hx (by omega) qa qn qc w2 y r1 c2 z2
    unfold reg3 pickR at hr3
    simp only [Tryz.f24] at hr3
    rename_i hK
    refine Code.wp_mono ?_ (hr3 _ _ _ _ _ _ _ _ _ _ _ _ _ _ _ _ _ _ _ _ _ _ _ _ _ _ _ _ _ _ _ _ _ _ _ _ _)
    intro e a' w' hq
    cases e <;> first | exact hq.elim | skip
    obtain ⟨rfl, rfl⟩ := hq
    refine hK _ _ ?_
    clear hr3 happ hK
    go_wp2
    refine leaves_cons (f := 22) (args := #[.pointer (some ⟨g, o, none⟩)]) (by simp) (enter22 _ _) ?_
    refine (unlock_deferred Tryz.muLib ⟨g, o, none⟩ .returning _ ?_ ?_).mono ?_
    · first
        | exact (World.cell?_setCell_other _ _ _ _ (by simp)).trans ((World.cell?_setCell_other _ _ _ _ (by simp)).trans c0)
        | exact (World.cell?_setCell_other _ _ _ _ (by simp)).trans c0
    · first
        | exact z0
        | simp [z0]
    rintro e u' w'' ⟨rfl, rfl, rfl⟩
    simp [Leaves, settle, results, Tryz.results24]
    exact ⟨qa, qn, qc, w2, r2, .inl rfl⟩
  · obtain ⟨qa, qn, qc, w2, y, x8, r1, r2, c0, z0, c2, z2, c8, z8⟩ := happ m (by omega) (by omega)
    have hx : (w.setCell ⟨g, o, none⟩ (.int .i32 1)).cell? ⟨g, o + 2, none⟩ = some (.slice ao n c) := by rw [World.cell?_setCell_other _ _ _ _ (by simp)]; exact h2
    have hr3 := fun x1 x2 x3 x4 x5 x6 x7 x8 x9 x10 x11 x12 x13 x14 x15 x16 x17 x18 x19 x20 x21 x22 x23 x24 x25 x26 x27 x28 x29 x30 x31 x32 x33 x34 x35 x36 ds => reg3_wp g o ao bo n c m cb m x1 x2 x3 x4 x5 x6 x7 x8 x9 x10 x11 x12 x13 x14 x15 x16 x17 x18 x19 x20 x21 x22 x23 x24 x25 x26 x27 x28 x29 x30 x31 x32 x33 x34 x35 x36 ds _ hx (by omega) qa qn qc w2 y r1 c2 z2
    unfold reg3 pickR at hr3
    simp only [Tryz.f24] at hr3
    rename_i hK
    refine Code.wp_mono ?_ (hr3 _ _ _ _ _ _ _ _ _ _ _ _ _ _ _ _ _ _ _ _ _ _ _ _ _ _ _ _ _ _ _ _ _ _ _ _ _)
    intro e a' w' hq
    cases e <;> first | exact hq.elim | skip
    obtain ⟨rfl, rfl⟩ := hq
    refine hK _ _ ?_
    clear hr3 happ hK
    go_wp2
    refine leaves_cons (f := 22) (args := #[.pointer (some ⟨g, o, none⟩)]) (by simp) (enter22 _ _) ?_
    refine (unlock_deferred Tryz.muLib ⟨g, o, none⟩ .returning _ ?_ ?_).mono ?_
    · first
        | exact (World.cell?_setCell_other _ _ _ _ (by simp)).trans ((World.cell?_setCell_other _ _ _ _ (by simp)).trans c0)
        | exact (World.cell?_setCell_other _ _ _ _ (by simp)).trans c0
    · first
        | exact z0
        | simp [z0]
    rintro e u' w'' ⟨rfl, rfl, rfl⟩
    simp [Leaves, settle, results, Tryz.results24]
    exact ⟨qa, qn, qc, w2, r2, .inr rfl⟩
end Go.Top
