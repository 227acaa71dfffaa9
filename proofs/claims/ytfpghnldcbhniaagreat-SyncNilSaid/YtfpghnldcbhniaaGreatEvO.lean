/- What was made ready is what the model does: each operation, on. -/
import Derived.Test.YtfpghnldcbhniaaGreatEvN
namespace Go.Proofs.YtfpghnldcbhniaaGreat
set_option linter.unusedVariables false
set_option linter.unusedSimpArgs false
open Go.RowKit Go.Maps
namespace Ev

section
variable {P : Program} {B : Nat} {W : World} {ι : Pos → Option Nat} {h h' : H} {w w' : World} {fr : Fr} {a : Act} {c : Cx} {r : AV} {okT : Nat → Bool} {o : Oper} {k : Nat} {f : XOp}
variable {inf : TypeId → Option TypeInfo} {und : TypeId → Option TypeDesc} {kf : TypeId → AV → Bool} {ext : FuncId → Option (List Opd → XOp)}

def ExtOk (P : Program) (ext : FuncId → Option (List Opd → XOp)) : Prop := ∀ f g, ext f = some g → ∀ (c : Cx) (l : List Opd) (vs : List Value) (fr : Fr) (h h' : H) (r : AV), OL c fr l vs → g l fr h = .ok r h' →
  h' = h ∧ ∃ u, V c r u ∧ ∀ w, (callFunc f vs.toArray).run P w = .ok (.value u) w

theorem o_builtin (E : Env P inf und kf) {b : Builtin} {ts : Array TypeId} {xs : List Operand} {ty : TypeId} {cs : Array Bool} (hc : cBuiltin inf und kf okT b ts xs = .op k f) (hf : FO okT c fr a) (rel : (k = 1 ∨ k = 3) → c = cx ι h w ∧ Rel P B W ι h w) (e : f fr h = .ok r h') :
    OpOk P B W ι w k c h h' r (builtin b ts ty cs (xs.map a.eval).toArray) := by
  unfold cBuiltin at hc
  split at hc
  · rename_i x
    cases ht : ts[0]? with
    | none => simp only [ht] at hc; cases hc
    | some t =>
      simp only [ht] at hc
      cases hu : und t with
      | none => simp only [hu] at hc; cases hc
      | some d =>
        simp only [hu] at hc
        have hP := E.und t d hu
        cases d <;> simp only [reduceCtorEq] at hc
        case string =>
          obtain ⟨x', h1, rfl, rfl⟩ := c1_ok hc
          exact res0 (s_lenS ty ts ht hP (cX_ok hf h1) e) rfl
        case slice q =>
          obtain ⟨x', h1, rfl, rfl⟩ := c1_ok hc
          exact res0 (s_lenL ty ts ht hP (cX_ok hf h1) e) rfl
        case map q1 q2 =>
          obtain ⟨x', h1, rfl, rfl⟩ := c1_ok hc
          obtain ⟨rfl, rl⟩ := rel (by simp)
          exact res1 (r_lenM ty ts rl ht hP (cX_ok hf h1) e) rfl
  · rename_i x y
    split at hc
    case h_2 => cases hc
    rename_i t u hts
    have hts : ts = #[t, u] := by rw [← Array.toArray_toList (xs := ts), hts]
    subst hts
    have zs : ∀ {q : TypeId} {n m : Nat}, zsz inf q = some (n, m) → ∃ i z, P.info? q = some i ∧ i.zero = some z ∧ z.cells.size = i.size ∧ 0 < i.size ∧ i.size = n ∧ i.bytes = m := fun {q n m} hz => by
      unfold zsz at hz
      cases h1 : inf q with
      | none => rw [h1] at hz; cases hz
      | some i =>
        rw [h1] at hz
        simp only at hz
        cases h2 : i.zero with
        | none => rw [h2] at hz; cases hz
        | some z =>
          rw [h2] at hz
          simp only at hz
          cases h3 : (Nat.beq z.cells.size i.size && Nat.blt 0 i.size) with
          | false => rw [h3] at hz; cases hz
          | true =>
            rw [h3] at hz
            cases hz
            rw [Bool.and_eq_true, blt_eq] at h3
            exact ⟨i, z, E.inf q i h1, h2, Nat.eq_of_beq_eq_true h3.1, of_decide_eq_true h3.2, rfl, rfl⟩
    split at hc
    · rename_i e1 h1 h2
      split at hc
      · rename_i by_ hz
        obtain ⟨i, z, g1, g2, g3, g4, g5, g6⟩ := zs hz
        obtain ⟨x', y', j1, j2, rfl, rfl⟩ := c2_ok hc
        subst g6
        obtain ⟨rfl, rl⟩ := rel (by simp)
        exact res3 (e_appS (ty := ty) rl (E.und _ _ h1) (E.und _ _ h2) g1 g2 g3 g5 (cX_ok hf j1) (cX_ok hf j2) e) rfl
      · cases hc
    · rename_i e1 e2 h1 h2
      split at hc
      · rename_i sz by_ hz
        obtain ⟨i, z, g1, g2, g3, g4, g5, g6⟩ := zs hz
        obtain ⟨x', y', j1, j2, rfl, rfl⟩ := c2_ok hc
        subst g5 g6
        obtain ⟨rfl, rl⟩ := rel (by simp)
        exact res3 (e_app (ty := ty) rl (E.und _ _ h1) (E.und _ _ h2) g1 g2 g3 g4 (cX_ok hf j1) (cX_ok hf j2) e) rfl
      · cases hc
    · cases hc
  · rename_i m x
    cases ht : ts[0]? with
    | none => simp only [ht] at hc; cases hc
    | some t =>
      simp only [ht] at hc
      cases hu : und t with
      | none => simp only [hu] at hc; cases hc
      | some d =>
        simp only [hu] at hc
        have hP := E.und t d hu
        cases d <;> simp only [reduceCtorEq] at hc
        case map q1 q2 =>
          obtain ⟨x', y', h1, h2, rfl, rfl⟩ := c2_ok hc
          obtain ⟨rfl, rl⟩ := rel (by simp)
          obtain ⟨w', u, g1, g2, g3, g4⟩ := e_del (ty := ty) ts E.key rl ht hP (cX_ok hf h1) (cX_ok hf h2) e
          exact res3 (s := Builtin.delete_ ts ty #[a.eval m, a.eval x]) ⟨ι, w', u, g1, g2, g3, g4⟩ rfl
  · rename_i x y
    obtain ⟨x', y', h1, h2, rfl, rfl⟩ := c2_ok hc
    exact res0 (s_min ty ts (cX_ok hf h1) (cX_ok hf h2) e) rfl
  · rename_i x y
    obtain ⟨x', y', h1, h2, rfl, rfl⟩ := c2_ok hc
    exact res0 (s_max ty ts (cX_ok hf h1) (cX_ok hf h2) e) rfl
  · cases hc
end
end Ev
end Go.Proofs.YtfpghnldcbhniaaGreat
