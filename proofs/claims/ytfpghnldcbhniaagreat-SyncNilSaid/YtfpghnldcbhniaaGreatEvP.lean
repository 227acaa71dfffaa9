/- What was made ready is what the model does: each operation, at last. -/
import Derived.Test.YtfpghnldcbhniaaGreatEvO
namespace Go.Proofs.YtfpghnldcbhniaaGreat
set_option linter.unusedVariables false
set_option linter.unusedSimpArgs false
open Go.RowKit Go.Maps
namespace Ev

section
variable {P : Program} {B : Nat} {W : World} {ι : Pos → Option Nat} {h h' : H} {w w' : World} {fr : Fr} {a : Act} {c : Cx} {r : AV} {okT : Nat → Bool} {o : Oper} {k : Nat} {f : XOp} {q : Sem Next}
variable {inf : TypeId → Option TypeInfo} {und : TypeId → Option TypeDesc} {kf : TypeId → AV → Bool} {ext : FuncId → Option (List Opd → XOp)}

theorem o_binop (E : Env P inf und kf) {op : BinOp} {t u : TypeId} {x y : Operand} (hc : cOp inf und kf ext okT (.binOp op t x y u) = .op k f) (hf : FO okT c fr a) (rel : (k = 1 ∨ k = 3) → c = cx ι h w ∧ Rel P B W ι h w) (e : f fr h = .ok r h')
    (hq : q = (do pure (.value (← eqSem op t x y (a.eval x) (a.eval y))) : Sem Next)) : OpOk P B W ι w k c h h' r q := by
  have hint : ∀ {g : IntKind → Int → Int → Option AV}, ((op = .add ∧ g = bAdd) ∨ g = binI op) → c2 okT 0 (xInt g) x y = .op k f → OpOk P B W ι w k c h h' r q := fun hg hc => by
    obtain ⟨x', y', h1, h2, rfl, rfl⟩ := c2_ok hc
    obtain ⟨n1, n2, hn⟩ := int_flat (cX_ok hf h1) e
    exact res0 (with_guard (fun w => guard_flat (.inl ⟨_, _, hn⟩)) (s_xint t hg (cX_ok hf h1) (cX_ok hf h2) e)) hq
  have hcmp : c2 okT 0 (xCmp op) x y = .op k f → OpOk P B W ι w k c h h' r q := fun hc => by
    obtain ⟨x', y', h1, h2, rfl, rfl⟩ := c2_ok hc
    rcases s_xcmp (P := P) t (cX_ok hf h1) (cX_ok hf h2) e with e | ⟨⟨k, n, hn⟩, e⟩
    · obtain ⟨n1, n2, hn⟩ := int_flat (cX_ok hf h1) e
      exact res0 (with_guard (fun w => guard_flat (.inl ⟨_, _, hn⟩)) (s_xint t (.inr rfl) (cX_ok hf h1) (cX_ok hf h2) e)) hq
    · exact res0 (with_guard (fun w => guard_flat (.inl ⟨_, _, hn⟩)) e) hq
  have hstr : c2 okT 0 (xStr op) x y = .op k f → OpOk P B W ι w k c h h' r q := fun hc => by
    obtain ⟨x', y', h1, h2, rfl, rfl⟩ := c2_ok hc
    obtain ⟨s, hn⟩ := str_flat (cX_ok hf h1) e
    exact res0 (with_guard (fun w => guard_flat (.inr ⟨_, hn⟩)) (s_xstr t (cX_ok hf h1) (cX_ok hf h2) e)) hq
  have hshf : op ≠ .eql → op ≠ .neq → c2 okT 0 (xShf op) x y = .op k f → OpOk P B W ι w k c h h' r q := fun n1 n2 hc => by
    obtain ⟨x', y', h1, h2, rfl, rfl⟩ := c2_ok hc
    exact res0 (with_guard (fun w => guard_other n1 n2) (s_xshf t (cX_ok hf h1) (cX_ok hf h2) e)) hq
  have heq : ∀ {ne : Bool}, (op = .eql ∧ ne = false ∨ op = .neq ∧ ne = true) → (match und t with
      | some (.int _) => c2 okT 0 (xInt (binI op)) x y
      | some .string => c2 okT 0 (xStr op) x y
      | some .bool => c2 okT 0 (xEqB ne) x y
      | some (.pointer _) => c2 okT 0 (xEqN 0 ne) x y
      | some (.slice _) => c2 okT 0 (xEqN 1 ne) x y
      | some (.map _ _) => c2 okT 0 (xEqN 2 ne) x y
      | some (.func ..) => c2 okT 0 (xEqN 3 ne) x y
      | some (.struct _) | some (.array _ _) => c2 okT 0 (xEqA ne (kf t)) x y
      | _ => .bad) = Bx.op k f → OpOk P B W ι w k c h h' r q := fun {ne} hne hc => by
    cases hu : und t with
    | none => simp only [hu] at hc; cases hc
    | some d =>
      simp only [hu] at hc
      have hP := E.und t d hu
      have hagg : c2 okT 0 (xEqA ne (kf t)) x y = .op k f → OpOk P B W ι w k c h h' r q := fun hc => by
        obtain ⟨x', y', h1, h2, rfl, rfl⟩ := c2_ok hc
        exact res0 (s_eqA E.key x y hne (cX_ok hf h1) (cX_ok hf h2) e) hq
      have hnil : ∀ kind, ((kind = 0 ∧ ∃ e, P.underlying t = some (.pointer e)) ∨ (kind = 1 ∧ ∃ e, P.underlying t = some (.slice e)) ∨ (kind = 2 ∧ ∃ k e, P.underlying t = some (.map k e)) ∨ (kind = 3 ∧ ∃ a b d, P.underlying t = some (.func a b d))) →
          c2 okT 0 (xEqN kind ne) x y = .op k f → OpOk P B W ι w k c h h' r q := fun kind hk hc => by
        obtain ⟨x', y', h1, h2, rfl, rfl⟩ := c2_ok hc
        exact res0 (s_eqN x y hne hk (cX_ok hf h1) (cX_ok hf h2) e) hq
      cases d <;> simp only [reduceCtorEq] at hc
      case int => exact hint (.inr rfl) hc
      case string => exact hstr hc
      case bool =>
        obtain ⟨x', y', h1, h2, rfl, rfl⟩ := c2_ok hc
        exact res0 (s_eqB x y hne hP (cX_ok hf h1) (cX_ok hf h2) e) hq
      case pointer => exact hnil 0 (.inl ⟨rfl, _, hP⟩) hc
      case slice => exact hnil 1 (.inr (.inl ⟨rfl, _, hP⟩)) hc
      case map => exact hnil 2 (.inr (.inr (.inl ⟨rfl, _, _, hP⟩))) hc
      case func => exact hnil 3 (.inr (.inr (.inr ⟨rfl, _, _, _, hP⟩))) hc
      case struct => exact hagg hc
      case array => exact hagg hc
  have hrest : (match und t with
      | some (.int _) => c2 okT 0 (xCmp op) x y
      | some .string => c2 okT 0 (xStr op) x y
      | _ => .bad) = Bx.op k f → OpOk P B W ι w k c h h' r q := fun hc => by
    cases hu : und t with
    | none => simp only [hu] at hc; cases hc
    | some d =>
      simp only [hu] at hc
      cases d <;> simp only [reduceCtorEq] at hc
      case int => exact hcmp hc
      case string => exact hstr hc
  have hsh : op ≠ .eql → op ≠ .neq → (match und t with
      | some (.int _) => c2 okT 0 (xShf op) x y
      | _ => .bad) = Bx.op k f → OpOk P B W ι w k c h h' r q := fun n1 n2 hc => by
    cases hu : und t with
    | none => simp only [hu] at hc; cases hc
    | some d =>
      simp only [hu] at hc
      cases d <;> simp only [reduceCtorEq] at hc
      exact hshf n1 n2 hc
  cases op
  case add =>
    simp only [cOp] at hc
    cases hu : und t with
    | none => simp only [hu] at hc; cases hc
    | some d =>
      simp only [hu] at hc
      cases d <;> simp only [reduceCtorEq] at hc
      case int => exact hint (.inl ⟨rfl, rfl⟩) hc
      case string => exact hstr hc
  case shl => exact hsh (by simp) (by simp) hc
  case shr => exact hsh (by simp) (by simp) hc
  case eql => exact heq (ne := false) (.inl ⟨rfl, rfl⟩) hc
  case neq => exact heq (ne := true) (.inr ⟨rfl, rfl⟩) hc
  all_goals exact hrest hc
theorem o_conv (E : Env P inf und kf) {s d : TypeId} {x : Operand} (hc : cOp inf und kf ext okT (.convert s d x) = .op k f) (hf : FO okT c fr a) (rel : (k = 1 ∨ k = 3) → c = cx ι h w ∧ Rel P B W ι h w) (e : f fr h = .ok r h')
    (hq : q = (do pure (.value (← Go.convert s d (a.eval x))) : Sem Next)) : OpOk P B W ι w k c h h' r q := by
  simp only [cOp] at hc
  cases hs : und s with
  | none => simp only [hs] at hc; cases hc
  | some ds =>
    cases hd : und d with
    | none => simp only [hs, hd] at hc; cases ds <;> cases hc
    | some dd =>
      simp only [hs, hd] at hc
      have hPs := E.und _ _ hs
      have hPd := E.und _ _ hd
      cases ds <;> cases dd <;> simp only [reduceCtorEq] at hc
      case int.int j k' =>
        obtain ⟨x', h1, rfl, rfl⟩ := c1_ok hc
        exact res0 (s_conv ⟨_, hPs⟩ hPd (cX_ok hf h1) e) hq
      case string.string =>
        obtain ⟨x', h1, rfl, rfl⟩ := c1_ok hc
        obtain ⟨st, ex, e'⟩ := str_ok (show (x' fr).str? Ev.E.no _ = _ from e)
        obtain ⟨e2, e3⟩ := okE e'
        have hx := cX_ok hf h1
        rw [ex] at hx
        have hv := hx.str_inv
        rw [hv] at hx
        subst e2
        exact res0 (s := Go.convert s d (a.eval x)) ⟨e3.symm, _, hx, fun w => by rw [hv]; simp only [Go.convert, Sem.run_bind, run_underlying hPs, run_underlying hPd, Result.andThen_ok, Sem.run_pure]⟩ hq
      case string.slice q1 =>
        cases hqq : und q1 with
        | none => simp only [hqq] at hc; cases hc
        | some dq =>
          simp only [hqq] at hc
          split at hc
          · rename_i heq
            cases heq
            obtain ⟨x', h1, rfl, rfl⟩ := c1_ok hc
            obtain ⟨rfl, rl⟩ := rel (by simp)
            exact res3 (e_s2b rl hPs hPd (E.und _ _ hqq) (cX_ok hf h1) e) hq
          · cases hc
      case slice.string q1 =>
        cases hqq : und q1 with
        | none => simp only [hqq] at hc; cases hc
        | some dq =>
          simp only [hqq] at hc
          split at hc
          · rename_i heq
            cases heq
            obtain ⟨x', h1, rfl, rfl⟩ := c1_ok hc
            obtain ⟨rfl, rl⟩ := rel (by simp)
            exact res1 (r_b2s rl hPs (E.und _ _ hqq) hPd (cX_ok hf h1) e) hq
          · cases hc
end
end Ev
end Go.Proofs.YtfpghnldcbhniaaGreat
