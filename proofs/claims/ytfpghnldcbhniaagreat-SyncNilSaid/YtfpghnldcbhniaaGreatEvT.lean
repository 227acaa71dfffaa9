/- The run of a function. -/
import Derived.Test.YtfpghnldcbhniaaGreatEvS2
namespace Go.Proofs.YtfpghnldcbhniaaGreat
set_option linter.unusedVariables false
set_option linter.unusedSimpArgs false
open Go.RowKit Go.Maps
namespace Ev

section
variable {P : Program} {B : Nat} {W : World} {ι : Pos → Option Nat} {h h' : H} {w w' : World} {fr fr' : Fr} {a : Act} {r : AV} {nt N : Nat} {o : Oper} {c : Cx} {kk : K}
variable {inf : TypeId → Option TypeInfo} {und : TypeId → Option TypeDesc} {kf : TypeId → AV → Bool} {ext : FuncId → Option (List Opd → XOp)}

theorem argsIn_get : ∀ (xs : List AV) (p : Nat) (fr : Fr) (t : Nat), p + xs.length ≤ 1000000 → t < 1000000 → Fr.get (argsIn xs p fr) (slot t) = if p ≤ t then (match xs[t - p]? with | some v => v | none => Fr.get fr (slot t)) else Fr.get fr (slot t)
  | [], p, fr, t, _, _ => by
    show Fr.get fr (slot t) = _
    split <;> simp
  | x :: xs, p, fr, t, hl, ht => by
    show Fr.get (argsIn xs (p + 1) (T.set fr (slot p) (some x))) (slot t) = _
    rw [argsIn_get xs (p + 1) _ t (by simp at hl; omega) ht]
    by_cases h1 : p + 1 ≤ t
    · rw [if_pos h1, if_pos (by omega)]
      have : t - p = t - (p + 1) + 1 := by omega
      rw [this]
      simp only [List.getElem?_cons_succ]
      split
      · rfl
      · rw [get_set_ne' fr x (fun e => by have := slot_inj (by simp at hl; omega) ht e; omega)]
    · rw [if_neg h1]
      by_cases h2 : p = t
      · subst h2
        rw [get_set_same', if_pos (Nat.le_refl _)]
        simp
      · rw [get_set_ne' fr x (fun e => h2 (slot_inj (by simp at hl; omega) ht e)), if_neg (by omega)]
theorem get_e' (p : Pos) : Fr.get (.e : Fr) p = .undef := by
  unfold Fr.get
  rw [T.get_e]
  rfl
theorem FR.start {xs : List AV} {vs : List Value} (hn : nt ≤ 1000000) (hl : xs.length ≤ nt) (hv : VL c xs vs) : FR nt c (argsIn xs 0 .e) { tmps := vs.toArray ++ Array.replicate (nt - vs.toArray.size) undef, defers := [] } := by
  have hlen := hv.length
  refine ⟨by simp; omega, fun t ht => ?_, rfl⟩
  rw [argsIn_get xs 0 .e t (by omega) (by omega), if_pos (Nat.zero_le _), Nat.sub_zero, get_e']
  have h2 : (vs.toArray ++ Array.replicate (nt - vs.toArray.size) undef).getD t undef = (vs[t]?).getD undef := by
    rw [Array.getD_eq_getD_getElem?]
    by_cases hlt : t < vs.length
    · rw [Array.getElem?_append_left (by simpa using hlt)]
      simp
    · rw [Array.getElem?_append_right (by simp; omega)]
      rw [List.getElem?_eq_none (by omega)]
      rw [Array.getElem?_replicate]
      split <;> rfl
  show V c _ ((vs.toArray ++ Array.replicate (nt - vs.toArray.size) undef).getD t undef)
  rw [h2]
  cases hx : xs[t]? with
  | none =>
    have : vs[t]? = none := by
      rw [List.getElem?_eq_none_iff] at hx ⊢
      omega
    rw [this]
    exact .undef
  | some x =>
    obtain ⟨v, h3, h4⟩ := hv.get t hx
    rw [h3]
    exact h4

theorem load_var {t : TypeId} {v u : Value} (e : (Instr.loadAt t v).run P w = .ok u w) : (do loadVar t (← asAddr v) : Sem Value).run P w = .ok u w := by
  unfold Instr.loadAt at e
  cases v with
  | pointer x =>
    cases x with
    | none => simp [Instr.sureAddr, stuck] at e
    | some x => exact e
  | _ => simp [Instr.sureAddr, stuck] at e
def resSem (tmps : Array Value) : ResultVar → Sem Value
  | .tmp t => pure (tmps.getD t undef)
  | .cell a t => do loadVar t (← asAddr (tmps.getD a undef))
theorem outs_ok (E : Env P inf und kf) (hf : FR nt (cx ι h w) fr a) (rel : Rel P B W ι h w) : ∀ (l : List ResultVar) {rs : List XOp} {vs : List AV}, cRes inf und nt l = some rs → outs rs fr h = some vs →
    ∃ us, (l.mapM (resSem a.tmps)).run P w = .ok us w ∧ VL (cx ι h w) vs us
  | [], rs, vs, e1, e2 => by
    cases e1
    cases e2
    exact ⟨[], by simp, .nil⟩
  | x :: l, rs, vs, e1, e2 => by
    have main : ∀ (g : XOp) (rs' : List XOp), cRes inf und nt l = some rs' → rs = g :: rs' → (∀ v h1, g fr h = .ok v h1 → ∃ u, V (cx ι h w) v u ∧ (resSem a.tmps x).run P w = .ok u w) →
        ∃ us, ((x :: l).mapM (resSem a.tmps)).run P w = .ok us w ∧ VL (cx ι h w) vs us := fun g rs' h1 h2 h3 => by
      subst h2
      have e2 : Ev.E.rec (motive := fun _ => Option (List AV)) none (fun v _ => ob (outs rs' fr h) none fun r => some (v :: r)) (g fr h) = some vs := e2
      cases hg : g fr h with
      | no => rw [hg] at e2; cases e2
      | ok v h1' =>
        rw [hg] at e2
        obtain ⟨vs', h4, h5⟩ := ob_some (by simp) (show ob (outs rs' fr h) none (fun r => some (v :: r)) = some vs from e2)
        cases h5
        obtain ⟨u, h6, h7⟩ := h3 v h1' hg
        obtain ⟨us, h8, h9⟩ := outs_ok E hf rel l h1 h4
        exact ⟨u :: us, by simp only [List.mapM_cons, Sem.run_bind, h7, Result.andThen_ok, h8, Sem.run_pure], .cons h6 h9⟩
    cases x with
    | tmp t =>
      unfold cRes at e1
      cases hl : cRes inf und nt l with
      | none => rw [hl] at e1; cases e1
      | some rs' =>
        rw [hl] at e1
        simp only at e1
        cases hb : Nat.blt t nt with
        | false => rw [hb] at e1; cases e1
        | true =>
          rw [hb] at e1
          rw [blt_eq] at hb
          refine main (rTmp (slot t)) rs' hl (Option.some.inj e1).symm fun v h1 hg => ?_
          obtain ⟨h2, h3⟩ := okE hg
          subst h2
          exact ⟨_, hf.val t (of_decide_eq_true hb), rfl⟩
    | cell p t =>
      unfold cRes at e1
      cases hb : Nat.blt p nt with
      | false => rw [hb] at e1; cases e1
      | true =>
        rw [hb] at e1
        rw [blt_eq] at hb
        have hv := hf.val p (of_decide_eq_true hb)
        simp only [cond_true] at e1
        cases hw : wideT inf und t with
        | none => rw [hw] at e1; cases e1
        | some m =>
          cases hl : cRes inf und nt l with
          | none => rw [hw, hl] at e1; cases m <;> cases e1
          | some rs' =>
            rw [hw, hl] at e1
            rcases E.wide hw with ⟨rfl, g1⟩ | ⟨n, d, rfl, g1, g2, g3, g4, g5⟩
            · refine main (xLd (oT (slot p))) rs' hl (Option.some.inj e1).symm fun v h1 hg => ?_
              obtain ⟨_, u, h2, h3⟩ := r_ld rel g1 (x := oT (slot p)) hv hg
              exact ⟨u, h2, load_var h3⟩
            · refine main (xLdn n (oT (slot p))) rs' hl (Option.some.inj e1).symm fun v h1 hg => ?_
              obtain ⟨_, u, h2, h3⟩ := r_ldn rel g3 g4 g5 (x := oT (slot p)) hv hg
              exact ⟨u, h2, load_var h3⟩
theorem results_ok {fn : Func} (E : Env P inf und kf) (hf : FR nt (cx ι h w) fr a) (rel : Rel P B W ι h w) {rs : List XOp} (e1 : cRes inf und nt fn.results.toList = some rs) (e2 : endE rs fr h = .ok r h') :
    h' = h ∧ ∃ v, (results fn a.tmps).run P w = .ok v w ∧ V (cx ι h w) r v := by
  obtain ⟨vs, h1, h2⟩ := obE (show ob (outs rs fr h) Ev.E.no _ = Ev.E.ok r h' from e2)
  obtain ⟨us, h3, h4⟩ := outs_ok E hf rel _ e1 h1
  have hm : (fn.results.mapM (resSem a.tmps)).run P w = .ok us.toArray w := by
    rw [Array.mapM_eq_mapM_toList]
    simp only [map_eq_pure_bind, Sem.run_bind]
    rw [h3]
    rfl
  have hr : (results fn a.tmps).run P w = .ok (if h : us.toArray.size = 1 then us.toArray[0] else .tuple us.toArray) w := by
    show (do let vs ← fn.results.mapM (resSem a.tmps); pure (if h : vs.size = 1 then vs[0] else .tuple vs) : Sem Value).run P w = _
    simp only [Sem.run_bind, hm, Result.andThen_ok, Sem.run_pure]
  rw [hr]
  cases h4 with
  | nil =>
    cases h2
    exact ⟨rfl, _, rfl, .tuple [] [] .nil⟩
  | cons g1 g2 =>
    cases g2 with
    | nil =>
      cases h2
      exact ⟨rfl, _, rfl, g1⟩
    | cons g3 g4 =>
      cases h2
      exact ⟨rfl, _, rfl, .tuple _ _ (.cons g1 (.cons g3 g4))⟩
end
end Ev
end Go.Proofs.YtfpghnldcbhniaaGreat
