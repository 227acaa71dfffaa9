/- The run of a function, at last: a reckoned run tells what a call gives. -/
import Derived.Test.YtfpghnldcbhniaaGreatEvT
namespace Go.Proofs.YtfpghnldcbhniaaGreat
set_option linter.unusedVariables false
set_option linter.unusedSimpArgs false
open Go.RowKit Go.Maps
namespace Ev

section
variable {P : Program} {B : Nat} {W : World} {ι : Pos → Option Nat} {h h' : H} {w w' : World} {fr fr' : Fr} {a : Act} {r : AV} {nt N : Nat} {o : Oper} {c : Cx} {kk : K}
variable {inf : TypeId → Option TypeInfo} {und : TypeId → Option TypeDesc} {kf : TypeId → AV → Bool} {ext : FuncId → Option (List Opd → XOp)}

/-- One function of the run is as the model has it. -/
def OneOk (P : Program) (f : FuncId) (p : List AV → H → Ev.E) : Prop := ∀ (B : Nat) (W : World) (ι : Pos → Option Nat) (h : H) (w : World) (xs : List AV) (vs : List Value) (r : AV) (h' : H), Rel P B W ι h w → VL (cx ι h w) xs vs → p xs h = .ok r h' →
  (∀ w0, (callFunc f vs.toArray).run P w0 = .ok (.enter f vs.toArray) w0) ∧ Calls P f vs.toArray w (CR P B W ι h w r h')
theorem call_enter {f : FuncId} {F : Func} {vs : Array Value} (hF : P.funcs[f]? = some F) (hn : F.name ≠ "runtime.NumGoroutine") (hb : F.body.isNone = false) (w0 : World) : (callFunc f vs).run P w0 = .ok (.enter f vs) w0 := by
  simp only [callFunc, Sem.run_bind, run_program, Result.andThen_ok, hF]
  have : (F.name == "runtime.NumGoroutine") = false := by simpa using hn
  rw [this, hb]
  rfl
def FnOk (P : Program) (inf : TypeId → Option TypeInfo) (und : TypeId → Option TypeDesc) (kf : TypeId → AV → Bool) (ext : FuncId → Option (List Opd → XOp)) (N : Nat) (fn : FuncId → Bf) : Prop :=
  ∀ f nt c rs, fn f = .mk nt c rs → ∃ F, P.funcs[f]? = some F ∧ F.name ≠ "runtime.NumGoroutine" ∧ cFn inf und kf ext N F = .mk nt c rs
theorem body_ok (E : Env P inf und kf) (X : ExtOk P ext) (hmix : P.follows .mixedOrders = true) (KO : KOK P kk) {f : FuncId} {F : Func} {c : Bc} {rs : List XOp} (hF : P.funcs[f]? = some F) (hname : F.name ≠ "runtime.NumGoroutine") (hc : cFn inf und kf ext N F = .mk nt c rs) : OneOk P f (body nt c rs kk) := by
  intro B W ι h w xs vs r h' rel hv e
  unfold cFn at hc
  cases hb : F.body with
  | none => rw [hb] at hc; cases hc
  | some code =>
    cases hr : cRes inf und F.ntmps F.results.toList with
    | none => rw [hb, hr] at hc; cases hc
    | some rs' =>
      rw [hb, hr] at hc
      simp only at hc
      cases hl : Nat.ble F.ntmps 1000000 with
      | false => rw [hl] at hc; cases hc
      | true =>
        rw [hl] at hc
        cases hc
        have hn := Nat.le_of_ble_eq_true hl
        obtain ⟨g1, e⟩ := biE (show bi (Nat.ble (llen xs) F.ntmps) _ Ev.E.no = _ from e)
        have g1 := Nat.le_of_ble_eq_true g1
        rw [llen_eq] at g1
        refine ⟨fun w0 => call_enter hF hname (by rw [hb]; rfl) w0, calls_of_wp hF hb ?_⟩
        refine code_ok (N := N) (inf := inf) (und := und) (kf := kf) (ext := ext) (kk := kk) E X KO hmix hn code (FR.start (c := cx ι h w) hn g1 hv) rel ?_
        have fin : ∀ (fr' : Fr) (h1 : H), endE rs fr' h1 = .ok r h' → After P B W F.ntmps ι h w fr' h1 fun a w' => a.defers = [] ∧ ∃ v, (results F a.tmps).run P w' = .ok v w' ∧ CR P B W ι h w r h' (.returned v) w' := fun fr' h1 e ι1 a1 w1 f1 r1 x1 => by
          obtain ⟨rfl, v, g2, g3⟩ := results_ok E f1 r1 hr e
          exact ⟨f1.defers, v, g2, v, ι1, rfl, r1, x1, g3⟩
        have e : R.rec (motive := fun _ => Ev.E) .no (fun fr h => endE rs fr h) (fun _ _ _ => .no) (fun fr h => endE rs fr h) (bc (cCode inf und kf ext N F.ntmps code) kk (argsIn xs 0 .e) h) = .ok r h' := e
        cases hres : bc (cCode inf und kf ext N F.ntmps code) kk (argsIn xs 0 .e) h with
        | no => rw [hres] at e; cases e
        | x id fr' h1 => rw [hres] at e; cases e
        | n fr' h1 => rw [hres] at e; exact fin fr' h1 e
        | r fr' h1 => rw [hres] at e; exact fin fr' h1 e
theorem run_ok (E : Env P inf und kf) (X : ExtOk P ext) (hmix : P.follows .mixedOrders = true) {fn : FuncId → Bf} {plug : FuncId → Option (List AV → H → Ev.E)} (hfn : FnOk P inf und kf ext N fn) (hp : ∀ f p, plug f = some p → OneOk P f p) : ∀ n, KOK P (run fn plug n)
  | 0 => fun B W ι h w f xs vs r h' _ _ e => by cases e
  | n + 1 => fun B W ι h w f xs vs r h' rel hv e => by
    have e : ob (plug f) (Bf.rec (motive := fun _ => Ev.E) .no (fun nt c rs => body nt c rs (run fn plug n) xs h) (fn f)) (fun p => p xs h) = .ok r h' := e
    cases hpf : plug f with
    | some p =>
      rw [hpf] at e
      exact hp f p hpf B W ι h w xs vs r h' rel hv e
    | none =>
      rw [hpf] at e
      have e : Bf.rec (motive := fun _ => Ev.E) .no (fun nt c rs => body nt c rs (run fn plug n) xs h) (fn f) = .ok r h' := e
      cases hf : fn f with
      | bad => rw [hf] at e; cases e
      | mk nt c rs =>
        rw [hf] at e
        obtain ⟨F, h1, h2, h3⟩ := hfn f nt c rs hf
        exact body_ok E X hmix (run_ok E X hmix hfn hp n) h1 h2 h3 B W ι h w xs vs r h' rel hv e

/-- The memory of a run that begins. -/
def H0 : H := { t := .e, nx := .h }
theorem rel_start (P : Program) (w : World) : Rel P w.heap.size w (fun _ => none) H0 w := by
  have h0 : ∀ b, H0.obj b = none := fun b => T.get_e b
  exact ⟨fun b o hb => (by rw [h0] at hb; cases hb), fun b o x hb => (by rw [h0] at hb; cases hb), fun b b' o o' x hb => (by rw [h0] at hb; cases hb), fun b o x hb => (by rw [h0] at hb; cases hb), Nat.le_refl _, Below.refl _ _⟩
/-- A call at values without addresses, of which the run tells such a value. -/
theorem run_calls {f : FuncId} {p : List AV → H → Ev.E} (hp : OneOk P f p) {xs : List AV} {vs : List Value} (hv : ∀ c : Cx, VL c xs vs) (w : World) {v : Value} (hr : ∀ (c : Cx) u, V c r u → u = v) (e : p xs H0 = .ok r h') :
    Calls P f vs.toArray w fun e w' => e = .returned v ∧ Below w.heap.size w w' := by
  obtain ⟨_, h2⟩ := hp w.heap.size w (fun _ => none) H0 w xs vs r h' (rel_start P w) (hv _) e
  refine h2.mono fun e w' ⟨u, ι', h3, h4, h5, h6⟩ => ?_
  rw [hr _ _ h6] at h3
  exact ⟨h3, h4.out⟩
end
end Ev
end Go.Proofs.YtfpghnldcbhniaaGreat
