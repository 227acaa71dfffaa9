/- maps.Clone in the run. -/
import Derived.Test.YtfpghnldcbhniaaGreatPlB
import Derived.Shelf.SlMaps.Clone
namespace Go.Proofs.YtfpghnldcbhniaaGreat
set_option linter.unusedVariables false
set_option linter.unusedSimpArgs false
open Go.RowKit Go.Maps
namespace Ev
noncomputable def cloneP (xs : List AV) (h : H) : E := one1 xs .no fun x => x.map? .no (.ok .nilm h) fun b => mapAt h b .no fun kt es ck => .ok (.map h.nx) (h.new (.map kt es ck))
theorem clone_ok {P : Program} {f : FuncId} (enter : ∀ vs w0, (callFunc f vs).run P w0 = .ok (.enter f vs) w0)
    (hc : ∀ (b : Nat) (es : Array MapEntry) (ck : Nat) (w : World), w.heap[b]? = some (.map es ck) → Calls P f #[.map (some b)] w fun e w' => e = .returned (.map (some w.heap.size)) ∧ w' = w.alloc (.map es ck))
    (hn : ∀ w : World, Calls P f #[.map none] w fun e w' => e = .returned (.map none) ∧ w' = w) : OneOk P f cloneP := by
  intro B W ι h w xs vs r h' rel hv e
  obtain ⟨x, rfl, e1⟩ := one1_ok (show one1 xs E.no _ = _ from e)
  cases hv with
  | cons hx hnil =>
    cases hnil
    rcases map_ok e1 with ⟨rfl, e2⟩ | ⟨b, rfl, e2⟩
    · obtain ⟨e3, e4⟩ := okE e2
      subst e3 e4
      cases hx
      refine ⟨fun w0 => enter _ w0, (hn w).mono ?_⟩
      rintro e w' ⟨rfl, rfl⟩
      exact ⟨_, ι, rfl, rel, Ext.refl _ _ _, .nilm⟩
    · obtain ⟨kt, es, ck, hb, e3⟩ := at_map e2
      obtain ⟨e4, e5⟩ := okE e3
      subst e4 e5
      obtain ⟨q, rfl, i1, i2⟩ := hx.map_inv
      have hq := i2 ⟨_, hb⟩
      obtain ⟨es', m1, m2⟩ := rel.ob b _ q hb hq
      refine ⟨fun w0 => enter _ w0, (hc q es' ck w m1).mono ?_⟩
      rintro e w' ⟨rfl, rfl⟩
      obtain ⟨s1, s2⟩ := rel.new (o := .map kt es ck) (wnew_alloc w (.map es' ck)) ⟨es', heap_new (wnew_alloc w _), m2⟩
      refine ⟨_, _, rfl, s1, s2, .map _ _ ?_ fun _ => upd_same _ _ _⟩
      show h.nx.num < (h.new _).nx.num
      rw [nx_new]; omega
end Ev
end Go.Proofs.YtfpghnldcbhniaaGreat
