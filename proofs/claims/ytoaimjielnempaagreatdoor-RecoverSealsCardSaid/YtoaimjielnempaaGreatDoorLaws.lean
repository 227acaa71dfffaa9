/- A law's row out of its walk: for every input the call returns true, and all that was there stands as it stood. -/
import Derived.Test.YtoaimjielnempaaGreatDoorBase
import Derived.Test.YtoaimjielnempaaGreatDoorLoB
import Derived.Test.YtoaimjielnempaaGreatDoorRows
import Derived.ProofKit
import Derived.OpenShut
import Derived.Deep.Slices
import Derived.Deep.Fields
import Derived.ChangeSame
import Derived.SizedLaws
namespace Go.Proofs.YtoaimjielnempaaGreatDoor
set_option linter.unusedVariables false
set_option linter.unusedSimpArgs false
open Go.ChangeShapes Go.WideShapes Go.ChangeAt Go.RowKit
namespace Law

theorem own : ownKnob Tryz.prog.godebug = none := by kernel_rfl
theorem laid : laidOutB Tryz.prog = true := Lo.laidB

/-- What was read reads as it did, where all that was there stands. -/
theorem trodAll_below {H : Type} {enc : TypeId × Value → H} {W W' : World} (hb : Below W.heap.size W W') :
    ∀ {ts : List TypeId} {vs : List Value} {ds : List (DataW H)} {ps : List MemPlace}, (ts.all fun t => Tryz.prog.readableRec t && decide (t < Tryz.prog.types.size)) = true →
      DataW.TrodAll enc Tryz.prog W 0 (fun _ => true) true ts vs ds ps → DataW.TrodAll enc Tryz.prog W' 0 (fun b => decide (b < W.heap.size)) true ts vs ds ps := by
  intro ts
  induction ts with
  | nil =>
    intro vs ds ps _ h
    obtain ⟨rfl, rfl, rfl⟩ := trodAll_nil h
    exact trodAll_mk0
  | cons t ts ih =>
    intro vs ds ps hr h
    have hlt := h.lt
    obtain ⟨v, vs', d, ds', p, q, rfl, rfl, rfl, h1, h2⟩ := trodAll_cons h
    simp only [List.all_cons, Bool.and_eq_true, decide_eq_true_eq] at hr
    exact trodAll_cons_mk (Below.trod laid hr.1.1 hr.1.2 h1 hb (fun x hx => hlt x (List.mem_append_left _ hx))) (ih (by simpa using hr.2) h2)

/-- The post of a law. -/
theorem post_true {H : Type} {enc : TypeId × Value → H} {f : Func} {s : ChangeSpec} {W W' : World} {args : Array Value} {ds gs : List (DataW H)} {before : List MemPlace}
    (hs : s.vars = []) (hfr : f.resultTypes.toList = [4]) (hfz : f.resultTypes.size = 1) (hr : (f.params.toList.all fun t => Tryz.prog.readableRec t && decide (t < Tryz.prog.types.size)) = true)
    (hfn : (s.fn H (ds ++ gs)).results = [.lit (.bool true)] ∧ (s.fn H (ds ++ gs)).args = ds ∧ (s.fn H (ds ++ gs)).vars = [])
    (hW : DataW.Whole enc Tryz.prog f.params.toList s.vars false W args.toList ds gs before) (hb : Below W.heap.size W W') :
    s.post enc Tryz.prog f false true false false W args (.bool true) W' := by
  obtain ⟨p, q, hA, hV, rfl, _, _⟩ := id hW
  refine ⟨ds, gs, _, [], p, [], hW, ?_, ?_, ?_, hb.frame _, fun h => by cases h⟩
  · rw [hfn.1, hfr, hfz]
    exact trodAll_mk1 (shut_bool Tryz.underlying4 _)
  · rw [hfn.2.1]
    exact trodAll_below hb hr hA
  · rw [hfn.2.2, hs]
    rfl

/-- An integer field of an element that came in. -/
theorem int_field {H : Type} {enc : TypeId × Value → H} {w : World} {base n : Nat} {sp : Nat → Bool} {held : Bool} {e : TypeId} {fs : Array Field} {cs : List Value} {x : DataW H × List MemPlace}
    (he : Tryz.prog.underlying e = some (.struct fs)) (hone : Go.Deep.oneCellFields Tryz.prog fs = true) (h : DataW.trod enc Tryz.prog w base sp held n e cs = some x)
    (j : Nat) (f : Field) (k : IntKind) (hf : fs[j]? = some f) (hk : Tryz.prog.underlying f.type = some (.int k)) (hj : j < cs.length) : ∃ a, cs[j]? = some (.int k a) ∧ (Lit.int k a).wf = true := by
  obtain ⟨xs, m, _, _, _, hlen, hg⟩ := DataW.trod_struct he h
  have h1 := hg j f hf
  obtain ⟨ho, hc⟩ := Go.Deep.hone_of hone j f hf
  have hjx : j < xs.length := by rw [hlen]; exact (Array.getElem?_eq_some_iff.1 hf).1
  rw [ho, hc, List.getElem?_eq_getElem hjx, List.drop_eq_getElem_cons hj] at h1
  obtain ⟨a, h2, _, h3⟩ := DataW.trod_int hk (show DataW.trod enc Tryz.prog w base sp held m f.type [cs[j]] = some xs[j] from h1)
  refine ⟨a, ?_, h3⟩
  rw [List.getElem?_eq_getElem hj]
  exact congrArg some (List.cons.inj h2).1

/-- A slice that came in: nil, or each element's cells, in a block that was there. -/
theorem open_rows {H : Type} {enc : TypeId × Value → H} {w : World} {t e : TypeId} {c : Nat} {v : Value} {d : DataW H} {ps : List MemPlace} (hc : Tryz.prog.cellsOf e = c) (ht : Tryz.prog.underlying t = some (.slice e)) (hv : ∃ A len cap, v = .slice A len cap)
    (h : DataW.Trod enc Tryz.prog w 0 (fun _ => true) true t v d ps) :
    ∃ A len cap, v = .slice A len cap ∧ len ≤ 9223372036854775807 ∧ (len = 0 ∨ ∃ el rest, d = .slice el rest ∧ el.length = len) ∧ (0 < len → ∃ a : Addr, A = some a ∧ ∀ i, i < len → ∃ cs' n y, cs'.length = c ∧ (∀ j, j < c → w.cell? (a.add (i * c + j)) = cs'[j]?) ∧ DataW.trod enc Tryz.prog w 0 (fun _ => true) true n e cs' = some y) := by
  obtain ⟨A, len, cap, rfl⟩ := hv
  obtain ⟨fuel, hf⟩ := h
  rcases Go.Deep.open_slice ht hf with ⟨h0, _⟩ | ⟨a, len', cap', m, n, D, Pl, hcs, _, hl, hm, hmm, hx, hi⟩
  · simp [Value.cells] at h0
    obtain ⟨rfl, rfl, rfl⟩ := h0
    exact ⟨none, 0, 0, rfl, by omega, .inl rfl, fun h => absurd h (by omega)⟩
  · simp [Value.cells] at hcs
    obtain ⟨rfl, rfl, rfl⟩ := hcs
    unfold maxLen at hm
    simp only [Prod.mk.injEq] at hx
    refine ⟨some a, len, cap, rfl, by omega, .inr ⟨_, _, hx.1, by simp⟩, fun _ => ⟨a, rfl, fun i hil => ?_⟩⟩
    obtain ⟨cs', h1, h2⟩ := hi i (by rw [hmm]; simp; omega)
    rw [hc] at h1
    obtain ⟨_, h3, h4⟩ := World.cells?_some h1
    refine ⟨cs', n, _, h3, fun j hj => ?_, h2⟩
    rw [← Go.Deep.add_add]
    exact h4 j hj

/-! What the bound of the second form gives. -/
theorem bulk_pos {H : Type} (d : DataW H) : 1 ≤ Rows.uptoBulk d := by
  cases d with
  | lit l => cases l <;> simp [Rows.uptoBulk]
  | _ => simp [Rows.uptoBulk]
theorem bulk_mem {H : Type} {d : DataW H} {l : List (DataW H)} (h : d ∈ l) : Rows.uptoBulk d ≤ Rows.uptoBulkAll l := by
  induction l with
  | nil => cases h
  | cons x r ih =>
    simp only [Rows.uptoBulkAll]
    rcases List.mem_cons.1 h with rfl | e
    · omega
    · have := ih e; omega
theorem bulk_length {H : Type} (l : List (DataW H)) : l.length ≤ Rows.uptoBulkAll l := by
  induction l with
  | nil => simp [Rows.uptoBulkAll]
  | cons x r ih => have := bulk_pos x; simp only [Rows.uptoBulkAll, List.length_cons]; omega
theorem bulk_len {H : Type} {ds : List (DataW H)} {d : DataW H} {len : Nat} (hd : d ∈ ds) (h : len = 0 ∨ ∃ el rest, d = .slice el rest ∧ el.length = len) (hk : Rows.uptoSmall H ds = true) : len ≤ 1048576 := by
  have hb : Rows.uptoBulkAll ds ≤ 1048576 := of_decide_eq_true hk
  rcases h with rfl | ⟨el, rest, rfl, rfl⟩
  · omega
  · have h1 := bulk_mem hd
    have h2 := bulk_length el
    simp only [Rows.uptoBulk] at h1
    omega
end Law
end Go.Proofs.YtoaimjielnempaaGreatDoor
