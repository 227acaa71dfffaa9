/- A law's row out of its walk; what came in as a row of numbers. -/
import Derived.Test.YtfpghnldcbhniaaGreatBase
import Derived.Test.YtfpghnldcbhniaaGreatRows
import Derived.ProofKit
import Derived.OpenShut
import Derived.Deep.Slices
import Derived.Deep.Fields
import Derived.ChangeSame
import Derived.SizedLaws
import Derived.Test.YtfpghnldcbhniaaGreatCnN
namespace Go.Proofs.YtfpghnldcbhniaaGreat
set_option linter.unusedVariables false
set_option linter.unusedSimpArgs false
open Go.ChangeShapes Go.WideShapes Go.ChangeAt Go.RowKit
namespace Law

theorem own : ownKnob Tryz.prog.godebug = none := by kernel_rfl
theorem laid : laidOutB Tryz.prog = true := by kernel_rfl

/-- What was read reads as it did, where all that was there stands. -/
theorem trodAll_below {H : Type} {enc : TypeId × Value → H} {W W' : World} (hb : Below W.heap.size W W') :
    ∀ {ts : List TypeId} {vs : List Value} {ds : List (DataW H)} {ps : List MemPlace}, (ts.all fun t => Tryz.prog.readableRec t && decide (t < Tryz.prog.types.size)) = true →
      DataW.TrodAll enc Tryz.prog W 0 (fun _ => true) true ts vs ds ps → DataW.TrodAll enc Tryz.prog W' 0 (fun b => decide (b < W.heap.size)) true ts vs ds ps := by
  intro ts
  induction ts with
  | nil =>
    intro vs ds ps _ h
    obtain ⟨rfl, rfl, rfl⟩ := trodAll_nil h
    exact trodAll_mk0
  | cons t ts ih =>
    intro vs ds ps hr h
    have hlt := h.lt
    obtain ⟨v, vs', d, ds', p, q, rfl, rfl, rfl, h1, h2⟩ := trodAll_cons h
    simp only [List.all_cons, Bool.and_eq_true, decide_eq_true_eq] at hr
    exact trodAll_cons_mk (Below.trod laid hr.1.1 hr.1.2 h1 hb (fun x hx => hlt x (List.mem_append_left _ hx))) (ih (by simpa using hr.2) h2)

/-- The post of a law. -/
theorem post_true {H : Type} {enc : TypeId × Value → H} {f : Func} {s : ChangeSpec} {W W' : World} {args : Array Value} {ds gs : List (DataW H)} {before : List MemPlace}
    (hs : s.vars = []) (hfr : f.resultTypes.toList = [4]) (hfz : f.resultTypes.size = 1) (hr : (f.params.toList.all fun t => Tryz.prog.readableRec t && decide (t < Tryz.prog.types.size)) = true)
    (hfn : (s.fn H (ds ++ gs)).results = [.lit (.bool true)] ∧ (s.fn H (ds ++ gs)).args = ds ∧ (s.fn H (ds ++ gs)).vars = [])
    (hW : DataW.Whole enc Tryz.prog f.params.toList s.vars false W args.toList ds gs before) (hb : Below W.heap.size W W') :
    s.post enc Tryz.prog f false true false false W args (.bool true) W' := by
  obtain ⟨p, q, hA, hV, rfl, _, _⟩ := id hW
  refine ⟨ds, gs, _, [], p, [], hW, ?_, ?_, ?_, hb.frame _, fun h => by cases h⟩
  · rw [hfn.1, hfr, hfz]
    exact trodAll_mk1 (shut_bool Tryz.underlying4 _)
  · rw [hfn.2.1]
    exact trodAll_below hb hr hA
  · rw [hfn.2.2, hs]
    rfl

/-- An integer field of an element that came in. -/
theorem int_field {H : Type} {enc : TypeId × Value → H} {w : World} {base n : Nat} {sp : Nat → Bool} {held : Bool} {e : TypeId} {fs : Array Field} {cs : List Value} {x : DataW H × List MemPlace}
    (he : Tryz.prog.underlying e = some (.struct fs)) (hone : Go.Deep.oneCellFields Tryz.prog fs = true) (h : DataW.trod enc Tryz.prog w base sp held n e cs = some x)
    (j : Nat) (f : Field) (k : IntKind) (hf : fs[j]? = some f) (hk : Tryz.prog.underlying f.type = some (.int k)) (hj : j < cs.length) : ∃ a, cs[j]? = some (.int k a) ∧ (Lit.int k a).wf = true := by
  obtain ⟨xs, m, _, _, _, hlen, hg⟩ := DataW.trod_struct he h
  have h1 := hg j f hf
  obtain ⟨ho, hc⟩ := Go.Deep.hone_of hone j f hf
  have hjx : j < xs.length := by rw [hlen]; exact (Array.getElem?_eq_some_iff.1 hf).1
  rw [ho, hc, List.getElem?_eq_getElem hjx, List.drop_eq_getElem_cons hj] at h1
  obtain ⟨a, h2, _, h3⟩ := DataW.trod_int hk (show DataW.trod enc Tryz.prog w base sp held m f.type [cs[j]] = some xs[j] from h1)
  refine ⟨a, ?_, h3⟩
  rw [List.getElem?_eq_getElem hj]
  exact congrArg some (List.cons.inj h2).1

/-- A slice that came in: nil, or each element's cells, in a block that was there. -/
theorem open_rows {H : Type} {enc : TypeId × Value → H} {w : World} {t e : TypeId} {c : Nat} {v : Value} {d : DataW H} {ps : List MemPlace} (hc : Tryz.prog.cellsOf e = c) (ht : Tryz.prog.underlying t = some (.slice e)) (hv : ∃ A len cap, v = .slice A len cap)
    (h : DataW.Trod enc Tryz.prog w 0 (fun _ => true) true t v d ps) :
    ∃ A len cap, v = .slice A len cap ∧ len ≤ 9223372036854775807 ∧ (len = 0 ∨ ∃ el rest, d = .slice el rest ∧ el.length = len) ∧ (0 < len → ∃ a : Addr, A = some a ∧ ∀ i, i < len → ∃ cs' n y, cs'.length = c ∧ (∀ j, j < c → w.cell? (a.add (i * c + j)) = cs'[j]?) ∧ DataW.trod enc Tryz.prog w 0 (fun _ => true) true n e cs' = some y) := by
  obtain ⟨A, len, cap, rfl⟩ := hv
  obtain ⟨fuel, hf⟩ := h
  rcases Go.Deep.open_slice ht hf with ⟨h0, _⟩ | ⟨a, len', cap', m, n, D, Pl, hcs, _, hl, hm, hmm, hx, hi⟩
  · simp [Value.cells] at h0
    obtain ⟨rfl, rfl, rfl⟩ := h0
    exact ⟨none, 0, 0, rfl, by omega, .inl rfl, fun h => absurd h (by omega)⟩
  · simp [Value.cells] at hcs
    obtain ⟨rfl, rfl, rfl⟩ := hcs
    unfold maxLen at hm
    simp only [Prod.mk.injEq] at hx
    refine ⟨some a, len, cap, rfl, by omega, .inr ⟨_, _, hx.1, by simp⟩, fun _ => ⟨a, rfl, fun i hil => ?_⟩⟩
    obtain ⟨cs', h1, h2⟩ := hi i (by rw [hmm]; simp; omega)
    rw [hc] at h1
    obtain ⟨_, h3, h4⟩ := World.cells?_some h1
    refine ⟨cs', n, _, h3, fun j hj => ?_, h2⟩
    rw [← Go.Deep.add_add]
    exact h4 j hj

/-! What the bound of the second form gives. -/
theorem bulk_pos {H : Type} (d : DataW H) : 1 ≤ Rows.uptoBulk d := by
  cases d with
  | lit l => cases l <;> simp [Rows.uptoBulk]
  | _ => simp [Rows.uptoBulk]
theorem bulk_mem {H : Type} {d : DataW H} {l : List (DataW H)} (h : d ∈ l) : Rows.uptoBulk d ≤ Rows.uptoBulkAll l := by
  induction l with
  | nil => cases h
  | cons x r ih =>
    simp only [Rows.uptoBulkAll]
    rcases List.mem_cons.1 h with rfl | e
    · omega
    · have := ih e; omega
theorem bulk_length {H : Type} (l : List (DataW H)) : l.length ≤ Rows.uptoBulkAll l := by
  induction l with
  | nil => simp [Rows.uptoBulkAll]
  | cons x r ih => have := bulk_pos x; simp only [Rows.uptoBulkAll, List.length_cons]; omega
theorem bulk_len {H : Type} {ds : List (DataW H)} {d : DataW H} {len : Nat} (hd : d ∈ ds) (h : len = 0 ∨ ∃ el rest, d = .slice el rest ∧ el.length = len) (hk : Rows.uptoSmall H ds = true) : len ≤ 1048576 := by
  have hb : Rows.uptoBulkAll ds ≤ 1048576 := of_decide_eq_true hk
  rcases h with rfl | ⟨el, rest, rfl, rfl⟩
  · omega
  · have h1 := bulk_mem hd
    have h2 := bulk_length el
    simp only [Rows.uptoBulk] at h1
    omega
end Law
end Go.Proofs.YtfpghnldcbhniaaGreat
namespace Go.Proofs.YtfpghnldcbhniaaGreat
set_option linter.unusedVariables false
set_option linter.unusedSimpArgs false
open Go.ChangeShapes Go.WideShapes Go.ChangeAt Go.RowKit
namespace Ev
def rowV (n : Nat → Int) : List IntKind → Nat → List Value
  | [], _ => []
  | k :: l, i => .int k (n i) :: rowV n l (i + 1)
def rowA (n : Nat → Int) : List IntKind → Nat → List AV
  | [], _ => []
  | k :: l, i => .int k (n i) :: rowA n l (i + 1)
theorem row_VL (c : Cx) (n : Nat → Int) : ∀ (l : List IntKind) (i : Nat), VL c (rowA n l i) (rowV n l i) ∧ ∀ a ∈ rowA n l i, a.one = true
  | [], i => ⟨.nil, fun a h => by cases h⟩
  | k :: l, i => by
    obtain ⟨h1, h2⟩ := row_VL c n l (i + 1)
    refine ⟨.cons (.int _ _) h1, fun a ha => ?_⟩
    rcases List.mem_cons.1 ha with rfl | ha
    · rfl
    · exact h2 a ha
theorem rowV_get (n : Nat → Int) : ∀ (l : List IntKind) (i j : Nat), (rowV n l i)[j]? = (l[j]?).map fun k => Value.int k (n (i + j))
  | [], i, j => by simp [rowV]
  | k :: l, i, 0 => by simp [rowV]
  | k :: l, i, j + 1 => by
    simp only [rowV, List.getElem?_cons_succ]
    rw [rowV_get n l (i + 1) j, show i + 1 + j = i + (j + 1) by omega]
def intAt (cs : Array Value) (i : Nat) : Int :=
  match cs[i]? with
  | some (.int _ z) => z
  | _ => 0
set_option maxRecDepth 100000 in
/-- A struct or an array of whole numbers that came in. -/
theorem open_row {w : World} {base : Nat} {t : TypeId} {v : Value} {ts : List TypeId} {ks : List IntKind} (hv : Value.okWide Tryz.prog w .any base t v) (hu : (match Tryz.prog.underlying t with | some (.struct _) | some (.array _ _) => true | _ => false) = true)
    (hc : Tryz.prog.cellTypes Tryz.prog.depth t = some ts) (hk : ts.map Tryz.prog.underlying = ks.map fun k => some (.int k)) (hs : Tryz.prog.cellsOf t = ks.length) : ∃ n : Nat → Int, v = .agg (rowV n ks 0).toArray := by
  unfold Value.okWide at hv
  have hv : ∃ cs, v = .agg cs ∧ cs.size = Tryz.prog.cellsOf t ∧ Row.okWide Tryz.prog w .any base t cs := by
    split at hu
    · rename_i h; rw [h] at hv; exact hv
    · rename_i h; rw [h] at hv; exact hv
    · cases hu
  obtain ⟨cs, rfl, hsz, ts', h1, _, h3⟩ := hv
  rw [hc] at h1
  cases h1
  have hlen : ts.length = ks.length := by simpa using congrArg List.length hk
  refine ⟨intAt cs, congrArg Value.agg ?_⟩
  apply Array.ext_getElem?
  intro i
  have hg : (rowV (intAt cs) ks 0).toArray[i]? = (ks[i]?).map fun k => Value.int k (intAt cs i) := by
    rw [List.getElem?_toArray, rowV_get, Nat.zero_add]
  rw [hg]
  cases hi : cs[i]? with
  | none =>
    have : ks[i]? = none := by
      rw [List.getElem?_eq_none_iff]
      rw [Array.getElem?_eq_none_iff] at hi
      omega
    rw [this]
    rfl
  | some x =>
    have hlt : i < ks.length := by
      have := (Array.getElem?_eq_some_iff.1 hi).1
      omega
    obtain ⟨u, hu1, hu2⟩ := h3 i x hi
    rw [Nat.mod_eq_of_lt (by omega)] at hu1
    have h4 : (ts.map Tryz.prog.underlying)[i]? = (ks.map fun k => some (TypeDesc.int k))[i]? := by rw [hk]
    rw [List.getElem?_map, List.getElem?_map, hu1, List.getElem?_eq_getElem hlt] at h4
    have h5 : Tryz.prog.underlying u = some (.int ks[i]) := by simpa using h4
    rw [List.getElem?_eq_getElem hlt]
    have h6 : ∃ z, x = .int ks[i] z := by
      unfold Cell.okWide at hu2
      rw [h5] at hu2
      simp only at hu2
      unfold Cell.ok at hu2
      rw [h5] at hu2
      cases x <;> simp at hu2
      rename_i k z
      exact ⟨z, congrArg (fun q => Value.int q z) hu2.1⟩
    obtain ⟨z, rfl⟩ := h6
    simp [intAt, hi]
end Ev
end Go.Proofs.YtfpghnldcbhniaaGreat
