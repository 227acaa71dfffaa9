/- What came in as a row of numbers. -/
import Derived.Test.YtfpghnldcbhniaaGreatCnN
import Derived.Test.YtfpghnldcbhniaaGreatLaws
namespace Go.Proofs.YtfpghnldcbhniaaGreat
set_option linter.unusedVariables false
set_option linter.unusedSimpArgs false
open Go.ChangeShapes Go.WideShapes Go.ChangeAt Go.RowKit
namespace Ev
def rowV (n : Nat → Int) : List IntKind → Nat → List Value
  | [], _ => []
  | k :: l, i => .int k (n i) :: rowV n l (i + 1)
def rowA (n : Nat → Int) : List IntKind → Nat → List AV
  | [], _ => []
  | k :: l, i => .int k (n i) :: rowA n l (i + 1)
theorem row_VL (c : Cx) (n : Nat → Int) : ∀ (l : List IntKind) (i : Nat), VL c (rowA n l i) (rowV n l i) ∧ ∀ a ∈ rowA n l i, a.one = true
  | [], i => ⟨.nil, fun a h => by cases h⟩
  | k :: l, i => by
    obtain ⟨h1, h2⟩ := row_VL c n l (i + 1)
    refine ⟨.cons (.int _ _) h1, fun a ha => ?_⟩
    rcases List.mem_cons.1 ha with rfl | ha
    · rfl
    · exact h2 a ha
theorem rowV_get (n : Nat → Int) : ∀ (l : List IntKind) (i j : Nat), (rowV n l i)[j]? = (l[j]?).map fun k => Value.int k (n (i + j))
  | [], i, j => by simp [rowV]
  | k :: l, i, 0 => by simp [rowV]
  | k :: l, i, j + 1 => by
    simp only [rowV, List.getElem?_cons_succ]
    rw [rowV_get n l (i + 1) j, show i + 1 + j = i + (j + 1) by omega]
def intAt (cs : Array Value) (i : Nat) : Int :=
  match cs[i]? with
  | some (.int _ z) => z
  | _ => 0
set_option maxRecDepth 100000 in
/-- A struct or an array of whole numbers that came in. -/
theorem open_row {w : World} {base : Nat} {t : TypeId} {v : Value} {ts : List TypeId} {ks : List IntKind} (hv : Value.okWide Tryz.prog w .any base t v) (hu : (match Tryz.prog.underlying t with | some (.struct _) | some (.array _ _) => true | _ => false) = true)
    (hc : Tryz.prog.cellTypes Tryz.prog.depth t = some ts) (hk : ts.map Tryz.prog.underlying = ks.map fun k => some (.int k)) (hs : Tryz.prog.cellsOf t = ks.length) : ∃ n : Nat → Int, v = .agg (rowV n ks 0).toArray := by
  unfold Value.okWide at hv
  have hv : ∃ cs, v = .agg cs ∧ cs.size = Tryz.prog.cellsOf t ∧ Row.okWide Tryz.prog w .any base t cs := by
    split at hu
    · rename_i h; rw [h] at hv; exact hv
    · rename_i h; rw [h] at hv; exact hv
    · cases hu
  obtain ⟨cs, rfl, hsz, ts', h1, _, h3⟩ := hv
  rw [hc] at h1
  cases h1
  have hlen : ts.length = ks.length := by simpa using congrArg List.length hk
  refine ⟨intAt cs, congrArg Value.agg ?_⟩
  apply Array.ext_getElem?
  intro i
  have hg : (rowV (intAt cs) ks 0).toArray[i]? = (ks[i]?).map fun k => Value.int k (intAt cs i) := by
    rw [List.getElem?_toArray, rowV_get, Nat.zero_add]
  rw [hg]
  cases hi : cs[i]? with
  | none =>
    have : ks[i]? = none := by
      rw [List.getElem?_eq_none_iff]
      rw [Array.getElem?_eq_none_iff] at hi
      omega
    rw [this]
    rfl
  | some x =>
    have hlt : i < ks.length := by
      have := (Array.getElem?_eq_some_iff.1 hi).1
      omega
    obtain ⟨u, hu1, hu2⟩ := h3 i x hi
    rw [Nat.mod_eq_of_lt (by omega)] at hu1
    have h4 : (ts.map Tryz.prog.underlying)[i]? = (ks.map fun k => some (TypeDesc.int k))[i]? := by rw [hk]
    rw [List.getElem?_map, List.getElem?_map, hu1, List.getElem?_eq_getElem hlt] at h4
    have h5 : Tryz.prog.underlying u = some (.int ks[i]) := by simpa using h4
    rw [List.getElem?_eq_getElem hlt]
    have h6 : ∃ z, x = .int ks[i] z := by
      unfold Cell.okWide at hu2
      rw [h5] at hu2
      simp only at hu2
      unfold Cell.ok at hu2
      rw [h5] at hu2
      cases x <;> simp at hu2
      rename_i k z
      exact ⟨z, congrArg (fun q => Value.int q z) hu2.1⟩
    obtain ⟨z, rfl⟩ := h6
    simp [intAt, hi]
end Ev
end Go.Proofs.YtfpghnldcbhniaaGreat
