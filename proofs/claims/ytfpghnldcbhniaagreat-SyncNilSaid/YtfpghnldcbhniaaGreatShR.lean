/- Whole arrays loaded and stored. -/
import Derived.Test.YtfpghnldcbhniaaGreatBase
import Derived.Deep.WholeRow
namespace Go.Proofs.YtfpghnldcbhniaaGreat
set_option linter.unusedVariables false
set_option linter.unusedSimpArgs false
open Go.RowKit Go.Maps
section
variable {P : Program} {w w' : World} {g g' : Nat} {t t' : TypeId} {cs cs' : Array Value} {rw0 : Option Nat}
theorem Whole.rowAt (h : Whole w g t cs) (c' : Array Value) : Whole (w.setRow g c') g t c' := setRow_heap w g cs c' t (0, 0) h
theorem Whole.row_aside (h : Whole w g t cs) (hne : g' ≠ g) (c' : Array Value) : Whole (w.setRow g' c') g t cs := by
  have h' : w.heap[g]? = some (.cells cs t (0, 0)) := h
  show (w.setRow g' c').heap[g]? = _
  simp [World.setRow, Array.getElem?_modify, h', hne]
theorem grown_row (h : w.grownBy w' rw0) (hp : some g = rw0 ∨ w.heap.size ≤ g) (c' : Array Value) : w.grownBy (w'.setRow g c') rw0 := by
  refine ⟨h.os, h.tape, h.output, by simpa [World.setRow] using h.size, fun k hk hne => ?_⟩
  have : g ≠ k := by
    rintro rfl
    rcases hp with e | e
    · exact hne e
    · omega
  rw [← h.block k hk hne]
  simp [World.setRow, Array.getElem?_modify, this]
theorem load_whole {ops : Array Oper} {rest : List Oper} {op : Oper} {a : Act} {Q : Exit → Act → World → Prop} (hgd : op.guard = none) (x : Operand) (ho : op.op = .load t x) (n : Nat) (e : TypeId) (hu : P.underlying t = some (.array n e)) (hi : (P.info? t).map (·.size) = some cs.size)
    (hx : a.eval x = .pointer (some ⟨g, 0, none⟩)) (hw : Whole w g t' cs) (h : wpList P ops Q rest (a.put op.dst (.agg cs)) w) : wpList P ops Q (op :: rest) a w := by
  refine wpList_plain hgd fun _ hK => ?_
  unfold Oper.wp execOp
  simp only [ho, hx, Instr.loadAt, Instr.sureAddr, Sem.run_bind, Sem.run_pure, Result.andThen_ok, run_loadVar_row w g t' t cs (0, 0) _ hw hu rfl hi]
  exact hK _ _ h
theorem store_whole {ops : Array Oper} {rest : List Oper} {op : Oper} {a : Act} {Q : Exit → Act → World → Prop} (hgd : op.guard = none) (x y : Operand) (ho : op.op = .store t x y) (hx : a.eval x = .pointer (some ⟨g, 0, none⟩)) (hy : a.eval y = .agg cs')
    (hi : (P.info? t).map (·.size) = some cs'.size) (hw : Whole w g t' cs) (hs : cs.size = cs'.size) (h1 : cs'.all (·.oneCell') = true) (h : wpList P ops Q rest (a.put op.dst undef) (w.setRow g cs')) : wpList P ops Q (op :: rest) a w := by
  refine wpList_plain hgd fun _ hK => ?_
  unfold Oper.wp execOp
  simp only [ho, hx, hy, Instr.storeAt, Instr.sureAddr, Sem.run_bind, Sem.run_pure, Result.andThen_ok, run_storeVar_row w g t' t cs cs' hw hi hs h1]
  exact hK _ _ h
end
end Go.Proofs.YtfpghnldcbhniaaGreat
