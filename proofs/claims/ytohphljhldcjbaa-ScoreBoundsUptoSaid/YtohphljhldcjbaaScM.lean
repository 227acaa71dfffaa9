/- The questions of the bucket's laws, opened. -/
import Derived.Test.YtohphljhldcjbaaLaws
namespace Go.Proofs.Ytohphljhldcjbaa
set_option linter.unusedVariables false
set_option linter.unusedSimpArgs false
open Go.ChangeShapes Go.WideShapes Go.ChangeAt Go.RowKit
namespace Sc

theorem askFields : ∃ f0 f1 f2 : Field, Try.prog.underlying 31 = some (.struct #[f0, f1, f2]) ∧ Try.prog.underlying f0.type = some (.int .i64) ∧ Try.prog.underlying f1.type = some (.int .i64) ∧ Try.prog.underlying f2.type = some (.int .i64) ∧ Go.Deep.oneCellFields Try.prog #[f0, f1, f2] = true := by
  exact ⟨_, _, _, Try.underlying31, by kernel_rfl, by kernel_rfl, by kernel_rfl, by kernel_rfl⟩
theorem askCells : Try.prog.cellsOf 31 = 3 := by kernel_rfl

/-- The questions that came in, as cells. -/
theorem asks_open {H : Type} {enc : TypeId × Value → H} {w : World} {v : Value} {d : DataW H} {ps : List MemPlace} (hv : ∃ A len cap, v = .slice A len cap) (h : DataW.Trod enc Try.prog w 0 (fun _ => true) true 22 v d ps) :
    ∃ A len cap, v = .slice A len cap ∧ len ≤ 9223372036854775807 ∧ (len = 0 ∨ ∃ el rest, d = .slice el rest ∧ el.length = len) ∧ (0 < len → ∃ b off, A = some ⟨b, off, none⟩ ∧ b < w.heap.size ∧ ∀ i, i < len → ∃ kind now n, w.cell? ⟨b, off + i * 3, none⟩ = some (.int .i64 kind) ∧ w.cell? ⟨b, off + i * 3 + 1, none⟩ = some (.int .i64 now) ∧ w.cell? ⟨b, off + i * 3 + 2, none⟩ = some (.int .i64 n)) := by
  obtain ⟨f0, f1, f2, he, k0, k1, k2, hone⟩ := askFields
  obtain ⟨A, len, cap, rfl, hl, hd, hc⟩ := Law.open_rows askCells Try.underlying22 hv h
  refine ⟨A, len, cap, rfl, hl, hd, fun hpos => ?_⟩
  obtain ⟨a, rfl, hi⟩ := hc hpos
  have all : ∀ i, i < len → ∃ kind now n, w.cell? (a.add (i * 3)) = some (.int .i64 kind) ∧ w.cell? (a.add (i * 3 + 1)) = some (.int .i64 now) ∧ w.cell? (a.add (i * 3 + 2)) = some (.int .i64 n) := by
    intro i hil
    obtain ⟨cs, n, y, hlen, hcell, ht⟩ := hi i hil
    obtain ⟨x0, e0, _⟩ := Law.int_field he hone ht 0 f0 .i64 rfl k0 (by omega)
    obtain ⟨x1, e1, _⟩ := Law.int_field he hone ht 1 f1 .i64 rfl k1 (by omega)
    obtain ⟨x2, e2, _⟩ := Law.int_field he hone ht 2 f2 .i64 rfl k2 (by omega)
    exact ⟨x0, x1, x2, by simpa [e0] using hcell 0 (by omega), by rw [hcell 1 (by omega), e1], by rw [hcell 2 (by omega), e2]⟩
  obtain ⟨b, off, spot⟩ := a
  have hsp : spot = none := by
    obtain ⟨_, _, _, h0, _⟩ := all 0 hpos
    have := World.cell?_spot h0
    simpa [Addr.add] using this
  subst hsp
  have hadd : ∀ k, (⟨b, off, none⟩ : Addr).add k = ⟨b, off + k, none⟩ := by
    intro k
    unfold Addr.add
    split
    · rename_i h; subst h; rfl
    · rfl
  refine ⟨b, off, rfl, ?_, fun i hil => ?_⟩
  · obtain ⟨_, _, _, h0, _⟩ := all 0 hpos
    have := World.block_lt_of_cell? w _ h0
    rw [hadd] at this
    exact this
  · obtain ⟨x0, x1, x2, h0, h1, h2⟩ := all i hil
    rw [hadd] at h0 h1 h2
    exact ⟨x0, x1, x2, h0, by rw [Nat.add_assoc]; exact h1, by rw [Nat.add_assoc]; exact h2⟩

end Sc
end Go.Proofs.Ytohphljhldcjbaa
