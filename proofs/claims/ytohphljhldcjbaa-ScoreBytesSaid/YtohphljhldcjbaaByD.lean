/- The reference's lay. -/
import Derived.Test.YtohphljhldcjbaaByC
import Derived.Laws.AppendOwn
import Derived.Laws.BytesArg
namespace Go.Proofs.Ytohphljhldcjbaa
set_option linter.unusedVariables false
set_option linter.unusedSimpArgs false
open Go.RowKit Go.Maps
namespace By

theorem layL_snoc (n k : Nat) : layL n (k + 1) = layL n k ++ [UInt8.ofNat (byteAt n k)] := by
  simp [layL, List.range_succ]

/-- A row of bytes that the call has made. -/
def ByteRow (w : World) (B : Nat) (v : Value) (l : List UInt8) : Prop := w.ownsRow B 5 1 v l.length (Lib.byteCells l)

theorem ByteRow.text {w : World} {B : Nat} {v : Value} {l : List UInt8} (h : ByteRow w B v l) : ∀ n, (convert 236 9 v).run Try.prog (w.drewN n) = .ok (.string ⟨l.toArray⟩) (w.drewN n) := by
  intro n
  rcases h.2 with ⟨hv, h0⟩ | ⟨g, cap, cur, hv, hr⟩
  · have hl : l = [] := List.length_eq_zero_iff.1 h0
    subst hl hv
    exact run_convert_bytes_nil _ 236 5 Try.underlying236 Try.underlying5 0 0 9 Try.underlying9
  · subst hv
    refine run_convert_bytes_back (P := Try.prog) _ 236 9 5 ⟨g, 0, none⟩ cap l Try.underlying236 Try.underlying5 Try.underlying9 (fun i hi => ?_)
    exact h.cells (g := g) rfl i _ (by simp [Lib.byteCells, List.getElem?_eq_getElem hi])

set_option maxHeartbeats 2000000 in
set_option maxRecDepth 100000 in
theorem rlay_any (n k : Nat) (w : World) (hn : n < 18446744073709551616) (hk : k ≤ 8) :
    Calls Try.prog 85 #[.int .u64 n, .int .i64 k] w fun e w' => e = .returned (.string (layB n k)) ∧ w.grownBy w' none := by
  obtain ⟨i0, hi, hz0, hz1, hz2⟩ := info_parts infoByte
  have HN := Lib.hid hn
  clear hn
  go_enter Try.func85, Try.ntmps85
  go_wp2_with fail
  go_loopw [0, 5, 6] (fun n' v i wr => ∃ j : Nat, j ≤ k ∧ i = .int .i64 j ∧ n' = .int .u64 ((n / 256 ^ j : Nat) : Int) ∧ ByteRow wr w.heap.size v (layL n j) ∧ Below w.heap.size w wr) (fun _ _ i _ => k - (intOf i).toNat)
  case atStart =>
    refine ⟨0, Nat.zero_le _, rfl, by simp, ?_, (Below.refl _ w).alloc (Nat.le_refl _) _⟩
    exact World.ownsRow_made w #[] 0 (Nat.le_refl _) (by unfold maxLen; omega) rfl
  case round =>
    obtain ⟨j, hj, rfl, rfl, hrow, hb⟩ := hrel
    by_cases hlt : j < k
    · have e1 : ((j : Int) < (k : Int)) = True := eq_true (by omega)
      have hll : (layL n j).length = j := by simp [layL]
      have hrow' : wr.ownsRow w.heap.size 5 1 u5 j (Lib.byteCells (layL n j)) := by have := hrow; unfold ByteRow at this; rwa [hll] at this
      have hbs := hb.size
      go_wp2_with (at_builtin; refine wpList_append_own _ rfl _ _ 236 rfl w.heap.size 5 i0 (.int .u8 0) 1 1 Try.underlying236 hi hz0 hz1 hz2 rfl (by decide) _ _ _ rfl (hrow'.alloc _) ⟨wr.heap.size, 0, none⟩ 1 1 [.int .u8 (((n : Int) / 256 ^ j).tmod 256 % 256)] rfl rfl ?c1 ?c2 ?c3 ?c4 ?c5 ?_)
      case c1 =>
        intro j u hj
        match j, hj with
        | 0, hj => simp at hj; subst hj; simp [Addr.add]
      case c2 => intro u hu; simp at hu; subst hu; rfl
      case c3 => unfold maxLen; omega
      case c4 => omega
      case c5 => simp; omega
      intro v' w2 hown' hgrow _
      have ev : ((n : Int) / 256 ^ j).tmod 256 % 256 = ((UInt8.ofNat (byteAt n j)).toNat : Int) := by
        unfold byteAt
        have h1 : ((n : Int) / 256 ^ j) = ((n / 256 ^ j : Nat) : Int) := by simp
        rw [h1, Int.tmod_eq_emod_of_nonneg (Int.natCast_nonneg _)]
        simp
      rw [ev] at hown' hgrow
      have hrow2 : ByteRow w2 w.heap.size v' (layL n (j + 1)) := by
        unfold ByteRow
        rw [layL_snoc, Lib.byteCells_append]
        simp only [List.length_append, List.length_cons, List.length_nil, hll]
        exact hown'
      have hb2 : Below w.heap.size w w2 := (hb.alloc (by omega) _).grown hgrow (by simp; omega) (fun k hk => (hrow'.lt k hk).1)
      clear hown' hgrow
      have ew : IntKind.u64.wrap (((n : Int) / 256 ^ j).tdiv 256) = ((n / 256 ^ (j + 1) : Nat) : Int) := by
        have h1 : ((n : Int) / 256 ^ j) = ((n / 256 ^ j : Nat) : Int) := by simp
        have h2 : n / 256 ^ (j + 1) = n / 256 ^ j / 256 := by rw [Nat.pow_succ, Nat.div_div_eq_div_mul]
        have h3 : n / 256 ^ j ≤ n := Nat.div_le_self _ _
        have h4 := HN.out
        rw [h1, h2]
        generalize n / 256 ^ j = q at h3
        rw [Int.tdiv_eq_ediv_of_nonneg (Int.natCast_nonneg _)]
        rw [IntWalk.u64_in _ (by omega)]
        simp
      go_wp2_with fail
      go_roundw
      case rel => exact ⟨j + 1, by omega, by go_num, by simp, hrow2, hb2⟩
      case measure => simp [intOf]; omega
    · obtain rfl : j = k := by omega
      have e1 : ((j : Int) < (j : Int)) = False := eq_false (by omega)
      have ht : (convert 236 9 u5).run Try.prog wr = .ok (.string (layB n j)) wr := hrow.text 0
      go_wp2_with fail
      go_ret
      exact ⟨rfl, grown_own hb rfl⟩
end By
end Go.Proofs.Ytohphljhldcjbaa
