/- Bans of bytes: what both decoders answer. -/
import Derived.Test.YtohphljhldcjbaaByH
import Derived.Laws.AppendOwn
namespace Go.Proofs.Ytohphljhldcjbaa
set_option linter.unusedVariables false
set_option linter.unusedSimpArgs false
open Go.RowKit Go.Maps
namespace By

def hostF (s : ByteArray) (i : Nat) : Nat := numB (s.extract (1 + 12 * i) (1 + 12 * i + 4))
def tilF (s : ByteArray) (i : Nat) : Nat := numB (s.extract (1 + 12 * i + 4) (1 + 12 * i + 4 + 8))
/-- What is wrong with the i-th ban. -/
def errI (s : ByteArray) (i : Nat) : Int :=
  if s.size < 1 + 12 * i + 4 then 4 else if 0 < i ∧ hostF s i ≤ hostF s (i - 1) then 6 else if s.size < 1 + 12 * i + 12 then 4 else if tilF s i < 1 ∨ 1099511627776 < tilF s i then 6 else 0
def runE (s : ByteArray) : Nat → Nat → Int
  | 0, i => if 1 + 12 * i < s.size then 5 else 0
  | r + 1, i => if errI s i = 0 then runE s r (i + 1) else errI s i
def decE (s : ByteArray) : Int := if cntE s = 0 then runE s (b0 s) 0 else cntE s
def dcs (s : ByteArray) : Nat → List Value
  | 0 => []
  | k + 1 => dcs s k ++ [.int .u32 (hostF s k : Nat), .int .i64 (tilF s k : Nat)]
theorem dcs_len (s : ByteArray) : ∀ k, (dcs s k).length = k * 2
  | 0 => rfl
  | k + 1 => by simp only [dcs, List.length_append, dcs_len s k]; simp; omega
theorem dcs_get (s : ByteArray) {i k : Nat} (h : i < k) : (dcs s k)[i * 2]? = some (.int .u32 (hostF s i : Nat)) ∧ (dcs s k)[i * 2 + 1]? = some (.int .i64 (tilF s i : Nat)) := by
  induction k with
  | zero => omega
  | succ k ih =>
    have hl := dcs_len s k
    simp only [dcs]
    rcases Nat.lt_or_ge i k with hk | hk
    · rw [List.getElem?_append_left (by omega), List.getElem?_append_left (by omega)]
      exact ih hk
    · obtain rfl : i = k := by omega
      rw [List.getElem?_append_right (by omega), List.getElem?_append_right (by omega), hl]
      simp

theorem errI_zero {s : ByteArray} {i : Nat} (h1 : ¬ s.size < 1 + 12 * i + 4) (h2 : ¬ (0 < i ∧ hostF s i ≤ hostF s (i - 1))) (h3 : ¬ s.size < 1 + 12 * i + 12) (h4 : ¬ (tilF s i < 1 ∨ 1099511627776 < tilF s i)) : errI s i = 0 := by
  unfold errI; rw [if_neg h1, if_neg h2, if_neg h3, if_neg h4]
theorem errI_cut {s : ByteArray} {i : Nat} (h1 : s.size < 1 + 12 * i + 4) : errI s i = 4 := by unfold errI; rw [if_pos h1]
theorem errI_row {s : ByteArray} {i : Nat} (h1 : ¬ s.size < 1 + 12 * i + 4) (h2 : 0 < i ∧ hostF s i ≤ hostF s (i - 1)) : errI s i = 6 := by unfold errI; rw [if_neg h1, if_pos h2]
theorem errI_cut2 {s : ByteArray} {i : Nat} (h1 : ¬ s.size < 1 + 12 * i + 4) (h2 : ¬ (0 < i ∧ hostF s i ≤ hostF s (i - 1))) (h3 : s.size < 1 + 12 * i + 12) : errI s i = 4 := by
  unfold errI; rw [if_neg h1, if_neg h2, if_pos h3]
theorem errI_til {s : ByteArray} {i : Nat} (h1 : ¬ s.size < 1 + 12 * i + 4) (h2 : ¬ (0 < i ∧ hostF s i ≤ hostF s (i - 1))) (h3 : ¬ s.size < 1 + 12 * i + 12) (h4 : tilF s i < 1 ∨ 1099511627776 < tilF s i) : errI s i = 6 := by
  unfold errI; rw [if_neg h1, if_neg h2, if_neg h3, if_pos h4]
theorem runE_err {s : ByteArray} {n i : Nat} (hi : i < n) {e : Int} (he : errI s i = e) (h0 : e ≠ 0) : runE s (n - i) i = e := by
  obtain ⟨r, hr⟩ : ∃ r, n - i = r + 1 := ⟨n - i - 1, by omega⟩
  rw [hr]
  simp only [runE]
  rw [he, if_neg h0]
theorem runE_next {s : ByteArray} {n i : Nat} (hi : i < n) (he : errI s i = 0) : runE s (n - i) i = runE s (n - (i + 1)) (i + 1) := by
  obtain ⟨r, hr⟩ : ∃ r, n - i = r + 1 := ⟨n - i - 1, by omega⟩
  have hr2 : n - (i + 1) = r := by omega
  rw [hr, hr2]
  simp only [runE]
  rw [he, if_pos rfl]

theorem hostF_lt (s : ByteArray) (i : Nat) : hostF s i < 4294967296 := numB_lt (k := 4) (part_size _ _ _)
theorem tilF_lt (s : ByteArray) (i : Nat) : tilF s i < 18446744073709551616 := numB_lt (k := 8) (part_size _ _ _)

/-- What a decoder answers. -/
def Decoded (t : TypeId) (s : ByteArray) (w : World) (e : Ending) (w' : World) : Prop :=
  ((∃ v, decE s = 0 ∧ e = .returned (.tuple #[v, .int .i64 0]) ∧ w'.ownsRow w.heap.size t 2 v (b0 s) (dcs s (b0 s))) ∨ (decE s ≠ 0 ∧ e = .returned (.tuple #[.slice none 0 0, .int .i64 (decE s)]))) ∧ Below w.heap.size w w'

theorem row_ne {w : World} {B e size n : Nat} {v : Value} {xs : List Value} {R t : Nat} {cs : Array Value} (h : w.ownsRow B e size v n xs) (hr : Whole w R t cs) (hne : e ≠ t) : v.ownBlock ≠ some R := by
  intro he
  have hr' : w.heap[R]? = some (.cells cs t (0, 0)) := hr
  rcases h.2 with ⟨rfl, _⟩ | ⟨g', cap, cur, rfl, _, hh, _⟩
  · simp [Value.ownBlock] at he
  · have : g' = R := by simpa [Value.ownBlock] using he
    subst this
    rw [hr'] at hh
    injection hh with hh
    injection hh with _ h2
    exact hne h2.symm
theorem row_shape {w : World} {B e size n : Nat} {v : Value} {xs : List Value} (h : w.ownsRow B e size v n xs) : ∃ A cap, v = .slice A n cap ∧ (0 < n → ∃ g, A = some ⟨g, 0, none⟩ ∧ v.ownBlock = some g) := by
  rcases h.2 with ⟨rfl, h0⟩ | ⟨g', cap, cur, rfl, _⟩
  · exact ⟨none, 0, by rw [h0], fun hp => absurd hp (by omega)⟩
  · exact ⟨_, _, rfl, fun _ => ⟨g', rfl, rfl⟩⟩

/-- A decoder at work: its reader, what it has, all that was there. -/
structure DecSt (w0 W : World) (R : Nat) (s : ByteArray) (at_ e : Int) (v : Value) (k : Nat) (xs : List Value) : Prop where
  rd : Rd W R s at_ e
  row : W.ownsRow w0.heap.size 60 2 v k xs
  below : Below w0.heap.size w0 W
  hR : w0.heap.size ≤ R
theorem DecSt.turn {w0 W W' : World} {R k : Nat} {s : ByteArray} {at_ e at' e' : Int} {v : Value} {xs : List Value} (h : DecSt w0 W R s at_ e v k xs) (hr : Rd W' R s at' e') (hg : W.grownBy W' (some R)) : DecSt w0 W' R s at' e' v k xs :=
  ⟨hr, h.row.kept hg (.inr (row_ne h.row h.rd (by decide))), h.below.trans (Below.of_grown hg h.below.size (fun g hg => by have := h.hR; injection hg with hg; omega)), h.hR⟩
end By
end Go.Proofs.Ytohphljhldcjbaa
