/- One question of the law, whichever it is. -/
import Derived.Test.YtohphljhldcjbaaScH
import Derived.Test.YtohphljhldcjbaaScW
namespace Go.Proofs.Ytohphljhldcjbaa
set_option linter.unusedVariables false
set_option linter.unusedSimpArgs false
open Go.RowKit Go.Maps
namespace Sc

/-- How a question ends: the document's bucket and the program's are one, and it was answered as it must. -/
def AskedPost (g : Nat) (size rate : Int) (w : World) (e : Ending) (w' : World) : Prop :=
  ∃ tok time, Bk size rate tok time ∧ e = .returned (.tuple #[.agg #[.int .i64 size, .int .i64 rate, .int .i64 tok, .int .i64 time], .bool true]) ∧ Whole w' g 138 (cells size rate tok time) ∧ w.grownBy w' (some g)

theorem asked_any (g : Nat) {size rate tok time : Int} (B : Bk size rate tok time) (kind now n : Int) (w : World) (hw : Whole w g 138 (cells size rate tok time)) :
    Calls Try.prog 15 #[.pointer (some ⟨g, 0, none⟩), .agg #[.int .i64 size, .int .i64 rate, .int .i64 tok, .int .i64 time], .agg #[.int .i64 kind, .int .i64 now, .int .i64 n]] w (AskedPost g size rate w) := by
  have hq : ∀ {R : Prop}, (∀ (e : Ending) w', (e = .returned (.tuple #[.agg #[.int .i64 size, .int .i64 rate, .int .i64 tok, .int .i64 time], .bool true]) ∧ w.grownBy w' none) → AskedPost g size rate w e w') := fun e w' ⟨h1, h2⟩ =>
    ⟨tok, time, B, h1, hw.grown h2 (by simp), grown_more h2 _⟩
  have mono : ∀ {f args}, Calls Try.prog f args w (fun e w' => e = .returned (.tuple #[.agg #[.int .i64 size, .int .i64 rate, .int .i64 tok, .int .i64 time], .bool true]) ∧ w.grownBy w' none) → Calls Try.prog f args w (AskedPost g size rate w) :=
    fun h => h.mono (hq (R := True))
  by_cases k3 : ((kind.tmod 6 + 6) % 6 == 3) = true
  · by_cases hs : Sec now
    · by_cases ht : time ≤ now
      · exact mono (asked_has_yes g B kind now n w hw k3 hs.1 ht hs.2)
      · exact mono (asked_has_back g B kind now n w hw k3 hs.1 hs.2 (by omega))
    · exact mono (asked_has_nosec g B kind now n w hw k3 hs)
  have k3 : ((kind.tmod 6 + 6) % 6 == 3) = false := by simpa using k3
  by_cases k4 : ((kind.tmod 6 + 6) % 6 == 4) = true
  · by_cases hs : Sec now
    · by_cases ht : time ≤ now
      · by_cases h0 : n < 0
        · exact mono (asked_when_neg g B kind now n w hw k3 k4 hs.1 ht hs.2 h0)
        by_cases h1 : size < n
        · exact mono (asked_when_much g B kind now n w hw k3 k4 hs.1 ht hs.2 (by omega) h1)
        by_cases hh : n ≤ hasF size rate tok time now
        · exact mono (asked_when_has g B kind now n w hw k3 k4 hs.1 ht hs.2 (by omega) (by omega) hh)
        by_cases hr : rate = 0
        · exact mono (asked_when_zero g B kind now n w hw k3 k4 hs.1 ht hs.2 (by omega) (by omega) (by omega) hr)
        have := B.r0
        by_cases ha : atF rate tok time n ≤ 1099511627776
        · exact mono (asked_when_at g B kind now n w hw k3 k4 hs.1 ht hs.2 (by omega) (by omega) (by omega) (by omega) ha)
        · exact mono (asked_when_late g B kind now n w hw k3 k4 hs.1 ht hs.2 (by omega) (by omega) (by omega) (by omega) (by omega))
      · exact mono (asked_when_back g B kind now n w hw k3 k4 hs.1 hs.2 (by omega))
    · exact mono (asked_when_nosec g B kind now n w hw k3 k4 hs)
  have k4 : ((kind.tmod 6 + 6) % 6 == 4) = false := by simpa using k4
  by_cases k5 : ((kind.tmod 6 + 6) % 6 == 5) = true
  · by_cases hs : Sec now
    · by_cases ht : time ≤ now
      · exact mono (asked_copy_late g B kind now n w hw k3 k4 k5 hs.1 hs.2 ht)
      · exact mono (asked_copy_back g B kind now n w hw k3 k4 k5 hs.1 hs.2 (by omega))
    · exact mono (asked_copy_nosec g B kind now n w hw k3 k4 k5 hs)
  have k5 : ((kind.tmod 6 + 6) % 6 == 5) = false := by simpa using k5
  by_cases hs : Sec now
  · by_cases h0 : n < 0
    · exact mono (asked_take_neg_sec g B kind now n w hw k3 k4 k5 hs.1 hs.2 h0)
    by_cases ht : time ≤ now
    · by_cases hh : n ≤ hasF size rate tok time now
      · exact (asked_take_yes g B kind now n w hw k3 k4 k5 hs.1 ht hs.2 (by omega) hh).mono fun e w' ⟨h1, h2, h3⟩ => ⟨_, _, bk_yes B (by omega) hs.1 ht hs.2 hh, h1, h2, h3⟩
      · exact (asked_take_no g B kind now n w hw k3 k4 k5 hs.1 ht hs.2 (by omega) (by omega)).mono fun e w' ⟨h1, h2, h3⟩ => ⟨_, _, bk_no B hs.1 ht hs.2, h1, h2, h3⟩
    · exact mono (asked_take_back g B kind now n w hw k3 k4 k5 hs.1 hs.2 (by omega) (by omega))
  · exact mono (asked_take_nosec g B kind now n w hw k3 k4 k5 hs)
end Sc
end Go.Proofs.Ytohphljhldcjbaa
