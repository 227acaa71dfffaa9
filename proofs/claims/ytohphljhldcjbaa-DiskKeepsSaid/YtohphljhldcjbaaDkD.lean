/- The disk's names: what may be a name. -/
import Derived.Test.YtohphljhldcjbaaBase
import Derived.LoopTactic
namespace Go.Proofs.Ytohphljhldcjbaa
open Go.RowKit Go.Maps
namespace Dk

/-- A byte of a name. -/
def byteOk (c : Nat) : Bool := decide ((97 ≤ c ∧ c ≤ 122) ∨ (48 ≤ c ∧ c ≤ 57) ∨ c = 46 ∨ c = 45)
/-- What may be a name. -/
def nameOk (s : ByteArray) : Bool := decide (1 ≤ s.size ∧ s.size ≤ 32) && s.data.toList.all fun c => byteOk c.toNat

theorem allBytes {s : ByteArray} (h : ∀ j (hj : j < s.size), byteOk s[j].toNat = true) : (s.data.toList.all fun c => byteOk c.toNat) = true := by
  rw [List.all_eq_true]
  intro c hc
  obtain ⟨i, hi, rfl⟩ := List.mem_iff_getElem.1 hc
  exact h i (by simpa using hi)
theorem someByte {s : ByteArray} {j : Nat} (hj : j < s.size) (h : byteOk s[j].toNat = false) : (s.data.toList.all fun c => byteOk c.toNat) = false := by
  rw [List.all_eq_false]
  exact ⟨s[j], by exact List.getElem_mem (l := s.data.toList) (by simpa using hj), by rw [h]; simp⟩

theorem name_short {s : ByteArray} (h : s.size < 1 ∨ 32 < s.size) : nameOk s = false := by
  unfold nameOk
  rw [decide_eq_false (by omega), Bool.false_and]
theorem name_byte {s : ByteArray} {j : Nat} (hj : j < s.size) (h : byteOk s[j].toNat = false) : nameOk s = false := by
  unfold nameOk
  rw [someByte hj h, Bool.and_false]
theorem name_good {s : ByteArray} (h1 : 1 ≤ s.size) (h2 : s.size ≤ 32) (h : ∀ j (hj : j < s.size), byteOk s[j].toNat = true) : nameOk s = true := by
  unfold nameOk
  rw [allBytes h, decide_eq_true ⟨h1, h2⟩, Bool.and_true]
/-- What is answered of names. -/
def answer (l : List ByteArray) : Int := if l.all nameOk = true then 0 else 70

theorem answer_bad {l : List ByteArray} {k : Nat} (hk : k < l.length) (h : nameOk l[k] = false) : answer l = 70 := by
  unfold answer
  have e : l.all nameOk = false := List.all_eq_false.2 ⟨l[k], List.getElem_mem _, by rw [h]; simp⟩
  rw [e]
  rfl
theorem answer_good {l : List ByteArray} (h : ∀ j (hj : j < l.length), nameOk l[j] = true) : answer l = 0 := by
  unfold answer
  have e : l.all nameOk = true := by
    rw [List.all_eq_true]
    intro s hs
    obtain ⟨i, hi, rfl⟩ := List.mem_iff_getElem.1 hs
    exact h i hi
  rw [e]
  rfl

set_option maxHeartbeats 1000000 in
set_option maxRecDepth 100000 in
theorem named_any (p n c : Nat) (l : List ByteArray) (w : World) (hl : l.length = n) (hn : n ≤ 1000000) (hc : ∀ i (hi : i < l.length), w.cell? ⟨p, i, none⟩ = some (.string l[i]) ∧ l[i].size ≤ 9223372036854775807) :
    Calls Try.prog 132 #[.slice (some ⟨p, 0, none⟩) n c] w fun e w' => e = .returned (.int .i64 (answer l)) ∧ w = w' := by
  go_enter Try.func132, Try.ntmps132
  go_wp2
  go_loop [9] (fun i => ∃ k : Nat, k ≤ n ∧ i = .int .i64 k ∧ ∀ j (hj : j < l.length), j < k → nameOk l[j] = true) (fun i => n - (intOf i).toNat)
  case atStart => exact ⟨0, Nat.zero_le _, rfl, fun j hj h => absurd h (by omega)⟩
  case round =>
    obtain ⟨k, hk, rfl, hall⟩ := hrel
    have HA := Lib.hid hall
    clear hall
    by_cases hlt : k < n
    · have hkl : k < l.length := by omega
      obtain ⟨q0, q1⟩ := hc k hkl
      generalize hs : l[k] = s at q0 q1
      have HS := Lib.hid hs
      have HC := Lib.hid hc
      have HL := Lib.hid hl
      clear hs hc hl
      clear q1
      by_cases h1 : s.size < 1
      · have HN := Lib.hid (name_short (.inl h1))
        have t1 : decide ((s.size : Int) < 1) = true := decide_eq_true (by omega)
        clear h1
        go_wp2
        go_ret
        exact ⟨ret_int (answer_bad hkl (by rw [HS.out]; exact HN.out)).symm, rfl⟩
      by_cases h2 : 32 < s.size
      · have HN := Lib.hid (name_short (.inr h2))
        have t1 : decide ((s.size : Int) < 1) = false := decide_eq_false (by omega)
        have t2 : decide (32 < (s.size : Int)) = true := decide_eq_true (by omega)
        clear h1 h2
        go_wp2
        go_ret
        exact ⟨ret_int (answer_bad hkl (by rw [HS.out]; exact HN.out)).symm, rfl⟩
      have h3 : 1 ≤ s.size := by omega
      have h4 : s.size ≤ 32 := by omega
      clear h1 h2
      go_wp2
      go_loop [23] (fun i => ∃ m : Nat, m ≤ s.size ∧ i = .int .i64 m ∧ ∀ j (hj : j < s.size), j < m → byteOk s[j].toNat = true) (fun i => s.size - (intOf i).toNat)
      case atStart => exact ⟨0, Nat.zero_le _, rfl, fun j hj h => absurd h (by omega)⟩
      case round =>
        obtain ⟨m, hm, rfl, hb⟩ := hrel
        have HB := Lib.hid hb
        clear hb
        by_cases hlm : m < s.size
        · go_wp2
          all_goals first
            | (go_ret
               have hbad : byteOk s[m].toNat = false := by
                 unfold byteOk
                 apply decide_eq_false
                 simp only [bne_iff_ne, ne_eq] at *
                 omega
               exact ⟨ret_int (answer_bad hkl (by rw [HS.out]; exact name_byte hlm hbad)).symm, rfl⟩)
            | (have hgood : byteOk s[m].toNat = true := by
                 unfold byteOk
                 apply decide_eq_true
                 try simp only [bne_iff_ne, ne_eq, bne_eq_false_iff_eq] at *
                 omega
               refine ⟨⟨m + 1, by omega, by go_num, fun j hj h => ?_⟩, by simp [intOf]; omega⟩
               rcases Nat.lt_or_ge j m with hjm | hjm
               · exact HB.out j hj hjm
               · obtain rfl : j = m := by omega
                 exact hgood)
        · have hm' : m = s.size := by omega
          have HN := Lib.hid (name_good h3 h4 (fun j hj => HB.out j hj (by omega)))
          clear hm'
          go_wp2
          refine ⟨⟨k + 1, by omega, by go_num, fun j hj h => ?_⟩, by simp [intOf]; omega⟩
          rcases Nat.lt_or_ge j k with hjk | hjk
          · exact HA.out j hj hjk
          · obtain rfl : j = k := by omega
            rw [HS.out]
            exact HN.out
    · go_wp2
      go_ret
      exact ⟨ret_int (answer_good fun j hj => HA.out j hj (by omega)).symm, rfl⟩
end Dk
end Go.Proofs.Ytohphljhldcjbaa
