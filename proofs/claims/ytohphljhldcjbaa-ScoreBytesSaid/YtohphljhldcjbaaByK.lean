/- The reference's Decode. -/
import Derived.Test.YtohphljhldcjbaaByJ
namespace Go.Proofs.Ytohphljhldcjbaa
set_option linter.unusedVariables false
set_option linter.unusedSimpArgs false
open Go.RowKit Go.Maps
namespace By

theorem info61 : (Try.prog.info? 61).map (fun i => (i.zero, i.size, i.bytes)) = some (some (.agg #[.int .u32 0, .int .i64 0]), 2, 16) := by kernel_rfl

/-- A ban of the reference's is put behind. -/
theorem app_row {w0 W : World} {k : Nat} {v : Value} {xs : List Value} {ops : Array Oper} {rest : List Oper} {o : Oper} {a : Act} {Q : Exit → Act → World → Prop} (hgd : o.guard = none) (sA xA : Operand)
    (ho : o.op = .call { callee := .builtin .append, args := #[sA, xA], argTypes := #[57, 57] }) (hs : a.eval sA = v) (hrow : W.ownsRow w0.heap.size 61 2 v k xs) (hb : Below w0.heap.size w0 W) (hk : k ≤ 8796093021951) (h : Int) (u : Int) (hx : a.eval xA = .slice (some ⟨W.heap.size, 0, none⟩) 1 1)
    (K : ∀ v' w', w'.ownsRow w0.heap.size 61 2 v' (k + 1) (xs ++ [.int .u32 h, .int .i64 u]) → Below w0.heap.size w0 w' → wpList Try.prog ops Q rest (a.put o.dst v') w') : wpList Try.prog ops Q (o :: rest) a (W.alloc (.cells #[.int .u32 h, .int .i64 u] 61)) := by
  obtain ⟨i0, hi, hz0, hz1, hz2⟩ := info_parts info61
  have hB := hb.size
  refine wpList_append_own _ hgd sA xA 57 ho w0.heap.size 61 i0 _ 2 16 Try.underlying57 hi hz0 hz1 hz2 rfl (by decide) v k xs hs (hrow.alloc _) ⟨W.heap.size, 0, none⟩ 1 1 [.int .u32 h, .int .i64 u] hx rfl ?_ ?_ (by unfold maxLen; omega) (by omega) (by simp; omega) fun v' w' h1 h2 _ => K v' w' h1 ?_
  · intro j x hj
    have hw := Whole.fresh W 61 #[.int .u32 h, .int .i64 u]
    match j, hj with
    | 0, hj => simp at hj; subst hj; simp [Addr.add]
    | 1, hj => simp at hj; subst hj; simp [Addr.add, hw.cell 1]
    | j + 2, hj => simp at hj
  · intro x hx
    simp at hx
    rcases hx with rfl | rfl <;> rfl
  · exact (hb.alloc hB _).grown h2 (by simp; omega) (fun g hg => (hrow.lt g hg).1)

theorem cntE_none {s : ByteArray} (h : s.size = 0) : cntE s = 4 := by unfold cntE; rw [if_pos h]
theorem cntE_small {s : ByteArray} (h : 0 < s.size) (hb : s[0].toNat < 253) : b0 s = s[0].toNat ∧ cntE s = if 64 < s[0].toNat then 5 else 0 := by
  have hb0 : b0 s = s[0].toNat := by unfold b0; rw [dif_pos h]
  refine ⟨hb0, ?_⟩
  unfold cntE
  rw [if_neg (by omega), hb0, if_pos hb]
theorem cntE_big {s : ByteArray} (h : 0 < s.size) (hb : ¬ s[0].toNat < 253) : ∃ L, ((s[0].toNat = 253 ∧ L = 3) ∨ (s[0].toNat = 254 ∧ L = 5) ∨ (s[0].toNat = 255 ∧ L = 9)) ∧ cntE s = if s.size < L then 4 else if longOf (numB (s.extract 1 L)) = L then 5 else 6 := by
  have hb0 : b0 s = s[0].toNat := by unfold b0; rw [dif_pos h]
  have hlt := s[0].toNat_lt
  refine ⟨longB s[0].toNat, ?_, ?_⟩
  · have h3 : s[0].toNat = 253 ∨ s[0].toNat = 254 ∨ s[0].toNat = 255 := by omega
    rcases h3 with h3 | h3 | h3 <;> rw [h3] <;> simp [longB]
  · unfold cntE
    rw [if_neg (by omega), hb0, if_neg hb]
theorem decE_bad {s : ByteArray} {e : Int} (h : cntE s = e) (h0 : e ≠ 0) : decE s = e := by
  unfold decE
  rw [h, if_neg h0]
theorem decE_good {s : ByteArray} (h : cntE s = 0) : decE s = runE s (b0 s) 0 := by
  unfold decE
  rw [if_pos h]
theorem long3 {n : Nat} (h : n < 65536) : longOf n = 3 ↔ ¬ n < 253 := by unfold longOf; split <;> simp_all
theorem long5 {n : Nat} (h : n < 4294967296) : longOf n = 5 ↔ ¬ n < 65536 := by
  unfold longOf
  split
  · simp; omega
  · split <;> simp_all
theorem long9 {n : Nat} : longOf n = 9 ↔ ¬ n < 4294967296 := by
  unfold longOf
  split
  · simp; omega
  · split
    · simp; omega
    · split <;> simp_all

set_option maxHeartbeats 8000000 in
set_option maxRecDepth 100000 in
theorem rdecode_bad (s : ByteArray) (w : World) (hs : s.size ≤ 140737488351232) (hbad : cntE s ≠ 0) : Calls Try.prog 34 #[.string s] w (Decoded 61 s w) := by
  by_cases h0 : s.size = 0
  · have e : s = .empty := by
      apply ByteArray.ext
      exact Array.eq_empty_of_size_eq_zero h0
    subst e
    have HE := Lib.hid (decE_bad (cntE_none h0) (by decide))
    clear hbad h0
    go_enter Try.func34, Try.ntmps34
    go_wp2_with fail
    go_ret2
    exact ⟨.inr ⟨by rw [HE.out]; decide, by rw [HE.out]; rfl⟩, Below.refl _ _⟩
  have h : 0 < s.size := by omega
  have hne := notEmpty h
  by_cases hb : s[0].toNat < 253
  · obtain ⟨hb0, hc⟩ := cntE_small h hb
    have h64 : 64 < s[0].toNat := by
      rcases Nat.lt_or_ge 64 s[0].toNat with h | h
      · exact h
      · rw [if_neg (by omega)] at hc; exact absurd hc hbad
    rw [if_pos h64] at hc
    have HE := Lib.hid (decE_bad hc (by decide))
    have e1 : ((253 : Int) ≤ (s[0].toNat : Int)) = False := eq_false (by omega)
    have e2 : ((64 : Int) < (s[0].toNat : Int)) = True := eq_true (by omega)
    have e3 : IntKind.i64.wrap (s[0].toNat : Int) = (s[0].toNat : Int) := IntWalk.i64_in _ (by omega)
    clear hb hc h64 hbad h0 hb0
    go_enter Try.func34, Try.ntmps34
    go_wp2_with fail
    go_ret2
    exact ⟨.inr ⟨by rw [HE.out]; decide, by rw [HE.out]; rfl⟩, Below.refl _ _⟩
  · obtain ⟨L, hL, hc⟩ := cntE_big h hb
    clear hb hbad h0
    rcases hL with ⟨hb, rfl⟩ | ⟨hb, rfl⟩ | ⟨hb, rfl⟩
    · by_cases hcut : s.size < 3
      · rw [if_pos hcut] at hc
        have HE := Lib.hid (decE_bad hc (by decide))
        have e4 : ((s.size : Int) < 3) = True := eq_true (by omega)
        clear hc hcut
        go_enter Try.func34, Try.ntmps34
        go_wp2_with fail
        go_ret2
        exact ⟨.inr ⟨by rw [HE.out]; decide, by rw [HE.out]; rfl⟩, Below.refl _ _⟩
      rw [if_neg hcut] at hc
      have hiff := long3 (n := numB (s.extract 1 3)) (by have := numB_lt (k := 2) (t := s.extract 1 3) (by rw [ByteArray.size_extract]; omega); omega)
      have HT := Lib.hid fun W => rtake_any (s.extract 1 3) W (by rw [ByteArray.size_extract]; omega)
      have e4 : ((s.size : Int) < 3) = False := eq_false (by omega)
      have e5 : ((3 : Int) ≤ (s.size : Int)) = True := eq_true (by omega)
      generalize numB (s.extract 1 3) = n at *
      replace hc : cntE s = if longOf n = 3 then 5 else 6 := hc
      by_cases hn : n < 253
      · rw [if_neg (fun h => (hiff.1 h) hn)] at hc
        have HE := Lib.hid (decE_bad hc (by decide))
        have e6 : ((n : Int) < 253) = True := eq_true (by omega)
        clear hc hcut hiff hn
        go_enter Try.func34, Try.ntmps34
        go_wp2_with (first | (go_at_call 93; refine (HT.out _).mono ?_; rintro e w2 ⟨rfl, rfl⟩) | fail)
        go_ret2
        exact ⟨.inr ⟨by rw [HE.out]; decide, by rw [HE.out]; rfl⟩, Below.refl _ _⟩
      · rw [if_pos (hiff.2 hn)] at hc
        have HE := Lib.hid (decE_bad hc (by decide))
        have e6 : ((n : Int) < 253) = False := eq_false (by omega)
        clear hc hcut hiff hn
        go_enter Try.func34, Try.ntmps34
        go_wp2_with (first | (go_at_call 93; refine (HT.out _).mono ?_; rintro e w2 ⟨rfl, rfl⟩) | fail)
        go_ret2
        exact ⟨.inr ⟨by rw [HE.out]; decide, by rw [HE.out]; rfl⟩, Below.refl _ _⟩
    · by_cases hcut : s.size < 5
      · rw [if_pos hcut] at hc
        have HE := Lib.hid (decE_bad hc (by decide))
        have e4 : ((s.size : Int) < 5) = True := eq_true (by omega)
        clear hc hcut
        go_enter Try.func34, Try.ntmps34
        go_wp2_with fail
        go_ret2
        exact ⟨.inr ⟨by rw [HE.out]; decide, by rw [HE.out]; rfl⟩, Below.refl _ _⟩
      rw [if_neg hcut] at hc
      have hiff := long5 (n := numB (s.extract 1 5)) (by have := numB_lt (k := 4) (t := s.extract 1 5) (by rw [ByteArray.size_extract]; omega); omega)
      have HT := Lib.hid fun W => rtake_any (s.extract 1 5) W (by rw [ByteArray.size_extract]; omega)
      have e4 : ((s.size : Int) < 5) = False := eq_false (by omega)
      have e5 : ((5 : Int) ≤ (s.size : Int)) = True := eq_true (by omega)
      generalize numB (s.extract 1 5) = n at *
      replace hc : cntE s = if longOf n = 5 then 5 else 6 := hc
      by_cases hn : n < 65536
      · rw [if_neg (fun h => (hiff.1 h) hn)] at hc
        have HE := Lib.hid (decE_bad hc (by decide))
        have e6 : ((n : Int) < 65536) = True := eq_true (by omega)
        clear hc hcut hiff hn
        go_enter Try.func34, Try.ntmps34
        go_wp2_with (first | (go_at_call 93; refine (HT.out _).mono ?_; rintro e w2 ⟨rfl, rfl⟩) | fail)
        go_ret2
        exact ⟨.inr ⟨by rw [HE.out]; decide, by rw [HE.out]; rfl⟩, Below.refl _ _⟩
      · rw [if_pos (hiff.2 hn)] at hc
        have HE := Lib.hid (decE_bad hc (by decide))
        have e6 : ((n : Int) < 65536) = False := eq_false (by omega)
        clear hc hcut hiff hn
        go_enter Try.func34, Try.ntmps34
        go_wp2_with (first | (go_at_call 93; refine (HT.out _).mono ?_; rintro e w2 ⟨rfl, rfl⟩) | fail)
        go_ret2
        exact ⟨.inr ⟨by rw [HE.out]; decide, by rw [HE.out]; rfl⟩, Below.refl _ _⟩
    · by_cases hcut : s.size < 9
      · rw [if_pos hcut] at hc
        have HE := Lib.hid (decE_bad hc (by decide))
        have e4 : ((s.size : Int) < 9) = True := eq_true (by omega)
        clear hc hcut
        go_enter Try.func34, Try.ntmps34
        go_wp2_with fail
        go_ret2
        exact ⟨.inr ⟨by rw [HE.out]; decide, by rw [HE.out]; rfl⟩, Below.refl _ _⟩
      rw [if_neg hcut] at hc
      have hiff := long9 (n := numB (s.extract 1 9)) 
      have HT := Lib.hid fun W => rtake_any (s.extract 1 9) W (by rw [ByteArray.size_extract]; omega)
      have e4 : ((s.size : Int) < 9) = False := eq_false (by omega)
      have e5 : ((9 : Int) ≤ (s.size : Int)) = True := eq_true (by omega)
      generalize numB (s.extract 1 9) = n at *
      replace hc : cntE s = if longOf n = 9 then 5 else 6 := hc
      by_cases hn : n < 4294967296
      · rw [if_neg (fun h => (hiff.1 h) hn)] at hc
        have HE := Lib.hid (decE_bad hc (by decide))
        have e6 : ((n : Int) < 4294967296) = True := eq_true (by omega)
        clear hc hcut hiff hn
        go_enter Try.func34, Try.ntmps34
        go_wp2_with (first | (go_at_call 93; refine (HT.out _).mono ?_; rintro e w2 ⟨rfl, rfl⟩) | fail)
        go_ret2
        exact ⟨.inr ⟨by rw [HE.out]; decide, by rw [HE.out]; rfl⟩, Below.refl _ _⟩
      · rw [if_pos (hiff.2 hn)] at hc
        have HE := Lib.hid (decE_bad hc (by decide))
        have e6 : ((n : Int) < 4294967296) = False := eq_false (by omega)
        clear hc hcut hiff hn
        go_enter Try.func34, Try.ntmps34
        go_wp2_with (first | (go_at_call 93; refine (HT.out _).mono ?_; rintro e w2 ⟨rfl, rfl⟩) | fail)
        go_ret2
        exact ⟨.inr ⟨by rw [HE.out]; decide, by rw [HE.out]; rfl⟩, Below.refl _ _⟩

end By
end Go.Proofs.Ytohphljhldcjbaa
