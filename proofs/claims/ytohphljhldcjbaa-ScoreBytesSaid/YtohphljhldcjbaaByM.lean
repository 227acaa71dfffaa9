/- The reference's Decode, where the count may be. -/
import Derived.Test.YtohphljhldcjbaaByK
import Derived.Deep.DeepCutAuto
namespace Go.Proofs.Ytohphljhldcjbaa
set_option linter.unusedVariables false
set_option linter.unusedSimpArgs false
open Go.RowKit Go.Maps
namespace By

theorem addr_add (g n : Nat) : (⟨g, 0, none⟩ : Addr).add n = ⟨g, n, none⟩ := by unfold Addr.add; split <;> simp_all

theorem pred_facts {k j : Nat} (hj : k = j + 1) (hk : k ≤ 64) : (k : Int) - 1 = (j : Int) ∧ wrap64 (j : Int) = (j : Int) ∧ ((j : Int) < (k : Int)) = True ∧ k - 1 = j :=
  ⟨by omega, IntWalk.wrap64_in _ (by omega), eq_true (by omega), by omega⟩

set_option maxHeartbeats 4000000 in
set_option maxRecDepth 100000 in
theorem rdecode_good (s : ByteArray) (w : World) (hs : s.size ≤ 140737488351232) (hgood : cntE s = 0) : Calls Try.prog 34 #[.string s] w (Decoded 61 s w) := by
  have h : 0 < s.size := by
    rcases Nat.eq_zero_or_pos s.size with h0 | h0
    · rw [cntE_none h0] at hgood; cases hgood
    · exact h0
  have hb : s[0].toNat < 253 := by
    by_cases hb : s[0].toNat < 253
    · exact hb
    · obtain ⟨L, hL, hc⟩ := cntE_big h hb
      rw [hgood] at hc
      split at hc
      · cases hc
      · split at hc <;> cases hc
  obtain ⟨hb0, hc⟩ := cntE_small h hb
  have hn64 : b0 s ≤ 64 := by
    rw [hb0]
    rcases Nat.lt_or_ge 64 s[0].toNat with h | h
    · rw [if_pos h, hgood] at hc; cases hc
    · exact h
  have hrun0 := decE_good hgood
  have hne := notEmpty h
  have HS := Lib.hid hs
  rw [← hb0] at hb
  have hb1 : s[0].toNat = b0 s := hb0.symm
  have e1 : ((253 : Int) ≤ (b0 s : Int)) = False := eq_false (by omega)
  have e2 : ((64 : Int) < (b0 s : Int)) = False := eq_false (by omega)
  have e3 : IntKind.i64.wrap (b0 s : Int) = (b0 s : Int) := IntWalk.i64_in _ (by omega)
  clear hb hc hb0 hgood
  go_enter Try.func34, Try.ntmps34
  go_wp2_with fail
  clear e1 e2 e3 hb1
  have hsz0 := h
  clear h hne
  go_loopw [7, 8, 9] (fun p v i wr => ∃ k : Nat, k ≤ b0 s ∧ 1 + 12 * k ≤ s.size ∧ p = .int .i64 ((1 + 12 * k : Nat) : Int) ∧ i = .int .i64 k ∧ decE s = runE s (b0 s - k) k ∧ wr.ownsRow w.heap.size 61 2 v k (dcs s k) ∧ Below w.heap.size w wr) (fun _ _ i _ => b0 s - (intOf i).toNat)
  case atStart =>
    refine ⟨0, Nat.zero_le _, hsz0, rfl, rfl, hrun0, ?_, (Below.refl _ w).alloc (Nat.le_refl _) _⟩
    exact World.ownsRow_made w #[] 0 (Nat.le_refl _) (by unfold maxLen; omega) rfl
  case round =>
    obtain ⟨k, hk, hsz, rfl, rfl, hrun, hrow, hbl⟩ := hrel
    by_cases hlt : k < b0 s
    · obtain ⟨A, cap, rfl, hA⟩ := row_shape hrow
      obtain ⟨p, hp⟩ : ∃ p, p = 1 + 12 * k := ⟨_, rfl⟩
      obtain ⟨q, hq⟩ : ∃ q, s.size = p + q := ⟨s.size - p, by omega⟩
      have HRUN := Lib.hid hrun
      have hk1 : k ≤ 8796093021951 := by omega
      have HK64 := Lib.hid (show k ≤ 64 by omega)
      rw [← hp]
      clear hrun
      have e10 : IntKind.i64.wrap ((s.size : Int) - (p : Int)) = (q : Int) := by rw [IntWalk.i64_in _ (by omega)]; omega
      have e0 : ((k : Int) < (b0 s : Int)) = True := eq_true (by omega)
      by_cases c0 : q < 4
      · have HE := Lib.hid (show decE s = 4 by rw [HRUN.out]; exact runE_err hlt (errI_cut (by omega)) (by decide))
        have e11 : ((q : Int) < 4) = True := eq_true (by omega)
        clear c0 hq hp
        go_wp2_with fail
        go_ret2
        exact ⟨.inr ⟨by rw [HE.out]; decide, by rw [HE.out]; rfl⟩, hbl⟩
      have c1 : ¬ s.size < 1 + 12 * k + 4 := by omega
      have e11 : ((q : Int) < 4) = False := eq_false (by omega)
      obtain ⟨x, hx⟩ : ∃ x, x = p + 4 := ⟨_, rfl⟩
      have e12 : IntKind.i64.wrap ((p : Int) + 4) = (x : Int) := by rw [IntWalk.i64_in _ (by omega)]; omega
      have e17 : ((p : Int) ≤ (x : Int)) = True := eq_true (by omega)
      have e18 : ((x : Int) ≤ (s.size : Int)) = True := eq_true (by omega)
      have Z4 := Lib.hid (show (s.extract p x).size ≤ 8 by rw [ByteArray.size_extract]; omega)
      have hH : numB (s.extract p x) = hostF s k := by unfold hostF; rw [← hp, hx]
      have e19 : IntKind.u32.wrap (hostF s k : Int) = (hostF s k : Int) := IntWalk.u32_in _ (by have := hostF_lt s k; omega)
      clear c0
      rcases Nat.eq_zero_or_pos k with hk0 | hk0
      · have e3 : (0 < k) = False := eq_false (by omega)
        have c2 : ¬ (0 < k ∧ hostF s k ≤ hostF s (k - 1)) := fun h => by have := h.1; omega
        clear hk0
        by_cases c3 : q < 12
        · have hE : decE s = 4 := by rw [HRUN.out]; exact runE_err hlt (errI_cut2 c1 c2 (by omega)) (by decide)
          have HE := Lib.hid hE
          have e13 : ((q : Int) < 12) = True := eq_true (by omega)
          clear hE c1 c2 c3 hq hp hx
          go_wp2_with (first | (go_at_call 93; refine (rtake_any _ _ (by first | exact Z4.out | exact Z8.out)).mono ?_; rintro e w' ⟨rfl, rfl⟩) | fail)
          go_ret2
          exact ⟨.inr ⟨by rw [HE.out]; decide, by rw [HE.out]; rfl⟩, hbl⟩
        have e13 : ((q : Int) < 12) = False := eq_false (by omega)
        obtain ⟨y, hy⟩ : ∃ y, y = p + 12 := ⟨_, rfl⟩
        have e14 : IntKind.i64.wrap ((p : Int) + 12) = (y : Int) := by rw [IntWalk.i64_in _ (by omega)]; omega
        have e15 : ((x : Int) ≤ (y : Int)) = True := eq_true (by omega)
        have e16 : ((y : Int) ≤ (s.size : Int)) = True := eq_true (by omega)
        have Z8 := Lib.hid (show (s.extract x y).size ≤ 8 by rw [ByteArray.size_extract]; omega)
        have hT : numB (s.extract x y) = tilF s k := by unfold tilF; rw [← hp, hx, hy, show p + 4 + 8 = p + 12 by omega]
        have hTl := tilF_lt s k
        by_cases c4 : tilF s k < 1 ∨ 1099511627776 < tilF s k
        · have hE : decE s = 6 := by rw [HRUN.out]; exact runE_err hlt (errI_til c1 c2 (by omega) c4) (by decide)
          have HE := Lib.hid hE
          by_cases c5 : tilF s k < 1
          · have e8 : ((tilF s k : Int) < 1) = True := eq_true (by omega)
            clear hE c1 c2 c3 c4 c5 hq hp hTl hx hy
            go_wp2_with (first | (go_at_call 93; refine (rtake_any _ _ (by first | exact Z4.out | exact Z8.out)).mono ?_; rintro e w' ⟨rfl, rfl⟩) | fail)
            go_ret2
            exact ⟨.inr ⟨by rw [HE.out]; decide, by rw [HE.out]; rfl⟩, hbl⟩
          · have e8 : ((tilF s k : Int) < 1) = False := eq_false (by omega)
            have e9 : ((1099511627776 : Int) < (tilF s k : Int)) = True := eq_true (by omega)
            clear hE c1 c2 c3 c4 c5 hq hp hTl hx hy
            go_wp2_with (first | (go_at_call 93; refine (rtake_any _ _ (by first | exact Z4.out | exact Z8.out)).mono ?_; rintro e w' ⟨rfl, rfl⟩) | fail)
            go_ret2
            exact ⟨.inr ⟨by rw [HE.out]; decide, by rw [HE.out]; rfl⟩, hbl⟩
        have hE : decE s = runE s (b0 s - (k + 1)) (k + 1) := by rw [HRUN.out]; exact runE_next hlt (errI_zero c1 c2 (by omega) c4)
        have HE := Lib.hid hE
        have HN := Lib.hid (show k + 1 ≤ b0 s ∧ 1 + 12 * (k + 1) ≤ s.size ∧ y = 1 + 12 * (k + 1) by omega)
        have e8 : ((tilF s k : Int) < 1) = False := eq_false (by omega)
        have e9 : ((1099511627776 : Int) < (tilF s k : Int)) = False := eq_false (by omega)
        have e20 : IntKind.i64.wrap (tilF s k : Int) = (tilF s k : Int) := IntWalk.i64_in _ (by omega)
        clear hE c1 c2 c3 c4 hq hp hTl hx hy
        go_wp2_with (first | (go_at_call 93; refine (rtake_any _ _ (by first | exact Z4.out | exact Z8.out)).mono ?_; rintro e w' ⟨rfl, rfl⟩) | (at_builtin; refine app_row rfl _ _ rfl rfl hrow hbl hk1 _ _ rfl ?_; intro v' w' hrow2 hb2))
        go_roundw
        case rel => exact ⟨k + 1, HN.out.1, HN.out.2.1, by rw [← HN.out.2.2], by go_num, HE.out, hrow2, hb2⟩
        case measure => simp [intOf]; omega
      · obtain ⟨g, rfl, hg⟩ := hA hk0
        obtain ⟨j, hj⟩ : ∃ j, k = j + 1 := ⟨k - 1, by omega⟩
        have p0 : wr.cell? ⟨g, j * 2, none⟩ = some (.int .u32 (hostF s j : Nat)) := by
          have h1 := hrow.cells hg (j * 2) _ (dcs_get s (i := j) (k := k) (hj ▸ Nat.lt_succ_self j)).1
          have h2 := addr_add g (j * 2)
          rwa [h2] at h1
        have PF := Lib.hid (pred_facts hj HK64.out)
        clear hA hg
        clear hj
        by_cases c2 : 0 < k ∧ hostF s k ≤ hostF s (k - 1)
        · have hE : decE s = 6 := by rw [HRUN.out]; exact runE_err hlt (errI_row c1 c2) (by decide)
          have HE := Lib.hid hE
          have e4 : ((hostF s k : Int) ≤ (hostF s j : Int)) = True := eq_true (Int.ofNat_le.2 (by have := c2.2; rwa [PF.out.2.2.2] at this))
          clear hE c1 c2 hq hp hx
          clear hs
          go_wp2_with fail
          refine (rtake_any _ _ Z4.out).mono ?_
          rintro e w' ⟨rfl, rfl⟩
          rw [hH]
          obtain ⟨e5, e6, e7, -⟩ := PF.out
          clear e10 e11 e12
          go_wp2_with fail
          go_ret2
          exact ⟨.inr ⟨by rw [HE.out]; decide, by rw [HE.out]; rfl⟩, hbl⟩
        have e4 : ((hostF s k : Int) ≤ (hostF s j : Int)) = False := eq_false (fun h => c2 ⟨hk0, by rw [PF.out.2.2.2]; exact Int.ofNat_le.1 h⟩)
        by_cases c3 : q < 12
        · have hE : decE s = 4 := by rw [HRUN.out]; exact runE_err hlt (errI_cut2 c1 c2 (by omega)) (by decide)
          have HE := Lib.hid hE
          have e13 : ((q : Int) < 12) = True := eq_true (by omega)
          have Ke13 := Lib.hid e13
          clear e13
          clear hE c1 c2 c3 hq hp hx
          clear hs
          go_wp2_with fail
          refine (rtake_any _ _ Z4.out).mono ?_
          rintro e w' ⟨rfl, rfl⟩
          rw [hH]
          have E10 := Lib.hid (And.intro e10 e12)
          obtain ⟨e5, e6, e7, -⟩ := PF.out
          clear e10 e12
          go_upto_region 27 with (fail)
          clear e5 e6 e7
          obtain ⟨e10, e12⟩ := E10.out
          try (have e14 := E14.out)
          try (have e8 := Ke8.out)
          try (have e13 := Ke13.out)
          try (have e15 := Ke15.out)
          try (have e16 := Ke16.out)
          try (have hT := KhT.out)
          try (have e9 := E9.out)
          go_wp2_with (first | (go_at_call 93; refine (rtake_any _ _ (by first | exact Z4.out | exact Z8.out)).mono ?_; rintro e w' ⟨rfl, rfl⟩) | fail)
          go_ret2
          exact ⟨.inr ⟨by rw [HE.out]; decide, by rw [HE.out]; rfl⟩, hbl⟩
        have e13 : ((q : Int) < 12) = False := eq_false (by omega)
        have Ke13 := Lib.hid e13
        clear e13
        obtain ⟨y, hy⟩ : ∃ y, y = p + 12 := ⟨_, rfl⟩
        have e14 : IntKind.i64.wrap ((p : Int) + 12) = (y : Int) := by rw [IntWalk.i64_in _ (by omega)]; omega
        have E14 := Lib.hid e14
        clear e14
        have e15 : ((x : Int) ≤ (y : Int)) = True := eq_true (by omega)
        have Ke15 := Lib.hid e15
        clear e15
        have e16 : ((y : Int) ≤ (s.size : Int)) = True := eq_true (by omega)
        have Ke16 := Lib.hid e16
        clear e16
        have Z8 := Lib.hid (show (s.extract x y).size ≤ 8 by rw [ByteArray.size_extract]; omega)
        have hT : numB (s.extract x y) = tilF s k := by unfold tilF; rw [← hp, hx, hy, show p + 4 + 8 = p + 12 by omega]
        have KhT := Lib.hid hT
        clear hT
        have hTl := tilF_lt s k
        by_cases c4 : tilF s k < 1 ∨ 1099511627776 < tilF s k
        · have hE : decE s = 6 := by rw [HRUN.out]; exact runE_err hlt (errI_til c1 c2 (by omega) c4) (by decide)
          have HE := Lib.hid hE
          by_cases c5 : tilF s k < 1
          · have e8 : ((tilF s k : Int) < 1) = True := eq_true (by omega)
            have Ke8 := Lib.hid e8
            clear e8
            clear hE c1 c2 c3 c4 c5 hq hp hTl hx hy
            clear hs
            go_wp2_with fail
            refine (rtake_any _ _ Z4.out).mono ?_
            rintro e w' ⟨rfl, rfl⟩
            rw [hH]
            have E10 := Lib.hid (And.intro e10 e12)
            obtain ⟨e5, e6, e7, -⟩ := PF.out
            clear e10 e12
            go_upto_region 27 with (fail)
            clear e5 e6 e7
            obtain ⟨e10, e12⟩ := E10.out
            try (have e14 := E14.out)
            try (have e8 := Ke8.out)
            try (have e13 := Ke13.out)
            try (have e15 := Ke15.out)
            try (have e16 := Ke16.out)
            try (have hT := KhT.out)
            try (have e9 := E9.out)
            go_wp2_with (first | (go_at_call 93; refine (rtake_any _ _ (by first | exact Z4.out | exact Z8.out)).mono ?_; rintro e w' ⟨rfl, rfl⟩) | fail)
            go_ret2
            exact ⟨.inr ⟨by rw [HE.out]; decide, by rw [HE.out]; rfl⟩, hbl⟩
          · have e8 : ((tilF s k : Int) < 1) = False := eq_false (by omega)
            have Ke8 := Lib.hid e8
            clear e8
            have e9 : ((1099511627776 : Int) < (tilF s k : Int)) = True := eq_true (by omega)
            have E9 := Lib.hid e9
            clear e9
            clear hE c1 c2 c3 c4 c5 hq hp hTl hx hy
            clear hs
            go_wp2_with fail
            refine (rtake_any _ _ Z4.out).mono ?_
            rintro e w' ⟨rfl, rfl⟩
            rw [hH]
            have E10 := Lib.hid (And.intro e10 e12)
            obtain ⟨e5, e6, e7, -⟩ := PF.out
            clear e10 e12
            go_upto_region 27 with (fail)
            clear e5 e6 e7
            obtain ⟨e10, e12⟩ := E10.out
            try (have e14 := E14.out)
            try (have e8 := Ke8.out)
            try (have e13 := Ke13.out)
            try (have e15 := Ke15.out)
            try (have e16 := Ke16.out)
            try (have hT := KhT.out)
            try (have e9 := E9.out)
            go_wp2_with (first | (go_at_call 93; refine (rtake_any _ _ (by first | exact Z4.out | exact Z8.out)).mono ?_; rintro e w' ⟨rfl, rfl⟩) | fail)
            go_ret2
            exact ⟨.inr ⟨by rw [HE.out]; decide, by rw [HE.out]; rfl⟩, hbl⟩
        have hE : decE s = runE s (b0 s - (k + 1)) (k + 1) := by rw [HRUN.out]; exact runE_next hlt (errI_zero c1 c2 (by omega) c4)
        have HE := Lib.hid hE
        have HN := Lib.hid (show k + 1 ≤ b0 s ∧ 1 + 12 * (k + 1) ≤ s.size ∧ y = 1 + 12 * (k + 1) by omega)
        have e8 : ((tilF s k : Int) < 1) = False := eq_false (by omega)
        have Ke8 := Lib.hid e8
        clear e8
        have e9 : ((1099511627776 : Int) < (tilF s k : Int)) = False := eq_false (by omega)
        have e20 : IntKind.i64.wrap (tilF s k : Int) = (tilF s k : Int) := IntWalk.i64_in _ (by omega)
        have E9 := Lib.hid e9
        clear e9
        clear hE c1 c2 c3 c4 hq hp hTl hx hy
        clear hs
        go_wp2_with fail
        refine (rtake_any _ _ Z4.out).mono ?_
        rintro e w' ⟨rfl, rfl⟩
        rw [hH]
        have E10 := Lib.hid (And.intro e10 e12)
        obtain ⟨e5, e6, e7, -⟩ := PF.out
        clear e10 e12
        go_upto_region 27 with (fail)
        clear e5 e6 e7
        obtain ⟨e10, e12⟩ := E10.out
        try (have e14 := E14.out)
        try (have e8 := Ke8.out)
        try (have e13 := Ke13.out)
        try (have e15 := Ke15.out)
        try (have e16 := Ke16.out)
        try (have hT := KhT.out)
        try (have e9 := E9.out)
        go_wp2_with (first | (go_at_call 93; refine (rtake_any _ _ (by first | exact Z4.out | exact Z8.out)).mono ?_; rintro e w' ⟨rfl, rfl⟩) | (at_builtin; refine app_row rfl _ _ rfl rfl hrow hbl hk1 _ _ rfl ?_; intro v' w' hrow2 hb2))
        go_roundw
        case rel => exact ⟨k + 1, HN.out.1, HN.out.2.1, by rw [← HN.out.2.2], by go_num, HE.out, hrow2, hb2⟩
        case measure => simp [intOf]; omega
    · obtain rfl : k = b0 s := by omega
      have e0 : ((b0 s : Int) < (b0 s : Int)) = False := eq_false (by omega)
      rw [Nat.sub_self] at hrun
      by_cases c1 : 1 + 12 * b0 s < s.size
      · have HE := Lib.hid (show decE s = 5 by rw [hrun]; show (if 1 + 12 * b0 s < s.size then (5 : Int) else 0) = 5; rw [if_pos c1])
        have e1 : ((1 + 12 * b0 s : Nat) : Int) < (s.size : Int) := by omega
        generalize 1 + 12 * b0 s = p at *
        go_wp2_with fail
        go_ret2
        exact ⟨.inr ⟨by rw [HE.out]; decide, by rw [HE.out]; rfl⟩, hbl⟩
      · have HE := Lib.hid (show decE s = 0 by rw [hrun]; show (if 1 + 12 * b0 s < s.size then (5 : Int) else 0) = 0; rw [if_neg c1])
        have e1 : ¬ ((1 + 12 * b0 s : Nat) : Int) < (s.size : Int) := by omega
        generalize 1 + 12 * b0 s = p at *
        go_wp2_with fail
        go_ret2
        exact ⟨.inl ⟨_, HE.out, rfl, hrow⟩, hbl⟩
end By
end Go.Proofs.Ytohphljhldcjbaa
