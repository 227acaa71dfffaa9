/- score.Decode. -/
import Derived.Test.YtohphljhldcjbaaByI
namespace Go.Proofs.Ytohphljhldcjbaa
set_option linter.unusedVariables false
set_option linter.unusedSimpArgs false
open Go.RowKit Go.Maps
namespace By

theorem info60 : (Try.prog.info? 60).map (fun i => (i.zero, i.size, i.bytes)) = some (some (.agg #[.int .u32 0, .int .i64 0]), 2, 16) := by kernel_rfl

section
variable {w : World} {r : Nat} {s : ByteArray} {at_ e0 : Int}
theorem u32_err (h : Rd w r s at_ e0) (he : e0 ≠ 0) : Calls Try.prog 89 #[ptr r] w fun e w' => e = .returned (.int .u32 0) ∧ w = w' := u32_of (bytes_err h he 4) (by decide)
theorem u64_err (h : Rd w r s at_ e0) (he : e0 ≠ 0) : Calls Try.prog 91 #[ptr r] w fun e w' => e = .returned (.int .u64 0) ∧ w = w' := u64_of (bytes_err h he 8) (by decide)
theorem u32_cut {n : Nat} (h : Rd w r s (n : Nat) 0) (hs : s.size ≤ 140737488351232) (hn : n ≤ s.size) (hk : s.size < n + 4) : Calls Try.prog 89 #[ptr r] w fun e w' => e = .returned (.int .u32 0) ∧ Rd w' r s (n : Nat) 4 ∧ w.grownBy w' (some r) := u32_of (bytes_cut (k := 4) h hs hn (by omega)) (by decide)
theorem u64_cut {n : Nat} (h : Rd w r s (n : Nat) 0) (hs : s.size ≤ 140737488351232) (hn : n ≤ s.size) (hk : s.size < n + 8) : Calls Try.prog 91 #[ptr r] w fun e w' => e = .returned (.int .u64 0) ∧ Rd w' r s (n : Nat) 4 ∧ w.grownBy w' (some r) := u64_of (bytes_cut (k := 8) h hs hn (by omega)) (by decide)
theorem u32_ok {n : Nat} (h : Rd w r s (n : Nat) 0) (hs : s.size ≤ 140737488351232) (hn : n + 4 ≤ s.size) : Calls Try.prog 89 #[ptr r] w fun e w' => e = .returned (.int .u32 (numB (s.extract n (n + 4)) : Nat)) ∧ Rd w' r s ((n + 4 : Nat) : Int) 0 ∧ w.grownBy w' (some r) := u32_of (bytes_ok (k := 4) h hs hn) (part_size _ _ _)
theorem u64_ok {n : Nat} (h : Rd w r s (n : Nat) 0) (hs : s.size ≤ 140737488351232) (hn : n + 8 ≤ s.size) : Calls Try.prog 91 #[ptr r] w fun e w' => e = .returned (.int .u64 (numB (s.extract n (n + 8)) : Nat)) ∧ Rd w' r s ((n + 8 : Nat) : Int) 0 ∧ w.grownBy w' (some r) := u64_of (bytes_ok (k := 8) h hs hn) (part_size _ _ _)
end

theorem wrap_u64' {t : Nat} (h : t < 18446744073709551616) : IntKind.u64.wrap (t : Int) = (t : Int) := IntWalk.u64_in _ (by omega)
theorem wrap_small' {j : Nat} (h : j ≤ 2000000) : wrap64 (j : Int) = (j : Int) := IntWalk.wrap64_in _ (by omega)
/-- A ban is put behind. -/
theorem app_st {w0 W : World} {R k : Nat} {s : ByteArray} {at_ e0 : Int} {v : Value} {xs : List Value} {ops : Array Oper} {rest : List Oper} {o : Oper} {a : Act} {Q : Exit → Act → World → Prop} (hgd : o.guard = none) (sA xA : Operand)
    (ho : o.op = .call { callee := .builtin .append, args := #[sA, xA], argTypes := #[56, 56] }) (hs : a.eval sA = v) (st : DecSt w0 W R s at_ e0 v k xs) (hk : k ≤ 1000000) (h : Int) (u : Int) (hx : a.eval xA = .slice (some ⟨W.heap.size, 0, none⟩) 1 1)
    (K : ∀ v' w', DecSt w0 w' R s at_ e0 v' (k + 1) (xs ++ [.int .u32 h, .int .i64 u]) → wpList Try.prog ops Q rest (a.put o.dst v') w') : wpList Try.prog ops Q (o :: rest) a (W.alloc (.cells #[.int .u32 h, .int .i64 u] 60)) := by
  obtain ⟨i0, hi, hz0, hz1, hz2⟩ := info_parts info60
  have hB := st.below.size
  refine wpList_append_own _ hgd sA xA 56 ho w0.heap.size 60 i0 _ 2 16 Try.underlying56 hi hz0 hz1 hz2 rfl (by decide) v k xs hs (st.row.alloc _) ⟨W.heap.size, 0, none⟩ 1 1 [.int .u32 h, .int .i64 u] hx rfl ?_ ?_ (by unfold maxLen; omega) (by omega) (by simp; omega) fun v' w' h1 h2 _ => K v' w' ?_
  · intro j x hj
    have hw := Whole.fresh W 60 #[.int .u32 h, .int .i64 u]
    match j, hj with
    | 0, hj => simp at hj; subst hj; simp [Addr.add]
    | 1, hj => simp at hj; subst hj; simp [Addr.add, hw.cell 1]
    | j + 2, hj => simp at hj
  · intro x hx
    simp at hx
    rcases hx with rfl | rfl <;> rfl
  · have hr := st.rd.alloc (.cells #[.int .u32 h, .int .i64 u] 60)
    have hne : some R ≠ v.ownBlock := fun e => row_ne st.row st.rd (by decide) e.symm
    exact ⟨hr.grown h2 hne, h1, (st.below.alloc hB _).grown h2 (by simp; omega) (fun g hg => (st.row.lt g hg).1), st.hR⟩

theorem b0_lt (s : ByteArray) : b0 s < 256 := by
  unfold b0
  split
  · exact UInt8.toNat_lt _
  · decide

set_option maxHeartbeats 8000000 in
set_option maxRecDepth 100000 in
theorem decode_any (s : ByteArray) (w : World) (hs : s.size ≤ 140737488351232) : Calls Try.prog 33 #[.string s] w (Decoded 60 s w) := by
  obtain ⟨i0, hi, hz0, hz1, hz2⟩ := info_parts info60
  have HS := Lib.hid hs
  go_enter Try.func33, Try.ntmps33
  go_wp2_with fail
  refine (newR s w).mono ?_
  rintro e w1 ⟨rfl, hr1, g1⟩
  have b1 : Below w.heap.size w w1 := Below.of_grown g1 (Nat.le_refl _) (by simp)
  go_wp2_with fail
  refine (countR_any hr1 hs).mono ?_
  rintro e w2 hc
  have hb2 : Below w.heap.size w w2 := b1.trans (Below.of_grown hc.2 b1.size (by simp))
  have hst : (cntE s = 0 ∧ e = .returned (.int .u64 (b0 s : Nat)) ∧ DecSt w w2 w.heap.size s ((1 + 12 * 0 : Nat) : Int) 0 (.slice none 0 0) 0 []) ∨ (cntE s ≠ 0 ∧ e = .returned (.int .u64 ((0 : Nat) : Int)) ∧ DecSt w w2 w.heap.size s 0 (cntE s) (.slice none 0 0) 0 []) := by
    rcases hc.1 with ⟨h1, h2, h3⟩ | ⟨h1, h2, h3⟩
    · exact .inl ⟨h1, h2, ⟨h3, World.ownsRow_nil _ _ _ _, hb2, Nat.le_refl _⟩⟩
    · exact .inr ⟨h1, h2, ⟨h3, World.ownsRow_nil _ _ _ _, hb2, Nat.le_refl _⟩⟩
  obtain ⟨N, rfl, hN⟩ : ∃ N : Nat, e = .returned (.int .u64 (N : Nat)) ∧ ((cntE s = 0 ∧ N = b0 s ∧ DecSt w w2 w.heap.size s ((1 + 12 * 0 : Nat) : Int) 0 (.slice none 0 0) 0 []) ∨ (cntE s ≠ 0 ∧ DecSt w w2 w.heap.size s 0 (cntE s) (.slice none 0 0) 0 [])) := by
    rcases hst with ⟨h1, h2, h3⟩ | ⟨h1, h2, h3⟩
    · exact ⟨_, h2, .inl ⟨h1, rfl, h3⟩⟩
    · exact ⟨_, h2, .inr ⟨h1, h3⟩⟩
  clear hst hc hb2 b1 g1 hr1
  go_wp2_with fail
  go_loopw [5, 6] (fun v n wr => ∃ k xs, (k ≤ b0 s ∧ 1 + 12 * k ≤ s.size ∧ n = .int .u64 ((b0 s - k : Nat) : Int) ∧ xs = dcs s k ∧ decE s = runE s (b0 s - k) k ∧ DecSt w wr w.heap.size s ((1 + 12 * k : Nat) : Int) 0 v k xs) ∨ (∃ (n' : Nat) (a e : Int), n = .int .u64 (n' : Nat) ∧ e ≠ 0 ∧ decE s = e ∧ DecSt w wr w.heap.size s a e v k xs)) (fun _ n _ => (intOf n).toNat)
  case atStart =>
    rcases hN with ⟨h1, rfl, h2⟩ | ⟨h1, h2⟩
    · refine ⟨0, [], .inl ⟨Nat.zero_le _, ?_, rfl, rfl, ?_, h2⟩⟩
      · unfold cntE at h1
        split at h1
        · cases h1
        · omega
      · unfold decE
        rw [if_pos h1]
        rfl
    · refine ⟨0, [], .inr ⟨N, 0, cntE s, rfl, h1, ?_, h2⟩⟩
      unfold decE
      rw [if_neg h1]
  case round =>
    obtain ⟨k, xs, ⟨hk, hsz, rfl, rfl, hrun, st⟩ | ⟨n', a, e, rfl, he, hdec, st⟩⟩ := hrel
    · by_cases hlt : k < b0 s
      · obtain ⟨A, cap, rfl, hA⟩ := row_shape st.row
        obtain ⟨m, hm⟩ : ∃ m, b0 s - k = m + 1 := ⟨b0 s - k - 1, by omega⟩
        have HM := Lib.hid hm
        have HRUN := Lib.hid hrun
        rw [hm]
        clear hm hrun
        have em : IntKind.u64.wrap (m : Int) = (m : Int) := wrap_u64' (by have := HM.out; have : b0 s < 256 := b0_lt s; omega)
        go_wp2_with (first | (go_at_call 88; refine (err_any st.rd).mono ?_; rintro e w' ⟨rfl, rfl⟩) | fail)
        by_cases c1 : s.size < 1 + 12 * k + 4
        · have hE : decE s = 4 := by rw [HRUN.out]; exact runE_err hlt (errI_cut c1) (by decide)
          refine (u32_cut st.rd hs hsz c1).mono ?_
          rintro e W1 ⟨rfl, r1, g1⟩
          have st1 := st.turn r1 g1
          clear r1 g1 c1
          have HE := Lib.hid hE
          clear hE
          have hk1 : k ≤ 1000000 := by have := b0_lt s; omega
          rcases Nat.eq_zero_or_pos k with hk0 | hk0
          · have e3 : (0 < k) = False := eq_false (by omega)
            clear hk0
            go_wp2_with (first | (go_at_call 88; refine (err_any st1.rd).mono ?_; rintro e w' ⟨rfl, rfl⟩) | (go_at_call 91; refine (u64_err st1.rd (by decide)).mono ?_; rintro e w' ⟨rfl, rfl⟩) | (at_builtin; refine app_st rfl _ _ rfl rfl st1 hk1 0 0 rfl ?_; intro v' w' st2))
            go_roundw
            case rel => exact ⟨k + 1, _, .inr ⟨m, _, 4, by simp, by decide, HE.out, st2⟩⟩
            case measure => simp [intOf]
          · go_wp2_with (first | (go_at_call 88; refine (err_any st1.rd).mono ?_; rintro e w' ⟨rfl, rfl⟩) | (go_at_call 91; refine (u64_err st1.rd (by decide)).mono ?_; rintro e w' ⟨rfl, rfl⟩) | (at_builtin; refine app_st rfl _ _ rfl rfl st1 hk1 0 0 rfl ?_; intro v' w' st2))
            go_roundw
            case rel => exact ⟨k + 1, _, .inr ⟨m, _, 4, by simp, by decide, HE.out, st2⟩⟩
            case measure => simp [intOf]
        have hk1 : k ≤ 1000000 := by have := b0_lt s; omega
        refine (u32_ok st.rd hs (by omega)).mono ?_
        rintro e W1 ⟨rfl, r1, g1⟩
        replace st := st.turn r1 g1
        clear r1 g1
        have hH : numB (s.extract (1 + 12 * k) (1 + 12 * k + 4)) = hostF s k := rfl
        rw [hH]
        clear hH
        rcases Nat.eq_zero_or_pos k with hk0 | hk0
        · have e3 : (0 < k) = False := eq_false (by omega)
          have c2 : ¬ (0 < k ∧ hostF s k ≤ hostF s (k - 1)) := fun h => by have := h.1; omega
          clear hk0
          by_cases c3 : s.size < 1 + 12 * k + 12
          · have hE : decE s = 4 := by rw [HRUN.out]; exact runE_err hlt (errI_cut2 c1 c2 c3) (by decide)
            have HE := Lib.hid hE
            have HC := Lib.hid (show 1 + 12 * k + 4 ≤ s.size ∧ s.size < 1 + 12 * k + 4 + 8 by omega)
            clear hE c1 c2 c3
            go_wp2_with (first | (go_at_call 88; refine (err_any st.rd).mono ?_; rintro e w' ⟨rfl, rfl⟩) | fail)
            refine (u64_cut st.rd hs HC.out.1 HC.out.2).mono ?_
            rintro e W2 ⟨rfl, r1, g1⟩
            replace st := st.turn r1 g1
            clear r1 g1
            go_wp2_with (first | (go_at_call 88; refine (err_any st.rd).mono ?_; rintro e w' ⟨rfl, rfl⟩) | (at_builtin; refine app_st rfl _ _ rfl rfl st hk1 _ _ rfl ?_; intro v' w' st2))
            go_roundw
            case rel => exact ⟨k + 1, _, .inr ⟨m, _, 4, by simp, by decide, HE.out, st2⟩⟩
            case measure => simp [intOf]
          have HC := Lib.hid (show 1 + 12 * k + 4 + 8 ≤ s.size by omega)
          go_wp2_with (first | (go_at_call 88; refine (err_any st.rd).mono ?_; rintro e w' ⟨rfl, rfl⟩) | fail)
          refine (u64_ok st.rd hs HC.out).mono ?_
          rintro e W2 ⟨rfl, r1, g1⟩
          replace st := st.turn r1 g1
          clear r1 g1
          have hT : numB (s.extract (1 + 12 * k + 4) (1 + 12 * k + 4 + 8)) = tilF s k := rfl
          rw [hT]
          clear hT
          by_cases c4 : tilF s k < 1 ∨ 1099511627776 < tilF s k
          · have hE : decE s = 6 := by rw [HRUN.out]; exact runE_err hlt (errI_til c1 c2 c3 c4) (by decide)
            have HE := Lib.hid hE
            by_cases c5 : tilF s k < 1
            · have e8 : ((tilF s k : Int) < 1) = True := eq_true (by omega)
              clear hE c1 c2 c3 c4 c5
              go_wp2_with (first | (go_at_call 88; refine (err_any st.rd).mono ?_; rintro e w' ⟨rfl, rfl⟩) | (go_at_call 90; refine (fail_any st.rd 6).mono ?_; rintro e w' ⟨rfl, r1, g1⟩; replace st := st.turn r1 g1; clear r1 g1) | (at_builtin; refine app_st rfl _ _ rfl rfl st hk1 _ _ rfl ?_; intro v' w' st2))
              go_roundw
              case rel => exact ⟨k + 1, _, .inr ⟨m, _, 6, by simp, by decide, HE.out, st2⟩⟩
              case measure => simp [intOf]
            · have e8 : ((tilF s k : Int) < 1) = False := eq_false (by omega)
              have e9 : ((1099511627776 : Int) < (tilF s k : Int)) = True := eq_true (by omega)
              clear hE c1 c2 c3 c4 c5
              go_wp2_with (first | (go_at_call 88; refine (err_any st.rd).mono ?_; rintro e w' ⟨rfl, rfl⟩) | (go_at_call 90; refine (fail_any st.rd 6).mono ?_; rintro e w' ⟨rfl, r1, g1⟩; replace st := st.turn r1 g1; clear r1 g1) | (at_builtin; refine app_st rfl _ _ rfl rfl st hk1 _ _ rfl ?_; intro v' w' st2))
              go_roundw
              case rel => exact ⟨k + 1, _, .inr ⟨m, _, 6, by simp, by decide, HE.out, st2⟩⟩
              case measure => simp [intOf]
          have hE : decE s = runE s (b0 s - (k + 1)) (k + 1) := by rw [HRUN.out]; exact runE_next hlt (errI_zero c1 c2 c3 c4)
          have HE := Lib.hid hE
          have HN := Lib.hid (show k + 1 ≤ b0 s ∧ 1 + 12 * (k + 1) ≤ s.size ∧ b0 s - (k + 1) = m by have := HM.out; omega)
          have e8 : ((tilF s k : Int) < 1) = False := eq_false (by omega)
          have e9 : ((1099511627776 : Int) < (tilF s k : Int)) = False := eq_false (by omega)
          have e10 : IntKind.i64.wrap (tilF s k : Int) = (tilF s k : Int) := IntWalk.i64_in _ (by omega)
          clear hE c1 c2 c3 c4
          go_wp2_with (first | (go_at_call 88; refine (err_any st.rd).mono ?_; rintro e w' ⟨rfl, rfl⟩) | (at_builtin; refine app_st rfl _ _ rfl rfl st hk1 _ _ rfl ?_; intro v' w' st2))
          go_roundw
          case rel =>
            refine ⟨k + 1, _, .inl ⟨HN.out.1, HN.out.2.1, by rw [HN.out.2.2], rfl, HE.out, ?_⟩⟩
            have e : 1 + 12 * k + 4 + 8 = 1 + 12 * (k + 1) := by omega
            rw [e] at st2
            exact st2
          case measure => simp [intOf]
        · obtain ⟨g, rfl, hg⟩ := hA hk0
          obtain ⟨j, hj⟩ : ∃ j, k = j + 1 := ⟨k - 1, by omega⟩
          have p0 : W1.cell? ⟨g, j * 2, none⟩ = some (.int .u32 (hostF s j : Nat)) := by
            have h1 := st.row.cells hg (j * 2) _ (dcs_get s (i := j) (k := k) (by omega)).1
            have h2 : (⟨g, 0, none⟩ : Addr).add (j * 2) = ⟨g, j * 2, none⟩ := by unfold Addr.add; split <;> simp_all
            rwa [h2] at h1
          have e5 : (k : Int) - 1 = (j : Int) := by omega
          have e6 : wrap64 (j : Int) = (j : Int) := wrap_small' (by omega)
          have e7 : ((j : Int) < (k : Int)) = True := eq_true (Int.ofNat_lt.2 (hj ▸ Nat.lt_succ_self j))
          have hkj : k - 1 = j := by omega
          clear hj
          by_cases c2 : 0 < k ∧ hostF s k ≤ hostF s (k - 1)
          · have hE : decE s = 6 := by rw [HRUN.out]; exact runE_err hlt (errI_row c1 c2) (by decide)
            have HE := Lib.hid hE
            have e4 : ((hostF s k : Int) ≤ (hostF s j : Int)) = True := eq_true (Int.ofNat_le.2 (by have := c2.2; rwa [hkj] at this))
            clear hE c1 c2 hkj
            go_wp2_with (first | (go_at_call 88; refine (err_any st.rd).mono ?_; rintro e w' ⟨rfl, rfl⟩) | (go_at_call 90; refine (fail_any st.rd 6).mono ?_; rintro e w' ⟨rfl, r1, g1⟩; replace st := st.turn r1 g1; clear r1 g1) | (go_at_call 91; refine (u64_err st.rd (by decide)).mono ?_; rintro e w' ⟨rfl, rfl⟩) | (at_builtin; refine app_st rfl _ _ rfl rfl st hk1 _ _ rfl ?_; intro v' w' st2))
            go_roundw
            case rel => exact ⟨k + 1, _, .inr ⟨m, _, 6, by simp, by decide, HE.out, st2⟩⟩
            case measure => simp [intOf]
          have e4 : ((hostF s k : Int) ≤ (hostF s j : Int)) = False := eq_false (fun h => c2 ⟨hk0, by rw [hkj]; exact Int.ofNat_le.1 h⟩)
          by_cases c3 : s.size < 1 + 12 * k + 12
          · have hE : decE s = 4 := by rw [HRUN.out]; exact runE_err hlt (errI_cut2 c1 c2 c3) (by decide)
            have HE := Lib.hid hE
            have HC := Lib.hid (show 1 + 12 * k + 4 ≤ s.size ∧ s.size < 1 + 12 * k + 4 + 8 by omega)
            clear hE c1 c2 c3
            go_wp2_with (first | (go_at_call 88; refine (err_any st.rd).mono ?_; rintro e w' ⟨rfl, rfl⟩) | fail)
            refine (u64_cut st.rd hs HC.out.1 HC.out.2).mono ?_
            rintro e W2 ⟨rfl, r1, g1⟩
            replace st := st.turn r1 g1
            clear r1 g1
            go_wp2_with (first | (go_at_call 88; refine (err_any st.rd).mono ?_; rintro e w' ⟨rfl, rfl⟩) | (at_builtin; refine app_st rfl _ _ rfl rfl st hk1 _ _ rfl ?_; intro v' w' st2))
            go_roundw
            case rel => exact ⟨k + 1, _, .inr ⟨m, _, 4, by simp, by decide, HE.out, st2⟩⟩
            case measure => simp [intOf]
          have HC := Lib.hid (show 1 + 12 * k + 4 + 8 ≤ s.size by omega)
          go_wp2_with (first | (go_at_call 88; refine (err_any st.rd).mono ?_; rintro e w' ⟨rfl, rfl⟩) | fail)
          refine (u64_ok st.rd hs HC.out).mono ?_
          rintro e W2 ⟨rfl, r1, g1⟩
          replace st := st.turn r1 g1
          clear r1 g1
          have hT : numB (s.extract (1 + 12 * k + 4) (1 + 12 * k + 4 + 8)) = tilF s k := rfl
          rw [hT]
          clear hT
          by_cases c4 : tilF s k < 1 ∨ 1099511627776 < tilF s k
          · have hE : decE s = 6 := by rw [HRUN.out]; exact runE_err hlt (errI_til c1 c2 c3 c4) (by decide)
            have HE := Lib.hid hE
            by_cases c5 : tilF s k < 1
            · have e8 : ((tilF s k : Int) < 1) = True := eq_true (by omega)
              clear hE c1 c2 c3 c4 c5
              go_wp2_with (first | (go_at_call 88; refine (err_any st.rd).mono ?_; rintro e w' ⟨rfl, rfl⟩) | (go_at_call 90; refine (fail_any st.rd 6).mono ?_; rintro e w' ⟨rfl, r1, g1⟩; replace st := st.turn r1 g1; clear r1 g1) | (at_builtin; refine app_st rfl _ _ rfl rfl st hk1 _ _ rfl ?_; intro v' w' st2))
              go_roundw
              case rel => exact ⟨k + 1, _, .inr ⟨m, _, 6, by simp, by decide, HE.out, st2⟩⟩
              case measure => simp [intOf]
            · have e8 : ((tilF s k : Int) < 1) = False := eq_false (by omega)
              have e9 : ((1099511627776 : Int) < (tilF s k : Int)) = True := eq_true (by omega)
              clear hE c1 c2 c3 c4 c5
              go_wp2_with (first | (go_at_call 88; refine (err_any st.rd).mono ?_; rintro e w' ⟨rfl, rfl⟩) | (go_at_call 90; refine (fail_any st.rd 6).mono ?_; rintro e w' ⟨rfl, r1, g1⟩; replace st := st.turn r1 g1; clear r1 g1) | (at_builtin; refine app_st rfl _ _ rfl rfl st hk1 _ _ rfl ?_; intro v' w' st2))
              go_roundw
              case rel => exact ⟨k + 1, _, .inr ⟨m, _, 6, by simp, by decide, HE.out, st2⟩⟩
              case measure => simp [intOf]
          have hE : decE s = runE s (b0 s - (k + 1)) (k + 1) := by rw [HRUN.out]; exact runE_next hlt (errI_zero c1 c2 c3 c4)
          have HE := Lib.hid hE
          have HN := Lib.hid (show k + 1 ≤ b0 s ∧ 1 + 12 * (k + 1) ≤ s.size ∧ b0 s - (k + 1) = m by have := HM.out; omega)
          have e8 : ((tilF s k : Int) < 1) = False := eq_false (by omega)
          have e9 : ((1099511627776 : Int) < (tilF s k : Int)) = False := eq_false (by omega)
          have e10 : IntKind.i64.wrap (tilF s k : Int) = (tilF s k : Int) := IntWalk.i64_in _ (by omega)
          clear hE c1 c2 c3 c4
          go_wp2_with (first | (go_at_call 88; refine (err_any st.rd).mono ?_; rintro e w' ⟨rfl, rfl⟩) | (at_builtin; refine app_st rfl _ _ rfl rfl st hk1 _ _ rfl ?_; intro v' w' st2))
          go_roundw
          case rel =>
            refine ⟨k + 1, _, .inl ⟨HN.out.1, HN.out.2.1, by rw [HN.out.2.2], rfl, HE.out, ?_⟩⟩
            have e : 1 + 12 * k + 4 + 8 = 1 + 12 * (k + 1) := by omega
            rw [e] at st2
            exact st2
          case measure => simp [intOf]
      · obtain rfl : k = b0 s := by omega
        have e0 : b0 s - b0 s = 0 := Nat.sub_self _
        rw [e0]
        rw [e0] at hrun
        clear e0
        by_cases c1 : 1 + 12 * b0 s < s.size
        · have HE := Lib.hid (show decE s = 5 by rw [hrun]; show (if 1 + 12 * b0 s < s.size then (5 : Int) else 0) = 5; rw [if_pos c1])
          have HX := Lib.hid (end_more st.rd hs c1)
          clear hrun c1
          go_wp2_with (first | (go_at_call 88; refine (err_any st.rd).mono ?_; rintro e w' ⟨rfl, rfl⟩) | (go_at_call 92; refine HX.out.mono ?_; rintro e w' ⟨rfl, g1⟩))
          go_ret2
          refine ⟨.inr ⟨by rw [HE.out]; decide, by rw [HE.out]; rfl⟩, st.below.trans (Below.of_grown g1 st.below.size (fun g hg => by injection hg with hg; omega))⟩
        · have HE := Lib.hid (show decE s = 0 by rw [hrun]; show (if 1 + 12 * b0 s < s.size then (5 : Int) else 0) = 0; rw [if_neg c1])
          have HX := Lib.hid (end_ok st.rd hs (by omega))
          clear hrun c1
          go_wp2_with (first | (go_at_call 88; refine (err_any st.rd).mono ?_; rintro e w' ⟨rfl, rfl⟩) | (go_at_call 92; refine HX.out.mono ?_; rintro e w' ⟨rfl, g1⟩))
          go_ret2
          exact ⟨.inl ⟨_, HE.out, rfl, st.row.kept g1 (by cases h : u5.ownBlock <;> simp)⟩, st.below.trans (Below.of_grown g1 st.below.size (by simp))⟩
    · have e1 : (e == 0) = false := beq_eq_false_iff_ne.2 he
      have e2 : (e != 0) = true := bne_iff_ne.2 he
      have HX := Lib.hid (end_err st.rd he)
      have HE := Lib.hid (And.intro he hdec)
      clear he hdec
      rcases Nat.eq_zero_or_pos n' with h0 | h0
      · subst h0
        go_wp2_with (first | (go_at_call 88; refine (err_any st.rd).mono ?_; rintro e w' ⟨rfl, rfl⟩) | (go_at_call 92; refine HX.out.mono ?_; rintro e w' ⟨rfl, rfl⟩))
        go_ret2
        exact ⟨.inr ⟨by rw [HE.out.2]; exact HE.out.1, by rw [HE.out.2]; rfl⟩, st.below⟩
      · go_wp2_with (first | (go_at_call 88; refine (err_any st.rd).mono ?_; rintro e w' ⟨rfl, rfl⟩) | (go_at_call 92; refine HX.out.mono ?_; rintro e w' ⟨rfl, rfl⟩))
        go_ret2
        exact ⟨.inr ⟨by rw [HE.out.2]; exact HE.out.1, by rw [HE.out.2]; rfl⟩, st.below⟩
end By
end Go.Proofs.Ytohphljhldcjbaa
