/- 'DiskFull': the walks. -/
import Derived.Test.YtohphljhldcjbaaDkQ
namespace Go.Proofs.Ytohphljhldcjbaa
set_option linter.unusedVariables false
set_option linter.unusedSimpArgs false
open Go.RowKit Go.Maps
namespace Dk

theorem Filling.later {w0 w w' : World} {g n : Nat} {N : FS} (h : Filling w0 w g n N) (hb : Below w.heap.size w w') : Filling w0 w' g n N :=
  h.step ⟨hb.os, hb.tape, hb.output, hb.size, fun k hk _ => hb.block k hk⟩

def nAB : ByteArray := ⟨#[97, 98]⟩
def nAA : ByteArray := ⟨#[97, 97]⟩
def nHH : ByteArray := ⟨#[104, 104]⟩
def nNew : ByteArray := ⟨#[110, 101, 119]⟩

theorem size_has {N : FS} (h : Tidy N) {name s : ByteArray} {a : Nat} (hh : Maps.has N (key name) = true) : Maps.size (doC N ⟨0, name, .empty, a, s⟩) = Maps.size N := by
  show Maps.size (N.put (key name) _) = _
  rw [size_put h, if_pos hh]

theorem full_tidy : ∀ k, Tidy (full k)
  | 0 => tidy_none
  | k + 1 => tidy_do (full_tidy k) _
def F0 : FS := full 64
def F1 : FS := doC F0 ⟨0, nAA, .empty, 0, ⟨#[120]⟩⟩
def F2 : FS := doC F1 ⟨3, nHH, .empty, 0, .empty⟩
def F3 : FS := doC F2 ⟨0, nNew, .empty, 0, ⟨#[121]⟩⟩
set_option maxRecDepth 100000 in
theorem size0 : Maps.size F0 = 64 := by decide +kernel
set_option maxRecDepth 100000 in
theorem has_new : Maps.has F0 (key nNew) = false := by decide +kernel
set_option maxRecDepth 100000 in
theorem has_aa : Maps.has F0 (key nAA) = true := by decide +kernel
set_option maxRecDepth 100000 in
theorem size_1 : Maps.size F1 = 64 := by decide +kernel
set_option maxRecDepth 100000 in
theorem has_hh : Maps.has F1 (key nHH) = true := by decide +kernel
set_option maxRecDepth 100000 in
theorem size_2 : Maps.size F2 = 63 := by decide +kernel
set_option maxRecDepth 100000 in
theorem size_3 : Maps.size F3 = 64 := by decide +kernel
set_option maxRecDepth 100000 in
theorem has_ab : Maps.has F3 (key nAB) = true := by decide +kernel
set_option maxRecDepth 100000 in
theorem get_ab : get F3 nAB = .empty := by decide +kernel
theorem tidy_3 : Tidy F3 := tidy_do (tidy_do (tidy_do (full_tidy 64) _) _) _

def strSize : Value → Nat
  | .string s => s.size
  | _ => 0

set_option maxHeartbeats 2000000 in
set_option maxRecDepth 100000 in
theorem long_any {w0 w : World} {g n : Nat} {N : FS} (h : Filling w0 w g n N) (ht : Tidy N) (hh : Maps.has N (key nAB) = true) (he : get N nAB = .empty) (hz : Maps.size N ≤ 64) (hn : n ≤ 900) :
    Calls Try.prog 30 #[.pointer (some ⟨g, 0, none⟩)] w fun e w' => e = .returned (.bool true) ∧ Below w0.heap.size w0 w' := by
  go_enter Try.func30, Try.ntmps30
  go_wp2_with fail
  go_loopw [3] (fun v wr => wr = w ∧ ∃ (j : Nat) (s : ByteArray), v = .string s ∧ j ≤ 20 ∧ s.size = 16 * 2 ^ j) (fun v _ => 16777216 - strSize v)
  case atStart => exact ⟨rfl, 0, _, rfl, by omega, by decide⟩
  case round =>
    obtain ⟨rfl, j, s, rfl, hj, hs⟩ := hrel
    by_cases hlt : j < 20
    · have hs1 : s.size < 16777216 := by
        have h1 : 2 ^ j ≤ 2 ^ 19 := Nat.pow_le_pow_right (by omega) (by omega)
        rw [hs]
        omega
      have hs0 : 0 < s.size := by
        have h1 : 0 < 2 ^ j := Nat.pow_pos (by omega)
        rw [hs]
        omega
      have H1 := Lib.hid hs1
      have H0 := Lib.hid hs0
      have e1 : ((s.size : Int) < 16777216) = True := by simp; omega
      have hadd : ∀ W : World, (Op.stringOp .add s s).run Try.prog W = .ok (.string (s ++ s)) W := fun W => run_string_add_sum W _ _ (by omega)
      clear hs1 hs0
      have HS := Lib.hid hs
      clear hs
      go_wp2_with fail
      go_roundw
      case rel => exact ⟨trivial, j + 1, _, rfl, by omega, by have := HS.out; simp [this]; omega⟩
      case measure => have := H1.out; have := H0.out; simp [strSize]; omega
    · obtain rfl : j = 20 := by omega
      have hs2 : s.size = 16777216 := by rw [hs]
      have e1 : ((s.size : Int) < 16777216) = False := by simp; omega
      clear hs
      have S := Lib.hid hs2
      clear hs2
      go_wp2_with fail
      have hsz0 := fill_size h nAB (by decide +kernel) hh
      rw [he] at hsz0
      refine hsz0.mono ?_
      rintro e w1 ⟨rfl, g1⟩
      have h1 := h.step g1
      clear hsz0 g1
      go_wp2_with fail
      have hz1 := size_has ht (a := 0) (s := s) hh
      refine (fill_write h1 nAB s 0 (by decide +kernel) (by omega) (by have := S.out; omega) (.inl hh) (by omega) (by omega)).mono ?_
      rintro e w2 ⟨rfl, h2⟩
      have ht1 := tidy_do ht ⟨0, nAB, .empty, 0, s⟩
      have hg1 : get (doC N ⟨0, nAB, .empty, 0, s⟩) nAB = s := by
        show get (N.put (key nAB) (text (laid (get N nAB) 0 s))) nAB = s
        rw [get_put_same ht.isMap, he]
        unfold laid
        simp
      have hh1 : Maps.has (doC N ⟨0, nAB, .empty, 0, s⟩) (key nAB) = true := has_put_self ht.isMap _ _
      rw [← hz1] at hz
      generalize doC N ⟨0, nAB, .empty, 0, s⟩ = N1 at *
      clear h1 he hh ht hz1
      go_wp2_with fail
      refine (fill_over h2 nAB ⟨#[120]⟩ (by decide +kernel) (by decide) (by rw [hg1, S.out]; decide)).mono ?_
      rintro e w3 ⟨rfl, g3⟩
      have h3 := h2.step g3
      clear h2 g3
      obtain ⟨q, hq⟩ : ∃ q, q + 1 = s.size := ⟨s.size - 1, by have := S.out; omega⟩
      have hq2 := Lib.hid (show q = 16777215 by have := S.out; omega)
      have e9 : (s.size : Int) - 1 = (q : Int) := by omega
      have e10 : wrap64 (q : Int) = (q : Int) := IntWalk.wrap64_in _ (by have := hq2.out; omega)
      have HQ := Lib.hid hq
      clear hq
      go_wp2_with fail
      refine (fill_full h3 nAB ⟨#[122, 122]⟩ q (by decide +kernel) (by rw [hg1]; have := HQ.out; omega) (by decide) (.inl (by rw [hq2.out]; decide))).mono ?_
      rintro e w4 ⟨rfl, g4⟩
      have h4 := h3.step g4
      clear h3 g4
      go_wp2_with fail
      refine (fill_write h4 nAB ⟨#[122]⟩ q (by decide +kernel) (by rw [hg1]; have := HQ.out; omega) (by rw [hq2.out]; decide) (.inl hh1) (by omega) (by rw [size_has ht1 hh1]; exact hz)).mono ?_
      rintro e w5 ⟨rfl, h5⟩
      have hb := h5.below
      clear h4 h5
      go_wp2_with fail
      go_ret
      exact ⟨rfl, hb⟩

set_option maxHeartbeats 2000000 in
set_option maxRecDepth 100000 in
theorem full_any (more : Int) (w : World) : Calls Try.prog 6 #[.int .i64 more] w fun e w' => e = .returned (.bool true) ∧ Below w.heap.size w w' := by
  go_enter Try.func6, Try.ntmps6
  go_wp2_with fail
  refine (fill_new _).mono ?_
  rintro e w3 ⟨rfl, g2⟩
  generalize w.heap.size + 2 = g at *
  go_wp2_with fail
  refine (awake_ok _).mono ?_
  rintro e w4 ⟨rfl, b4⟩
  have g4 := g2.later b4
  clear b4 g2
  go_wp2_with fail
  go_loopw [5] (fun i wr => ∃ k : Nat, k ≤ 64 ∧ i = .int .i64 k ∧ Filling w wr g k (full k)) (fun i _ => 64 - (intOf i).toNat)
  case atStart => exact ⟨0, by omega, rfl, g4⟩
  case round =>
    obtain ⟨k, hk, rfl, hl⟩ := hrel
    by_cases hlt : k < 64
    · go_wp2_with fail
      refine wp_region_still_tail 16 (by kernel_rfl) (by kernel_rfl) ?_
      have ew : ({ heap := wr.heap, tape := wr.tape, drawn := wr.drawn + 1, os := wr.os, output := wr.output } : World) = wr.drew := rfl
      rw [ew]
      clear ew
      have hl2 := hl.step (grown_drew (grown_refl wr none))
      clear hl
      generalize wr.drew = w5 at hl2 ⊢
      simp only [List.take_succ_cons, List.take_zero, List.drop_succ_cons, List.drop_zero]
      clear hk
      obtain ⟨a, ha⟩ : ∃ a, a = k / 8 := ⟨_, rfl⟩
      obtain ⟨c, hc⟩ : ∃ c, c = k % 8 := ⟨_, rfl⟩
      have a8 : a < 8 := by omega
      have c8 : c < 8 := by omega
      have f1 : IntKind.i64.wrap ((k : Int) / 8) = (a : Int) := by rw [IntWalk.i64_in _ (by omega)]; omega
      have f2 : IntKind.i64.wrap ((a : Int) + 1) = (a : Int) + 1 := IntWalk.i64_in _ (by omega)
      have f3 : ((k : Int).tmod 8) = (c : Int) := by rw [Int.tmod_eq_emod_of_nonneg (by omega)]; omega
      have f4 : IntKind.i64.wrap ((c : Int) + 1) = (c : Int) + 1 := IntWalk.i64_in _ (by omega)
      have f5 : (0 ≤ (a : Int) + 1) = True := eq_true (by omega)
      have f6 : (0 ≤ (c : Int) + 1) = True := eq_true (by omega)
      have f7 : ((a : Int) ≤ (a : Int) + 1) = True := eq_true (by omega)
      have f8 : ((c : Int) ≤ (c : Int) + 1) = True := eq_true (by omega)
      have f9 : ((a : Int) + 1 ≤ 8) = True := eq_true (by omega)
      have f10 : ((c : Int) + 1 ≤ 8) = True := eq_true (by omega)
      have f11 : ((a : Int) + 1).toNat = a + 1 := by omega
      have f12 : ((c : Int) + 1).toNat = c + 1 := by omega
      have hadd : ∀ W : World, (Op.stringOp .add (eights.extract a (a + 1)) (eights.extract c (c + 1))).run Try.prog W = .ok (.string (nm k)) W := by
        intro W
        have h1 := run_string_add_sum (P := Try.prog) W (eights.extract a (a + 1)) (eights.extract c (c + 1)) (by
          have h2 : (eights.extract a (a + 1)).size ≤ 1 := by simp; omega
          have h3 : (eights.extract c (c + 1)).size ≤ 1 := by simp; omega
          omega)
        rw [h1]
        subst ha hc
        rfl
      unfold eights at hadd
      have HA := Lib.hid (And.intro ha hc)
      clear ha hc
      repeat still_step
      try refine wpStill_nil ?_
      clear f1 f2 f3 f4 f5 f6 f7 f8 f9 f10 f11 f12 hadd
      go_wp2_with fail
      refine (fill_write hl2 (nm k) .empty 0 (nm_ok k hlt) (by omega) (by decide) (.inr (by rw [full_size k (by omega)]; exact hlt)) (by omega) (by
        have := full_size (k + 1) (by omega)
        have e : full (k + 1) = doC (full k) ⟨0, nm k, .empty, 0, .empty⟩ := rfl
        rw [← e]
        omega)).mono ?_
      rintro e w6 ⟨rfl, h6⟩
      go_wp2_with fail
      go_roundw
      case rel => exact ⟨k + 1, by omega, by go_num, h6⟩
      case measure => simp [intOf]; omega
    · obtain rfl : k = 64 := by omega
      have hl0 : Filling w wr g 64 F0 := hl
      clear hk hlt hl
      go_wp2_with fail
      refine (fill_full hl0 nNew .empty 0 (by decide +kernel) (by omega) (by decide) (.inr ⟨has_new, size0⟩)).mono ?_
      rintro e w5 ⟨rfl, g5⟩
      have h5 := hl0.step g5
      clear hl0 g5
      go_wp2_with fail
      refine (fill_write h5 nAA ⟨#[120]⟩ 0 (by decide +kernel) (by omega) (by decide) (.inl has_aa) (by omega) (Nat.le_of_eq size_1)).mono ?_
      rintro e w6 ⟨rfl, h6⟩
      have h6 : Filling w w6 g 65 F1 := h6
      clear h5
      go_wp2_with fail
      refine (fill_remove h6 nHH (by decide +kernel) has_hh (by omega) (by show Maps.size F2 ≤ 64; rw [size_2]; omega)).mono ?_
      rintro e w7 ⟨rfl, h7⟩
      have h7 : Filling w w7 g 66 F2 := h7
      clear h6
      go_wp2_with fail
      refine (fill_write h7 nNew ⟨#[121]⟩ 0 (by decide +kernel) (by omega) (by decide) (.inr (by rw [size_2]; omega)) (by omega) (Nat.le_of_eq size_3)).mono ?_
      rintro e w8 ⟨rfl, h8⟩
      have h8 : Filling w w8 g 67 F3 := h8
      clear h7
      have hb8 := h8.below
      go_wp2_with (go_at_call 30; refine (long_any h8 tidy_3 has_ab get_ab (Nat.le_of_eq size_3) (by omega)).mono ?_; rintro e w9 ⟨rfl, hb9⟩)
      all_goals go_ret
      all_goals exact ⟨rfl, by assumption⟩
end Dk
end Go.Proofs.Ytohphljhldcjbaa
