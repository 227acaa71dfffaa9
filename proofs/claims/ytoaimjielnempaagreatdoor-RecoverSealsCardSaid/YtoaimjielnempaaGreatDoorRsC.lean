/- The document's SHA-256: the bytes behind a text of so many; a state's bytes. -/
import Derived.Test.YtoaimjielnempaaGreatDoorRsB
namespace Go.Proofs.YtoaimjielnempaaGreatDoor
set_option linter.unusedVariables false
set_option linter.unusedSimpArgs false
open Go.RowKit Go.Maps
namespace Sh
def sliceLen : Value → Nat
  | .slice _ n _ => n
  | _ => 0
/-- The zeros so far. -/
def preL (j : Nat) : List UInt8 := 128 :: List.replicate j 0
theorem preL_len (j : Nat) : (preL j).length = 1 + j := by simp [preL]; omega
theorem preL_snoc (j : Nat) : preL (j + 1) = preL j ++ [0] := by
  show 128 :: List.replicate (j + 1) 0 = (128 :: List.replicate j 0) ++ [0]
  rw [List.replicate_succ']
  rfl
theorem preL_pad (n : Nat) : preL (zerosN n) = padL n 0 := by simp [preL, padL, be8]
theorem row_len {w : World} {B : Nat} {v : Value} {l : List UInt8} (h : BRow w B v l) : ∃ p c, v = .slice p l.length c := ownsRow_shape h
theorem rapp_byte {w0 W : World} {v : Value} {l : List UInt8} {ops : Array Oper} {rest : List Oper} {o : Oper} {a : Act} {Q : Exit → Act → World → Prop} (hgd : o.guard = none) (sA xA : Operand)
    (ho : o.op = .call { callee := .builtin .append, args := #[sA, xA], argTypes := #[34, 34] }) (hs : a.eval sA = v) (hrow : BRow W w0.heap.size v l) (hb : Below w0.heap.size w0 W) (hk : l.length ≤ 1000000) (b : Int) (x : UInt8) (hbx : b = (x.toNat : Int)) (hx : a.eval xA = .slice (some ⟨W.heap.size, 0, none⟩) 1 1)
    (K : ∀ v' w', BRow w' w0.heap.size v' (l ++ [x]) → Below w0.heap.size w0 w' → wpList Tryz.prog ops Q rest (a.put o.dst v') w') : wpList Tryz.prog ops Q (o :: rest) a (W.alloc (.cells #[.int .u8 b] 5)) := by
  obtain ⟨i0, hi, hz0, hz1, hz2⟩ := info_partsB infoByte
  have hB := hb.size
  refine wpList_append_own _ hgd sA xA 34 ho w0.heap.size 5 i0 (.int .u8 0) 1 1 Tryz.underlying34 hi hz0 hz1 hz2 rfl (by decide) v l.length (bvs l) hs (World.ownsRow.alloc hrow _) ⟨W.heap.size, 0, none⟩ 1 1 [.int .u8 b] hx rfl ?_ ?_ (by unfold maxLen; omega) (by omega) (by simp; omega) fun v' w' h1 h2 _ => K v' w' ?_ ?_
  · intro j u hj
    match j, hj with
    | 0, hj => simp at hj; subst hj; simp [Addr.add]
  · intro u hu
    simp at hu
    subst hu
    rfl
  · unfold BRow
    rw [bvs_app, List.length_append]
    have : bvs [x] = [.int .u8 b] := by simp [bvs, hbx]
    rw [this]
    exact h1
  · exact (hb.alloc hB _).grown h2 (by simp; omega) (fun g hg => (World.ownsRow.lt hrow g hg).1)
set_option maxHeartbeats 2000000 in
set_option maxRecDepth 100000 in
theorem rpad_any (n : Nat) (hn : n < 281474976710656) (w : World) : Calls Tryz.prog 56 #[.int .u64 (n : Int)] w fun e w' => e = .returned (.string ⟨(padL n 8).toArray⟩) ∧ w.grownBy w' none := by
  have HN := Lib.hid hn
  have hz : zerosN n < 64 := Nat.mod_lt _ (by decide)
  have Z := Lib.hid hz
  have r0 : BRow (w.alloc (.cells #[.int .u8 128] 5)) w.heap.size (.slice (some ⟨w.heap.size, 0, none⟩) 1 1) (preL 0) :=
    ⟨by simp [bvs, preL], .inr ⟨w.heap.size, 1, #[.int .u8 128], rfl, Nat.le_refl _, heap_alloc_new w _, by simp [preL], by decide, rfl, by simp [bvs, preL]⟩⟩
  have g0 : Below w.heap.size w (w.alloc (.cells #[.int .u8 128] 5)) := (Below.refl _ w).alloc (Nat.le_refl _) _
  clear hz hn
  go_enter Tryz.func56, Tryz.ntmps56
  go_wp2_with fail
  generalize World.alloc w _ = w1 at r0 g0 ⊢
  go_loopw [3] (fun v wr => ∃ j : Nat, j ≤ zerosN n ∧ BRow wr w.heap.size v (preL j) ∧ Below w.heap.size w wr) (fun v _ => 65 - sliceLen v)
  case atStart => exact ⟨0, Nat.zero_le _, r0, g0⟩
  case round =>
    clear r0 g0
    obtain ⟨j, hj, hrow, hb⟩ := hrel
    obtain ⟨p, cc, hv⟩ := row_len hrow
    rw [preL_len] at hv
    subst hv
    have hzl := Z.out
    have hnl := HN.out
    have hzd : zerosN n = (119 - n % 64) % 64 := rfl
    have u1 : IntKind.u64.wrap (1 + (j : Int)) = 1 + (j : Int) := IntWalk.u64_in _ (by omega)
    have u2 : IntKind.u64.wrap ((n : Int) + (1 + (j : Int))) = (n : Int) + (1 + (j : Int)) := IntWalk.u64_in _ (by omega)
    have u3 : ((n : Int) + (1 + (j : Int))).tmod 64 = (((n + (1 + j)) % 64 : Nat) : Int) := by
      rw [Int.tmod_eq_emod_of_nonneg (by omega)]
      omega
    by_cases he : j = zerosN n
    · have t1 : (((n : Int) + (1 + (j : Int))).tmod 64 != 56) = false := by
        rw [u3, show (n + (1 + j)) % 64 = 56 by omega]
        rfl
      have t2 : (((n : Int) + (1 + (j : Int))) % 64 != 56) = false := by
        rw [show ((n : Int) + (1 + (j : Int))) % 64 = 56 by omega]
        rfl
      have H8 : BRow wr w.heap.size (.slice p (1 + j) cc) (padL n 0) := by rw [← preL_pad, ← he]; exact hrow
      have hbits : IntKind.u64.wrap (8 * (n : Int)) = 8 * (n : Int) := IntWalk.u64_in _ (by omega)
      have HE := Lib.hid he
      clear hrow u3 hnl hzd hzl he hj
      go_wp2_with fail
      go_loopw [3, 5] (fun v i wq => ∃ k : Nat, k ≤ 8 ∧ i = .int .i64 (7 - (k : Int)) ∧ BRow wq w.heap.size v (padL n k) ∧ Below w.heap.size w wq) (fun _ i _ => (intOf i + 1).toNat)
      case atStart => exact ⟨0, by omega, rfl, H8, hb⟩
      case round =>
        clear H8 hb u1 u2 t1 t2
        obtain ⟨k, hk, rfl, hrow, hb⟩ := hrel
        by_cases hlt : k < 8
        · have e2 : (0 ≤ 7 - (k : Int)) = True := eq_true (by omega)
          have hlen := padL_len n k
          have e3 : ((k : Int) ≤ 7) = True := eq_true (by omega)
          have hv : (((8 * (n : Int)) / 2 ^ (8 * (7 - k))) % 256) = ((UInt8.ofNat (n * 8 / 256 ^ (7 - k))).toNat : Int) := by
            rw [be_byte n k (by omega)]
            have h2 : ((n : Int) * 8 % 18446744073709551616) = 8 * (n : Int) := by have := HN.out; omega
            rw [h2]
          have HV := Lib.hid hv
          have HL : (padL n k).length ≤ 1000000 := by rw [hlen]; have := Z.out; omega
          clear hv hlen
          go_wp2_with (at_builtin; refine rapp_byte rfl _ _ rfl rfl hrow hb HL _ _ HV.out rfl ?_; intro v' w' hrow2 hb2)
          go_roundw
          case rel => exact ⟨k + 1, by omega, by go_num, by rw [padL_snoc]; exact hrow2, hb2⟩
          case measure => simp [intOf]; omega
        · obtain rfl : k = 8 := by omega
          have ht : (convert 34 9 u3).run Tryz.prog wr = .ok (.string ⟨(padL n 8).toArray⟩) wr := hrow.text 0
          have e2 : (0 ≤ 7 - ((8 : Nat) : Int)) = False := eq_false (by omega)
          go_wp2_with fail
          go_ret
          exact ⟨rfl, grown_own hb rfl⟩
    · have t1 : (((n : Int) + (1 + (j : Int))).tmod 64 != 56) = true := by
        rw [u3, bne_iff_ne]
        intro h
        have : (n + (1 + j)) % 64 = 56 := by exact_mod_cast h
        omega
      have t2 : (((n : Int) + (1 + (j : Int))) % 64 != 56) = true := by
        rw [bne_iff_ne]
        intro h
        omega
      have HJ : Hid (j + 1 ≤ zerosN n) := Lib.hid (by omega)
      have HL : (preL j).length ≤ 1000000 := by rw [preL_len]; omega
      clear u3 hnl hzd he hj
      have HZL := Lib.hid hzl
      clear hzl
      go_wp2_with (at_builtin; refine rapp_byte rfl _ _ rfl rfl hrow hb HL 0 0 rfl rfl ?_; intro v' w' hrow2 hb2)
      obtain ⟨p', cc', hv'⟩ := row_len hrow2
      go_roundw
      case rel => exact ⟨j + 1, HJ.out, by rw [preL_snoc]; exact hrow2, hb2⟩
      case measure =>
        subst hv'
        have := HJ.out
        have := HZL.out
        simp [sliceLen, preL_len]
        omega
end Sh
end Go.Proofs.YtoaimjielnempaaGreatDoor
