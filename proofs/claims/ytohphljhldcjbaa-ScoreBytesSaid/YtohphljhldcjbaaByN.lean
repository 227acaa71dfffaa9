/- ScoreBytes: the law walked. -/
import Derived.Test.YtohphljhldcjbaaByF
import Derived.Test.YtohphljhldcjbaaByM
import Derived.Test.YtohphljhldcjbaaScW
namespace Go.Proofs.Ytohphljhldcjbaa
set_option linter.unusedVariables false
set_option linter.unusedSimpArgs false
open Go.RowKit Go.Maps
namespace By

/-- Bans as cells. -/
def bcs (hs : Nat → Nat) (us : Nat → Int) : Nat → List Value
  | 0 => []
  | k + 1 => bcs hs us k ++ [.int .u32 (hs k : Nat), .int .i64 (us k)]
theorem bcs_len (hs : Nat → Nat) (us : Nat → Int) : ∀ k, (bcs hs us k).length = k * 2
  | 0 => rfl
  | k + 1 => by simp only [bcs, List.length_append, bcs_len hs us k]; simp; omega
theorem bcs_get (hs : Nat → Nat) (us : Nat → Int) {i k : Nat} (h : i < k) : (bcs hs us k)[i * 2]? = some (.int .u32 (hs i : Nat)) ∧ (bcs hs us k)[i * 2 + 1]? = some (.int .i64 (us i)) := by
  induction k with
  | zero => omega
  | succ k ih =>
    have hl := bcs_len hs us k
    simp only [bcs]
    rcases Nat.lt_or_ge i k with hk | hk
    · rw [List.getElem?_append_left (by omega), List.getElem?_append_left (by omega)]
      exact ih hk
    · obtain rfl : i = k := by omega
      rw [List.getElem?_append_right (by omega), List.getElem?_append_right (by omega), hl]
      simp

theorem Bans.of_row {W : World} {B e : Nat} {A : Option Addr} {len cap : Nat} {hs : Nat → Nat} {us : Nat → Int} (h : W.ownsRow B e 2 (.slice A len cap) len (bcs hs us len)) (hlt : ∀ i, i < len → hs i < 4294967296) : Bans W A len hs us := by
  intro hp
  obtain ⟨A', cap', hv, hA⟩ := row_shape h
  injection hv with h1 h2 h3
  subst h1
  obtain ⟨g, rfl, hg⟩ := hA hp
  refine ⟨g, 0, rfl, (h.lt g hg).2, fun i hi => ?_⟩
  have c0 := h.cells hg (i * 2) _ (bcs_get hs us hi).1
  have c1 := h.cells hg (i * 2 + 1) _ (bcs_get hs us hi).2
  rw [addr_add] at c0 c1
  rw [Nat.zero_add]
  exact ⟨c0, c1, hlt i hi⟩

theorem app_row' {w0 W : World} {k g : Nat} {v : Value} {xs : List Value} {ops : Array Oper} {rest : List Oper} {o : Oper} {a : Act} {Q : Exit → Act → World → Prop} (hgd : o.guard = none) (sA xA : Operand)
    (ho : o.op = .call { callee := .builtin .append, args := #[sA, xA], argTypes := #[57, 57] }) (hs : a.eval sA = v) (hrow : W.ownsRow w0.heap.size 61 2 v k xs) (hb : Below w0.heap.size w0 W) (hk : k ≤ 8796093021951) (h : Int) (u : Int) (hg : W.heap.size = g) (hx : a.eval xA = .slice (some ⟨g, 0, none⟩) 1 1)
    (K : ∀ v' w', w'.ownsRow w0.heap.size 61 2 v' (k + 1) (xs ++ [.int .u32 h, .int .i64 u]) → Below w0.heap.size w0 w' → wpList Try.prog ops Q rest (a.put o.dst v') w') : wpList Try.prog ops Q (o :: rest) a (W.alloc (.cells #[.int .u32 h, .int .i64 u] 61)) := by
  subst hg
  exact app_row hgd sA xA ho hs hrow hb hk h u hx K

theorem rdecode_any (s : ByteArray) (w : World) (hs : s.size ≤ 140737488351232) : Calls Try.prog 34 #[.string s] w (Decoded 61 s w) := by
  by_cases h : cntE s = 0
  · exact rdecode_good s w hs h
  · exact rdecode_bad s w hs h

theorem below_grown {w w' : World} (h : Below w.heap.size w w') : w.grownBy w' none := ⟨h.os, h.tape, h.output, h.size, fun k hk _ => h.block k hk⟩

set_option maxHeartbeats 4000000 in
set_option maxRecDepth 100000 in
theorem bytes_law (A : Option Addr) (len cap : Nat) (hs : Nat → Nat) (us : Nat → Int) (s : ByteArray) (w : World) (h : Bans w A len hs us) (hl : len ≤ 8796093021952) (hsz : s.size ≤ 140737488351232) :
    Calls Try.prog 7 #[.slice A len cap, .string s] w fun e w' => e = .returned (.bool true) ∧ Below w.heap.size w w' := by
  have HS := Lib.hid hsz
  have HL := Lib.hid hl
  clear hsz
  go_enter Try.func7, Try.ntmps7
  go_wp2_with fail
  go_loopw [5, 18] (fun v i wr => ∃ j : Nat, j ≤ len ∧ i = .int .i64 j ∧ wr.ownsRow w.heap.size 61 2 v j (bcs hs us j) ∧ Below w.heap.size w wr) (fun _ i _ => len - (intOf i).toNat)
  case atStart =>
    refine ⟨0, Nat.zero_le _, rfl, ?_, (Below.refl _ w).alloc (Nat.le_refl _) _⟩
    exact World.ownsRow_made w #[] 0 (Nat.le_refl _) (by unfold maxLen; omega) rfl
  case round =>
    obtain ⟨j, hj, rfl, hrow, hb⟩ := hrel
    by_cases hlt : j < len
    · obtain ⟨b, off, rfl, hbl, hcc⟩ := (h.below hb) (by omega)
      obtain ⟨q0, q1, _⟩ := hcc j hlt
      have e0 : ((j : Int) < (len : Int)) = True := eq_true (by omega)
      have hrow1 := hrow.alloc (.cells #[.int .u32 (hs j), .int .i64 (us j)] 60)
      have hb1 := hb.alloc hb.size (.cells #[.int .u32 (hs j), .int .i64 (us j)] 60)
      have hk1 : j ≤ 8796093021951 := by omega
      clear h hcc
      go_wp2_with (at_builtin; refine app_row' rfl _ _ rfl rfl hrow1 hb1 hk1 _ _ (show _ = wr.heap.size + 1 by simp) rfl ?_; intro v' w' hrow2 hb2)
      go_roundw
      case rel => exact ⟨j + 1, by omega, by go_num, hrow2, hb2⟩
      case measure => simp [intOf]; omega
    · obtain rfl : j = len := by omega
      have e0 : ((j : Int) < (j : Int)) = False := eq_false (by omega)
      obtain ⟨A2, cap2, rfl, hA2⟩ := row_shape hrow
      have hbans := Bans.of_row hrow (fun i hi => by obtain ⟨_, _, _, _, hc⟩ := h (by omega); exact (hc i hi).2.2)
      have hbans1 := h.below hb
      clear h hrow hA2 hl
      go_wp2_with fail
      refine (encode_any A j cap hs us wr hbans1 (Nat.le_trans HL.out (by decide))).mono ?_
      rintro e w2 ⟨hx, hb2⟩
      have hbans2 := hbans.below hb2
      have hw2 := hb.trans (hb2.mono hb.size)
      clear hbans hbans1 hb2 hb
      obtain ⟨X, N, rfl, hXN⟩ : ∃ (X : ByteArray) (N : Int), e = .returned (.tuple #[.string X, .int .i64 N]) ∧ ((Good j hs us ∧ X = ⟨(encL j hs us j).toArray⟩ ∧ N = 0) ∨ (¬ Good j hs us ∧ X = .empty ∧ N = 1)) := by
        rcases hx with ⟨h1, h2⟩ | ⟨h1, h2⟩
        · exact ⟨_, _, h2, .inl ⟨h1, rfl, rfl⟩⟩
        · exact ⟨_, _, h2, .inr ⟨h1, rfl, rfl⟩⟩
      have HXN := Lib.hid hXN
      clear hx hXN
      go_wp2_with fail
      refine (rencode_any A2 j cap2 hs us w2 hbans2 (Nat.le_trans HL.out (by decide))).mono ?_
      rintro e w3 ⟨hx, hb3⟩
      have hw3 := hw2.trans (hb3.mono hw2.size)
      obtain rfl : e = .returned (.tuple #[.string X, .int .i64 N]) := by
        rcases hx with ⟨h1, h2⟩ | ⟨h1, h2⟩
        · rcases HXN.out with ⟨k1, k2, k3⟩ | ⟨k1, k2, k3⟩
          · rw [h2, k2, k3]
          · exact absurd h1 k1
        · rcases HXN.out with ⟨k1, k2, k3⟩ | ⟨k1, k2, k3⟩
          · exact absurd k1 h1
          · rw [h2, k2, k3]
      clear hx hb3 hw2 hbans2 HXN
      go_wp2_with fail
      refine (Sc.awake_ok w3).mono ?_
      rintro e w4 ⟨rfl, g4⟩
      have hw4 := hw3.trans (Below.of_grown g4 hw3.size (by simp))
      clear g4 hw3
      go_wp2_with fail
      refine (decode_any s w4 HS.out).mono ?_
      rintro e w5 ⟨hx, hb5⟩
      have hw5 := hw4.trans (hb5.mono hw4.size)
      have b5 := below_grown hb5
      obtain ⟨v, E, rfl, hv⟩ : ∃ (v : Value) (E : Int), e = .returned (.tuple #[v, .int .i64 E]) ∧ ((decE s = 0 ∧ E = 0 ∧ w5.ownsRow w4.heap.size 60 2 v (b0 s) (dcs s (b0 s))) ∨ (decE s ≠ 0 ∧ E = decE s ∧ v = .slice none 0 0)) := by
        rcases hx with ⟨v, h1, h2, h3⟩ | ⟨h1, h2⟩
        · exact ⟨_, _, h2, .inl ⟨h1, rfl, h3⟩⟩
        · exact ⟨_, _, h2, .inr ⟨h1, rfl, rfl⟩⟩
      have HV := Lib.hid hv
      clear hx hv hb5
      go_wp2_with fail
      refine (rdecode_any s w5 HS.out).mono ?_
      rintro e w6 ⟨hx, hb6⟩
      have hw6 := hw5.trans (hb6.mono hw5.size)
      have b6 := below_grown hb6
      rcases HV.out with ⟨h1, rfl, h3⟩ | ⟨h1, rfl, rfl⟩
      · obtain ⟨v2, rfl, h4⟩ : ∃ v2, e = .returned (.tuple #[v2, .int .i64 0]) ∧ w6.ownsRow w5.heap.size 61 2 v2 (b0 s) (dcs s (b0 s)) := by
          rcases hx with ⟨v, k1, k2, k3⟩ | ⟨k1, k2⟩
          · exact ⟨_, k2, k3⟩
          · exact absurd h1 k1
        have h3' := h3.kept b6 (by cases h : v.ownBlock <;> simp)
        obtain ⟨A3, cap3, rfl, hA3⟩ := row_shape h3'
        obtain ⟨A4, cap4, rfl, hA4⟩ := row_shape h4
        have hcell : ∀ i, i < b0 s → ∃ g1 g2, A3 = some ⟨g1, 0, none⟩ ∧ A4 = some ⟨g2, 0, none⟩ ∧ w6.cell? ⟨g1, i * 2, none⟩ = some (.int .u32 (hostF s i : Nat)) ∧ w6.cell? ⟨g1, i * 2 + 1, none⟩ = some (.int .i64 (tilF s i : Nat)) ∧ w6.cell? ⟨g2, i * 2, none⟩ = some (.int .u32 (hostF s i : Nat)) ∧ w6.cell? ⟨g2, i * 2 + 1, none⟩ = some (.int .i64 (tilF s i : Nat)) := by
          intro i hi
          obtain ⟨g1, rfl, hg1⟩ := hA3 (by omega)
          obtain ⟨g2, rfl, hg2⟩ := hA4 (by omega)
          have c0 := h3'.cells hg1 (i * 2) _ (dcs_get s hi).1
          have c1 := h3'.cells hg1 (i * 2 + 1) _ (dcs_get s hi).2
          have c2 := h4.cells hg2 (i * 2) _ (dcs_get s hi).1
          have c3 := h4.cells hg2 (i * 2 + 1) _ (dcs_get s hi).2
          rw [addr_add] at c0 c1 c2 c3
          exact ⟨g1, g2, rfl, rfl, c0, c1, c2, c3⟩
        clear h3 h3' h4 hA3 hA4 hx HV b5 b6 hb6 hw5 hw4
        have B0 := Lib.hid (b0_lt s)
        go_wp2_with fail
        go_loopw [71] (fun i wr => ∃ k m : Nat, k ≤ b0 s ∧ i = .int .i64 k ∧ wr = w6.drewN m) (fun i _ => b0 s - (intOf i).toNat)
        case atStart => exact ⟨0, 0, Nat.zero_le _, rfl, rfl⟩
        case round =>
          obtain ⟨k, m, hk, rfl, rfl⟩ := hrel
          by_cases hlt : k < b0 s
          · obtain ⟨g1, g2, rfl, rfl, c0, c1, c2, c3⟩ := hcell k hlt
            have e0 : ((k : Int) < (b0 s : Int)) = True := eq_true (by omega)
            clear hcell
            go_wp2_with fail
            go_quiet (fail)
            go_wp2_with fail
            have ew : wrap64 ((k : Int) + 1) = (k : Int) + 1 := IntWalk.wrap64_in _ (by have := B0.out; omega)
            rw [ew]
            go_roundw
            case rel => exact ⟨k + 1, m + nq, by omega, by go_num, rfl⟩
            case measure => simp [intOf]; omega
          · obtain rfl : k = b0 s := by omega
            have e0 : ((b0 s : Int) < (b0 s : Int)) = False := eq_false (by omega)
            clear hcell
            go_wp2_with fail
            go_ret
            exact ⟨rfl, drewN_below hw6 _⟩
      · obtain rfl : e = .returned (.tuple #[.slice none 0 0, .int .i64 (decE s)]) := by
          rcases hx with ⟨v, k1, k2, k3⟩ | ⟨k1, k2⟩
          · exact absurd k1 h1
          · exact k2
        clear hx HV b5 b6 hb6 hw5 hw4
        go_wp2_with fail
        refine wp_loop_rounds 1 ?_
        rw [rounds_succ]
        go_wp2
        go_ret
        exact ⟨rfl, hw6⟩
end By
end Go.Proofs.Ytohphljhldcjbaa
