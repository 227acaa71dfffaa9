/- The disk's files: cut, moved, removed. -/
import Derived.Test.YtohphljhldcjbaaDkA
namespace Go.Proofs.Ytohphljhldcjbaa
open Go.RowKit Go.Maps
namespace Dk

set_option maxHeartbeats 1000000 in
set_option maxRecDepth 100000 in
theorem do_cut (b n : Nat) (D : FS) (name to s : ByteArray) (at_ : Nat) (w : World) (hown : Owns w b n D) (hn : n < maxLen) (hname : name.size ≤ maxLen)
    (ha : at_ ≤ (get D name).size) (hold : (get D name).size ≤ 16777216) :
    Calls Try.prog 76 #[.map (some b), .agg #[.int .i64 1, .string name, .string to, .int .i64 at_, .string s]] w fun e w' => e = .returned (.tuple #[]) ∧
      Owns w' b (n + 1) (D.put (key name) (text ((get D name).extract 0 at_))) ∧ w.grownBy w' (some b) := by
  have hlt := hown.lt
  have hown1 := hown.alloc (.cells #[.int .i64 1, .string name, .string to, .int .i64 at_, .string s] 147)
  have l1 := ext_le (get D name) 0 at_
  have hkey := Go.WideMaps.keyOf_string_mk Try.underlying9 hname
  have hval := plainElem_string (H := Unit) Try.underlying9 (s := (get D name).extract 0 at_) (by unfold maxLen; omega)
  clear l1
  generalize hg : get D name = old at ha hold hval ⊢
  have G := Lib.hid hg
  clear hg
  go_enter Try.func76, Try.ntmps76
  go_wp2_with fail
  have hb0 : Whole (w.alloc (.cells #[.int .i64 1, .string name, .string to, .int .i64 at_, .string s] 147)) w.heap.size 147 #[.int .i64 1, .string name, .string to, .int .i64 at_, .string s] := Whole.fresh _ _ _
  have hg0 : w.grownBy (w.alloc (.cells #[.int .i64 1, .string name, .string to, .int .i64 at_, .string s] 147)) (some b) := grown_alloc (grown_refl _ _) _
  generalize (w.alloc (.cells #[.int .i64 1, .string name, .string to, .int .i64 at_, .string s] 147)) = W at hown1 hb0 hg0 ⊢
  refine wp_region_still_tail 10 (by kernel_rfl) (by kernel_rfl) ?_
  have ew : ({ heap := W.heap, tape := W.tape, drawn := W.drawn + 1, os := W.os, output := W.output } : World) = W.drew := rfl
  rw [ew]
  clear ew
  have hb1 := hb0.drew
  have hown2 := hown1.drew
  have hg1 := grown_drew hg0
  clear hb0 hown1 hg0
  generalize W.drew = W2 at hb1 hown2 hg1 ⊢
  have hrun := (look hown2 hname).1
  rw [G.out] at hrun
  have c1 : W2.cell? ⟨w.heap.size, 1, none⟩ = some (.string name) := hb1.cell 1
  have c3 : W2.cell? ⟨w.heap.size, 3, none⟩ = some (.int .i64 at_) := hb1.cell 3
  simp only [List.take_succ_cons, List.take_zero, List.drop_succ_cons, List.drop_zero]
  repeat still_step
  try refine wpStill_nil ?_
  go_wp2_with (at_mapUpdate; refine wpList_mapUpdate_own _ rfl _ _ _ 140 rfl 9 9 law9 Try.underlying140 _ b n D rfl hown2 hn _ _ _ rfl rfl hkey _ [] hval ?_; intro w3 hown3 hgrow3)
  go_end0
  exact ⟨rfl, hown3, hg1.trans hgrow3⟩

set_option maxHeartbeats 1000000 in
set_option maxRecDepth 100000 in
theorem do_remove (b n : Nat) (D : FS) (name to s : ByteArray) (at_ : Int) (w : World) (hown : Owns w b n D) (hname : name.size ≤ maxLen) :
    Calls Try.prog 76 #[.map (some b), .agg #[.int .i64 3, .string name, .string to, .int .i64 at_, .string s]] w fun e w' => e = .returned (.tuple #[]) ∧
      Owns w' b n (D.del (key name)) ∧ w.grownBy w' (some b) := by
  have hlt := hown.lt
  have hown1 := hown.alloc (.cells #[.int .i64 3, .string name, .string to, .int .i64 at_, .string s] 147)
  have hkey := Go.WideMaps.keyOf_string_mk Try.underlying9 hname
  go_enter Try.func76, Try.ntmps76
  go_wp2_with (at_delete; refine wpList_delete_own _ rfl _ _ 140 9 rfl 9 law9 Try.underlying140 _ b n D rfl hown1 _ _ rfl hkey ?_; intro w1 hown2 hturn1)
  go_end0
  exact ⟨rfl, hown2, (grown_alloc (grown_refl _ _) _).trans hturn1.grown⟩

set_option maxHeartbeats 1000000 in
set_option maxRecDepth 100000 in
theorem do_move (b n : Nat) (D : FS) (name to s : ByteArray) (at_ : Int) (w : World) (hown : Owns w b n D) (hn : n < maxLen) (hname : name.size ≤ maxLen) (hto : to.size ≤ maxLen) :
    Calls Try.prog 76 #[.map (some b), .agg #[.int .i64 2, .string name, .string to, .int .i64 at_, .string s]] w fun e w' => e = .returned (.tuple #[]) ∧
      Owns w' b (n + 1) ((D.del (key name)).put (key to) (text (get D name))) ∧ w.grownBy w' (some b) := by
  have hlt := hown.lt
  have hown1 := hown.alloc (.cells #[.int .i64 2, .string name, .string to, .int .i64 at_, .string s] 147)
  have hkey := Go.WideMaps.keyOf_string_mk Try.underlying9 hname
  have hkey2 := Go.WideMaps.keyOf_string_mk Try.underlying9 hto
  have hrun := (look hown1 hname).1
  have hval := plainElem_string (H := Unit) Try.underlying9 (look hown1 hname).2.2
  have hb0 : Whole (w.alloc (.cells #[.int .i64 2, .string name, .string to, .int .i64 at_, .string s] 147)) w.heap.size 147 #[.int .i64 2, .string name, .string to, .int .i64 at_, .string s] := Whole.fresh _ _ _
  generalize hg : get D name = old at hrun hval ⊢
  clear hg
  go_enter Try.func76, Try.ntmps76
  go_wp2_with (first | (at_delete; refine wpList_delete_own _ rfl _ _ 140 9 rfl 9 law9 Try.underlying140 _ b n D rfl hown1 _ _ rfl hkey ?_; intro w1 hown2 hturn1; have c2 : w1.cell? ⟨w.heap.size, 2, none⟩ = some (.string to) := (hb0.grown hturn1.grown (by simp; omega)).cell 2) | (at_mapUpdate; refine wpList_mapUpdate_own _ rfl _ _ _ 140 rfl 9 9 law9 Try.underlying140 _ b n _ rfl hown2 hn _ _ _ rfl rfl hkey2 _ [] hval ?_; intro w3 hown3 hgrow3))
  go_end0
  exact ⟨rfl, hown3, ((grown_alloc (grown_refl _ _) _).trans hturn1.grown).trans hgrow3⟩
end Dk
end Go.Proofs.Ytohphljhldcjbaa
