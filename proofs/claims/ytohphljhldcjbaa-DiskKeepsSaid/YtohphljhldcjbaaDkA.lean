/- The disk's files: a map of texts by names; what a change does to it. -/
import Derived.Test.YtohphljhldcjbaaBase
import Derived.Maps.StringElems
import Derived.Shelf.SlMaps.Clone
import Derived.StringKeys
import Derived.IntWalk
namespace Go.Proofs.Ytohphljhldcjbaa
open Go.RowKit Go.Maps
namespace Dk

theorem law9 : Keyed Try.prog 9 := string_keyed Try.underlying9
theorem zero9 (w : World) : (zeroValue 9).run Try.prog w = .ok (.string .empty) w := by kernel_rfl

/-- The files, as a map reads: by names. -/
abbrev FS := DataW Unit
def key (n : ByteArray) : Lit := .string n.data.toList
def text (s : ByteArray) : FS := .lit (.string s.data.toList)
/-- A file's bytes; none: no bytes. -/
def get (D : FS) (n : ByteArray) : ByteArray :=
  match D.atKey (key n) (.lit (.string [])) with
  | .lit (.string l) => ⟨l.toArray⟩
  | _ => .empty
abbrev Owns (w : World) (b : Nat) (n : Nat) (D : FS) : Prop := w.ownsMap Try.prog 9 (plainElem Try.prog 9) b n D

theorem look {w : World} {b n : Nat} {D : FS} (h : Owns w b n D) {name : ByteArray} (hk : name.size ≤ maxLen) :
    (Instr.lookup 140 (.map (some b)) (.string name) false).run Try.prog w = .ok (.string (get D name)) w ∧ D.atKey (key name) (.lit (.string [])) = text (get D name) ∧ (get D name).size ≤ maxLen := by
  have hz : plainElem (H := Unit) Try.prog 9 (.string .empty) = some (.lit (.string []), []) := plainElem_string Try.underlying9 (by decide)
  obtain ⟨v, ps, hrun, hR⟩ := h.lookup law9 Try.underlying140 (zero9 w) hz (Go.WideMaps.keyOf_string_mk Try.underlying9 hk)
  obtain ⟨s, rfl, hs, hl⟩ := plainElem_string_inv Try.underlying9 hR
  simp only [Prod.mk.injEq] at hs
  have hg : get D name = s := by
    unfold get key
    rw [hs.1]
  rw [hg]
  exact ⟨hrun, hs.1, hl⟩

/-- What a Write makes of a file. -/
def laid (old : ByteArray) (at_ : Nat) (s : ByteArray) : ByteArray := old.extract 0 at_ ++ s ++ old.extract (min old.size (at_ + s.size)) old.size

theorem size_put_le {w : World} {b n : Nat} {D : FS} (h : Owns w b n D) : n ≤ n := Nat.le_refl _


theorem ext_le (old : ByteArray) (i j : Nat) : (old.extract i j).size ≤ old.size := by
  rw [ByteArray.size_extract]
  omega

set_option maxHeartbeats 1000000 in
set_option maxRecDepth 100000 in
theorem do_write_over (b n : Nat) (D : FS) (name to s : ByteArray) (at_ : Nat) (w : World) (hown : Owns w b n D) (hn : n < maxLen) (hname : name.size ≤ maxLen)
    (ha : at_ ≤ (get D name).size) (hs : s.size ≤ 16777216) (hold : (get D name).size ≤ 16777216) (hm : (get D name).size ≤ at_ + s.size) :
    Calls Try.prog 76 #[.map (some b), .agg #[.int .i64 0, .string name, .string to, .int .i64 at_, .string s]] w fun e w' => e = .returned (.tuple #[]) ∧
      Owns w' b (n + 1) (D.put (key name) (text ((get D name).extract 0 at_ ++ s))) ∧ w.grownBy w' (some b) := by
  have hlt := hown.lt
  have hown1 := hown.alloc (.cells #[.int .i64 0, .string name, .string to, .int .i64 at_, .string s] 147)
  have hrun := (look hown1 hname).1
  generalize hg : get D name = old at *
  have G := Lib.hid hg
  clear hg
  have l1 := ext_le old 0 at_
  have l2 := ext_le old old.size old.size
  have l3 : (old.extract 0 at_ ++ s).size = (old.extract 0 at_).size + s.size := ByteArray.size_append
  have L3 := Lib.hid l3
  have hadd1 : ∀ W : World, (Op.stringOp .add (old.extract 0 at_) s).run Try.prog W = .ok (.string (old.extract 0 at_ ++ s)) W := fun W => run_string_add_sum W _ _ (by omega)
  have hadd2 : ∀ W : World, (Op.stringOp .add (old.extract 0 at_ ++ s) ByteArray.empty).run Try.prog W = .ok (.string (old.extract 0 at_ ++ s)) W := fun W => by
    have h := run_string_add_sum (P := Try.prog) W (old.extract 0 at_ ++ s) .empty (by rw [l3]; simp; omega)
    rw [ByteArray.append_empty] at h
    exact h
  have l5 : (old.extract 0 at_ ++ s).size ≤ maxLen := by rw [ByteArray.size_append]; unfold maxLen; omega
  clear l3
  have hkey := Go.WideMaps.keyOf_string_mk Try.underlying9 hname
  have hval := plainElem_string (H := Unit) Try.underlying9 l5
  clear l1 l2 l5
  go_enter Try.func76, Try.ntmps76
  go_wp2_with fail
  have hb0 : Whole (w.alloc (.cells #[.int .i64 0, .string name, .string to, .int .i64 at_, .string s] 147)) w.heap.size 147 #[.int .i64 0, .string name, .string to, .int .i64 at_, .string s] := Whole.fresh _ _ _
  have hg0 : w.grownBy (w.alloc (.cells #[.int .i64 0, .string name, .string to, .int .i64 at_, .string s] 147)) (some b) := grown_alloc (grown_refl _ _) _
  clear hrun
  generalize (w.alloc (.cells #[.int .i64 0, .string name, .string to, .int .i64 at_, .string s] 147)) = W at hown1 hb0 hg0 ⊢
  refine wp_region_still_tail 22 (by kernel_rfl) (by kernel_rfl) ?_
  have ew : ({ heap := W.heap, tape := W.tape, drawn := W.drawn + 1, os := W.os, output := W.output } : World) = W.drew := rfl
  rw [ew]
  clear ew
  have hb1 := hb0.drew
  have hown2 := hown1.drew
  have hg1 := grown_drew hg0
  clear hb0 hown1 hg0
  generalize W.drew = W2 at hb1 hown2 hg1 ⊢
  have c1 : W2.cell? ⟨w.heap.size, 1, none⟩ = some (.string name) := hb1.cell 1
  have c3 : W2.cell? ⟨w.heap.size, 3, none⟩ = some (.int .i64 at_) := hb1.cell 3
  have c4 : W2.cell? ⟨w.heap.size, 4, none⟩ = some (.string s) := hb1.cell 4
  have e0 : ((at_ : Int) + (s.size : Int) < (old.size : Int)) = False := eq_false (by omega)
  have e1 : IntKind.i64.wrap ((at_ : Int) + (s.size : Int)) = (at_ : Int) + (s.size : Int) := IntWalk.i64_in _ (by omega)
  have e2 : ((at_ : Int) + (s.size : Int)).toNat = at_ + s.size := by omega
  simp only [List.take_succ_cons, List.take_zero, List.drop_succ_cons, List.drop_zero]
  repeat still_step
  all_goals (try refine wpStill_nil ?_)
  all_goals go_wp2_with (at_mapUpdate; refine wpList_mapUpdate_own _ rfl _ _ _ 140 rfl 9 9 law9 Try.underlying140 _ b n D rfl hown2 hn _ _ _ rfl rfl hkey _ [] hval ?_; intro w3 hown3 hgrow3)
  all_goals go_end0
  all_goals exact ⟨rfl, hown3, hg1.trans hgrow3⟩
set_option maxHeartbeats 1000000 in
set_option maxRecDepth 100000 in
theorem do_write_in (b n : Nat) (D : FS) (name to s : ByteArray) (at_ : Nat) (w : World) (hown : Owns w b n D) (hn : n < maxLen) (hname : name.size ≤ maxLen)
    (ha : at_ ≤ (get D name).size) (hs : s.size ≤ 16777216) (hold : (get D name).size ≤ 16777216) (hm : at_ + s.size < (get D name).size) :
    Calls Try.prog 76 #[.map (some b), .agg #[.int .i64 0, .string name, .string to, .int .i64 at_, .string s]] w fun e w' => e = .returned (.tuple #[]) ∧
      Owns w' b (n + 1) (D.put (key name) (text ((get D name).extract 0 at_ ++ s ++ (get D name).extract (at_ + s.size) (get D name).size))) ∧ w.grownBy w' (some b) := by
  have hlt := hown.lt
  have hown1 := hown.alloc (.cells #[.int .i64 0, .string name, .string to, .int .i64 at_, .string s] 147)
  have hrun := (look hown1 hname).1
  generalize hg : get D name = old at *
  have G := Lib.hid hg
  clear hg
  have l1 := ext_le old 0 at_
  have l2 := ext_le old (at_ + s.size) old.size
  have l3 : (old.extract 0 at_ ++ s).size = (old.extract 0 at_).size + s.size := ByteArray.size_append
  have L3 := Lib.hid l3
  have hadd1 : ∀ W : World, (Op.stringOp .add (old.extract 0 at_) s).run Try.prog W = .ok (.string (old.extract 0 at_ ++ s)) W := fun W => run_string_add_sum W _ _ (by omega)
  have hadd2 : ∀ W : World, (Op.stringOp .add (old.extract 0 at_ ++ s) (old.extract (at_ + s.size) old.size)).run Try.prog W = .ok (.string (old.extract 0 at_ ++ s ++ old.extract (at_ + s.size) old.size)) W := fun W => run_string_add_sum W _ _ (by omega)
  have l5 : (old.extract 0 at_ ++ s ++ old.extract (at_ + s.size) old.size).size ≤ maxLen := by rw [ByteArray.size_append]; unfold maxLen; omega
  clear l3
  have hkey := Go.WideMaps.keyOf_string_mk Try.underlying9 hname
  have hval := plainElem_string (H := Unit) Try.underlying9 l5
  clear l1 l2 l5
  go_enter Try.func76, Try.ntmps76
  go_wp2_with fail
  have hb0 : Whole (w.alloc (.cells #[.int .i64 0, .string name, .string to, .int .i64 at_, .string s] 147)) w.heap.size 147 #[.int .i64 0, .string name, .string to, .int .i64 at_, .string s] := Whole.fresh _ _ _
  have hg0 : w.grownBy (w.alloc (.cells #[.int .i64 0, .string name, .string to, .int .i64 at_, .string s] 147)) (some b) := grown_alloc (grown_refl _ _) _
  clear hrun
  generalize (w.alloc (.cells #[.int .i64 0, .string name, .string to, .int .i64 at_, .string s] 147)) = W at hown1 hb0 hg0 ⊢
  refine wp_region_still_tail 22 (by kernel_rfl) (by kernel_rfl) ?_
  have ew : ({ heap := W.heap, tape := W.tape, drawn := W.drawn + 1, os := W.os, output := W.output } : World) = W.drew := rfl
  rw [ew]
  clear ew
  have hb1 := hb0.drew
  have hown2 := hown1.drew
  have hg1 := grown_drew hg0
  clear hb0 hown1 hg0
  generalize W.drew = W2 at hb1 hown2 hg1 ⊢
  have c1 : W2.cell? ⟨w.heap.size, 1, none⟩ = some (.string name) := hb1.cell 1
  have c3 : W2.cell? ⟨w.heap.size, 3, none⟩ = some (.int .i64 at_) := hb1.cell 3
  have c4 : W2.cell? ⟨w.heap.size, 4, none⟩ = some (.string s) := hb1.cell 4
  have e0 : ((at_ : Int) + (s.size : Int) < (old.size : Int)) = True := eq_true (by omega)
  have e3 : (0 ≤ (at_ : Int) + (s.size : Int)) = True := eq_true (by omega)
  have e4 : ((at_ : Int) + (s.size : Int) ≤ (old.size : Int)) = True := eq_true (by omega)
  have e1 : IntKind.i64.wrap ((at_ : Int) + (s.size : Int)) = (at_ : Int) + (s.size : Int) := IntWalk.i64_in _ (by omega)
  have e2 : ((at_ : Int) + (s.size : Int)).toNat = at_ + s.size := by omega
  simp only [List.take_succ_cons, List.take_zero, List.drop_succ_cons, List.drop_zero]
  repeat still_step
  all_goals (try refine wpStill_nil ?_)
  all_goals go_wp2_with (at_mapUpdate; refine wpList_mapUpdate_own _ rfl _ _ _ 140 rfl 9 9 law9 Try.underlying140 _ b n D rfl hown2 hn _ _ _ rfl rfl hkey _ [] hval ?_; intro w3 hown3 hgrow3)
  all_goals go_end0
  all_goals exact ⟨rfl, hown3, hg1.trans hgrow3⟩
/-- A Write, at whatever place of a file. -/
theorem do_write (b n : Nat) (D : FS) (name to s : ByteArray) (at_ : Nat) (w : World) (hown : Owns w b n D) (hn : n < maxLen) (hname : name.size ≤ maxLen)
    (ha : at_ ≤ (get D name).size) (hs : s.size ≤ 16777216) (hold : (get D name).size ≤ 16777216) :
    Calls Try.prog 76 #[.map (some b), .agg #[.int .i64 0, .string name, .string to, .int .i64 at_, .string s]] w fun e w' => e = .returned (.tuple #[]) ∧
      Owns w' b (n + 1) (D.put (key name) (text (laid (get D name) at_ s))) ∧ w.grownBy w' (some b) := by
  unfold laid
  rcases Nat.lt_or_ge (at_ + s.size) (get D name).size with h | h
  · rw [Nat.min_eq_right (Nat.le_of_lt h)]
    exact do_write_in b n D name to s at_ w hown hn hname ha hs hold h
  · have e : (get D name).extract (get D name).size (get D name).size = ByteArray.empty := by simp
    rw [Nat.min_eq_left h, e, ByteArray.append_empty]
    exact do_write_over b n D name to s at_ w hown hn hname ha hs hold h
end Dk
end Go.Proofs.Ytohphljhldcjbaa
