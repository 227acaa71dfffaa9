/- The disk's awake: it returns true. -/
import Derived.Test.YtohphljhldcjbaaDkI
namespace Go.Proofs.Ytohphljhldcjbaa
set_option linter.unusedVariables false
set_option linter.unusedSimpArgs false
open Go.RowKit Go.Maps
namespace Dk

def none_ : FS := .map []
theorem tidy_none : Tidy none_ := tidy_empty
theorem get_none (n : ByteArray) : get none_ n = .empty := rfl
theorem small_none : Small none_ := fun n => by rw [get_none]; simp
theorem size_none : Maps.size none_ = 0 := rfl
theorem plays_nil (D : FS) : Plays D [] := fun k hk => absurd hk (by simp)
theorem plays_snoc {D : FS} {L : List Chg} {c : Chg} (h : Plays D L) (hm : May (fold D L) c) : Plays D (L ++ [c]) := by
  intro k hk
  rcases Nat.lt_or_ge k L.length with hlt | hge
  · have e1 : (L ++ [c]).take k = L.take k := List.take_append_of_le_length (by omega)
    have e2 : (L ++ [c])[k] = L[k] := List.getElem_append_left hlt
    rw [e1, e2]
    exact h k hlt
  · obtain rfl : k = L.length := by simp at hk; omega
    have e1 : (L ++ [c]).take L.length = L := List.take_left
    have e2 : (L ++ [c])[L.length]'hk = c := by simp
    rw [e1, e2]
    exact hm

theorem has_put_self {D : FS} (h : IsMap D) (n s : ByteArray) : Maps.has (D.put (key n) (text s)) (key n) = true := has_put_same h (by exact trivial) _

/-- A new disk. -/
theorem new_dsk (w : World) : Calls Try.prog 21 #[] w fun e w' => e = .returned (.pointer (some ⟨w.heap.size + 2, 0, none⟩)) ∧
    Dsk (fun k => w.heap.size ≤ k) w' (w.heap.size + 2) w.heap.size (w.heap.size + 1) (.slice none 0 0) none_ none_ [] 0 (.slice none 0 0) false ∧ w.grownBy w' none := by
  refine (new_disk w).mono fun e w' ⟨he, hw⟩ => ⟨he, ?_, ?_⟩
  · rw [hw]
    refine ⟨Whole.fresh_at _ _ _ (by simp), ⟨0, ((World.ownsMap_made w Try.prog 9 _).alloc _).alloc _⟩, ⟨0, ?_⟩, by omega, World.ownsRow_nil _ _ _ _, by omega, by omega, by omega, fun b hb => by simp [Value.ownBlock] at hb⟩
    have h := (World.ownsMap_made (H := Unit) (w.alloc (.map #[] 0)) Try.prog 9 (plainElem Try.prog 9)).alloc (.cells #[.map (some w.heap.size), .map (some (w.heap.size + 1)), .slice none 0 0, .int .i64 0, .slice none 0 0, .bool false] 143)
    have e : (w.alloc (.map #[] 0)).heap.size = w.heap.size + 1 := by simp
    rw [e] at h
    exact h
  · rw [hw]
    exact grown_alloc (grown_alloc (grown_alloc (grown_refl _ _) _) _) _

section
variable {ok : Nat → Prop} {w w' : World} {g bs bn : Nat} {loose : Value} {S S' N : FS} {L : List Chg} {made : Nat} {plan : Value} {dead : Bool}
theorem up_dsk (h : Dsk ok w g bs bn loose S N L made plan dead) : Calls Try.prog 26 #[.pointer (some ⟨g, 0, none⟩)] w fun e w' => e = .returned (.bool dead) ∧ Dsk ok w' g bs bn loose S N L made plan false ∧ Chgd ok w w' := by
  refine (up_any g dead w (h.core.cell 5) (h.core.thaw 5)).mono fun e w' ⟨he, hw⟩ => ⟨he, ?_⟩
  rw [hw]
  have hset : w.grownBy (w.setCell ⟨g, 5, none⟩ (.bool false)) (some g) := by
    refine grown_set ?_ (Or.inl rfl) _
    exact grown_refl _ _
  refine ⟨⟨?_, h.sure.grown hset (fun e => core_ne h.core h.sure (by injection e with e; exact e.symm)), h.now.grown hset (fun e => core_ne h.core h.now (by injection e with e; exact e.symm)), h.ne, h.row.kept hset (.inr (row_ne_whole h.row h.core (by decide))), h.okg, h.oks, h.okn, h.okl⟩, Chgd.of_grown hset (by simpa using h.okg)⟩
  have h1 := h.core.set_ 5 (.bool false)
  unfold Core
  simpa using h1

theorem append_ok (h : Dsk ok w g bs bn loose S N L made plan false) (name s : ByteArray) (hn : nameOk name = true) (hr : (get N name).size + s.size ≤ 16777216) (hf : Fits N name)
    (hs : Small N) (hz : Maps.size N ≤ 64) (hL : L.length ≤ 1000000) (hmade : made ≤ 1000000000) (hnew : ∀ k, w.heap.size ≤ k → ok k) (hcalm : Calm w g false) :
    Calls Try.prog 23 #[.pointer (some ⟨g, 0, none⟩), .string name, .string s] w (Ends ok w g bs bn S (doC N ⟨0, name, .empty, (get N name).size, s⟩) (L ++ [⟨0, name, .empty, (get N name).size, s⟩]) (made + 1) plan false 0) := by
  refine append_of h name s hn (fun W hW => ?_) (fun e w' hx => ⟨0, hx.1⟩)
  refine (write_ok (h.step hW) name s _ hn (Nat.le_refl _) hr hf hs hz hL hmade (fun k hk => hnew k (Nat.le_trans hW.size hk)) (fun W' hW' => hcalm W' (hW.trans hW'))).mono fun e w' hx => ?_
  obtain ⟨he, l, d, hc⟩ := hx
  exact ⟨he, l, d, (Chgd.new hW).trans hc⟩

theorem append_full (h : Dsk ok w g bs bn loose S N L made plan false) (name s : ByteArray) (hn : nameOk name = true) (hss : s.size ≤ 9223372036854775807) (hts : (get N name).size ≤ 16777216) (hz : Maps.size N ≤ 64) (hr : 16777216 < (get N name).size + s.size) :
    Calls Try.prog 23 #[.pointer (some ⟨g, 0, none⟩), .string name, .string s] w fun e w' => e = .returned (.int .i64 71) ∧ w.grownBy w' none := by
  refine append_of h name s hn (fun W hW => ?_) (fun e w' hx => ⟨71, hx.1⟩)
  exact (write_full (h.step hW) name s _ hn (Nat.le_refl _) hss hts hz (.inl hr)).mono fun e w' hx => ⟨hx.1, hW.trans hx.2⟩
end

def nameA : ByteArray := ⟨#[97]⟩
def textXY : ByteArray := ⟨#[120, 121]⟩
def textZ : ByteArray := ⟨#[122]⟩
def c1 : Chg := ⟨0, nameA, .empty, 0, textXY⟩
def c2 : Chg := ⟨0, nameA, .empty, 2, textZ⟩
theorem may1 : May none_ c1 := ⟨by decide, by decide, by decide, by decide, fun _ => by decide, fun _ => by decide⟩
def D1 : FS := doC none_ c1
theorem get1 : get D1 nameA = textXY := by decide +kernel
theorem has1 : Maps.has D1 (key nameA) = true := by decide +kernel
theorem small1 : Small D1 := small_do tidy_none.isMap small_none may1
theorem size1 : Maps.size D1 = 1 := by decide +kernel
theorem tidy1 : Tidy D1 := tidy_do tidy_none c1
theorem may2 : May D1 c2 := ⟨by decide, by decide, by decide, by decide, fun _ => by show 2 ≤ (get D1 nameA).size; rw [get1]; decide, fun _ => by decide⟩

theorem awake_ok (w : World) : Calls Try.prog 22 #[] w fun e w' => e = .returned (.bool true) ∧ Below w.heap.size w w' := by
  go_enter Try.func22, Try.ntmps22
  go_wp2_with fail
  refine (new_dsk w).mono ?_
  rintro e w1 ⟨rfl, d1, g1⟩
  have h1 : Chgd (fun k => w.heap.size ≤ k) w w1 := Chgd.new g1
  have hlt : w.heap.size ≤ w1.heap.size := g1.size
  clear g1
  go_wp2_with fail
  refine (write_ok d1 nameA textXY 0 (by decide +kernel) (by decide) (by decide) (.inr (by rw [size_none]; decide)) small_none (by rw [size_none]; decide) (by decide) (by decide) (fun k hk => by omega) (calm_nil d1 false)).mono ?_
  rintro e w2 ⟨rfl, l2, d2, h2⟩
  have hlt2 : w.heap.size ≤ w2.heap.size := Nat.le_trans hlt h2.size
  have h2' := h1.trans h2
  clear d1 h1 h2 hlt
  go_wp2_with fail
  refine (sync_ok d2 tidy_none small_none (plays_snoc (plays_nil _) may1) (by rw [size_none]; decide) (by decide) (calm_nil d2 true)).mono ?_
  rintro e w3 ⟨rfl, l3, d3, h3⟩
  have d3 : Dsk (fun k => w.heap.size ≤ k) w3 (w.heap.size + 2) w.heap.size (w.heap.size + 1) l3 D1 D1 [] 1 (.slice none 0 0) false := d3
  have hlt3 : w.heap.size ≤ w3.heap.size := Nat.le_trans hlt2 h3.size
  have h3' := h2'.trans h3
  clear d2 h2' h3 hlt2
  go_wp2_with fail
  have hap := append_ok d3 nameA textZ (by decide +kernel) (by rw [get1]; decide) (.inl has1) small1 (by rw [size1]; decide) (by decide) (by decide) (fun k hk => by omega) (calm_nil d3 false)
  rw [get1] at hap
  refine hap.mono ?_
  rintro e w4 ⟨rfl, l4, d4, h4⟩
  have d4 : Dsk (fun k => w.heap.size ≤ k) w4 (w.heap.size + 2) w.heap.size (w.heap.size + 1) l4 D1 (doC D1 c2) [c2] 2 (.slice none 0 0) false := d4
  have hlt4 : w.heap.size ≤ w4.heap.size := Nat.le_trans hlt3 h4.size
  have h4' := h3'.trans h4
  clear d3 h3' h4 hlt3 hap
  go_wp2_with fail
  refine (crash_any d4 tidy1 small1 (plays_snoc (L := []) (plays_nil _) may2) (by rw [size1]; decide) (by decide) (fun k hk => by omega) 0 0).mono ?_
  rintro e w5 ⟨rfl, bn5, d5, h5⟩
  have d5 : Dsk (fun k => w.heap.size ≤ k) w5 (w.heap.size + 2) w.heap.size bn5 (.slice none 0 0) D1 D1 [] 2 (.slice none 0 0) true := d5
  have hlt5 : w.heap.size ≤ w5.heap.size := Nat.le_trans hlt4 h5.size
  have h5' := h4'.trans h5
  clear d4 h4' h5 hlt4
  go_wp2_with fail
  refine (up_dsk d5).mono ?_
  rintro e w6 ⟨rfl, d6, h6⟩
  have hlt6 : w.heap.size ≤ w6.heap.size := Nat.le_trans hlt5 h6.size
  have h6' := h5'.trans h6
  clear d5 h5' h6 hlt5
  go_wp2_with fail
  refine (read_of nameA (there_ok d6 nameA (by decide +kernel) has1)).mono ?_
  rintro e w7 ⟨rfl, h7⟩
  have h7' := h6'.trans (Chgd.new h7)
  have hb := Chgd.below h7' (Nat.le_refl _)
  clear d6 h6' h7 h7'
  rw [get1]
  have htx : textXY.toList = [120, 121] := by decide +kernel
  go_wp2
  go_ret
  exact ⟨rfl, hb⟩
end Dk
end Go.Proofs.Ytohphljhldcjbaa
