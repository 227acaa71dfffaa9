/- The disk's changes: what each does to the files; the files' block, whatever its bound. -/
import Derived.Test.YtohphljhldcjbaaDkB
namespace Go.Proofs.Ytohphljhldcjbaa
open Go.RowKit Go.Maps
namespace Dk

/-- A change. -/
structure Chg where
  k : Nat
  name : ByteArray
  to : ByteArray
  at_ : Nat
  s : ByteArray

def Chg.val (c : Chg) : Value := .agg #[.int .i64 c.k, .string c.name, .string c.to, .int .i64 c.at_, .string c.s]
def Chg.cells (c : Chg) : List Value := [.int .i64 c.k, .string c.name, .string c.to, .int .i64 c.at_, .string c.s]

/-- The files behind a change. -/
def doC (D : FS) (c : Chg) : FS :=
  if c.k = 0 then D.put (key c.name) (text (laid (get D c.name) c.at_ c.s))
  else if c.k = 1 then D.put (key c.name) (text ((get D c.name).extract 0 c.at_))
  else if c.k = 2 then (D.del (key c.name)).put (key c.to) (text (get D c.name))
  else D.del (key c.name)

/-- No file is longer than may be. -/
def Small (D : FS) : Prop := ∀ n, (get D n).size ≤ 16777216

/-- A change that may be, at these files. -/
structure May (D : FS) (c : Chg) : Prop where
  kind : c.k ≤ 3
  name : c.name.size ≤ 32
  to : c.to.size ≤ 32
  s : c.s.size ≤ 16777216
  at_ : c.k ≤ 1 → c.at_ ≤ (get D c.name).size
  room : c.k = 0 → c.at_ + c.s.size ≤ 16777216

/-- Files in a block. -/
def Files (w : World) (b : Nat) (D : FS) : Prop := ∃ n, Owns w b n D

section
variable {w w' : World} {b n : Nat} {D : FS}
theorem Owns.exact (h : Owns w b n D) : Owns w b (Maps.size D) D := by
  obtain ⟨es, clock, hb, F, _, rfl⟩ := h
  refine ⟨es, clock, hb, F, ?_, rfl⟩
  show es.size ≤ List.length _
  rw [length_sorted]
  simp
theorem Files.owns (h : Files w b D) : Owns w b (Maps.size D) D := let ⟨_, h⟩ := h; Owns.exact h
theorem Files.lt (h : Files w b D) : b < w.heap.size := let ⟨_, h⟩ := h; World.ownsMap.lt h
theorem Files.grown {row : Option Nat} (h : Files w b D) (hg : w.grownBy w' row) (hne : some b ≠ row) : Files w' b D := let ⟨n, h⟩ := h; ⟨n, World.ownsMap.kept h hg hne⟩
theorem Files.isMap (h : Files w b D) : IsMap D := World.ownsMap.isMap h.owns
theorem Files.look (h : Files w b D) {name : ByteArray} (hk : name.size ≤ maxLen) : (Instr.lookup 140 (.map (some b)) (.string name) false).run Try.prog w = .ok (.string (get D name)) w := (Dk.look h.owns hk).1
end

theorem le_max {n : Nat} (h : n ≤ 16777216) : n ≤ maxLen := by unfold maxLen; omega

/-- files.do: a change that may be. -/
theorem do_any {w : World} {b : Nat} {D : FS} (h : Files w b D) (hn : Maps.size D ≤ 16777216) (c : Chg) (hm : May D c) (hs : Small D) :
    Calls Try.prog 76 #[.map (some b), c.val] w fun e w' => e = .returned (.tuple #[]) ∧ Files w' b (doC D c) ∧ w.grownBy w' (some b) := by
  have hn' : Maps.size D < maxLen := by unfold maxLen; omega
  have hname := le_max (n := c.name.size) (by have := hm.name; omega)
  have hto := le_max (n := c.to.size) (by have := hm.to; omega)
  have hk := hm.kind
  obtain ⟨k, name, to, at_, s⟩ := c
  simp only at hk hname hto
  unfold doC Chg.val
  simp only
  rcases (by omega : k = 0 ∨ k = 1 ∨ k = 2 ∨ k = 3) with rfl | rfl | rfl | rfl
  · exact (do_write b _ D name to s at_ w h.owns hn' hname (hm.at_ (by simp)) hm.s (hs _)).mono fun e w' ⟨h1, h2, h3⟩ => ⟨h1, ⟨_, h2⟩, h3⟩
  · exact (do_cut b _ D name to s at_ w h.owns hn' hname (hm.at_ (by simp)) (hs _)).mono fun e w' ⟨h1, h2, h3⟩ => ⟨h1, ⟨_, h2⟩, h3⟩
  · exact (do_move b _ D name to s at_ w h.owns hn' hname hto).mono fun e w' ⟨h1, h2, h3⟩ => ⟨h1, ⟨_, h2⟩, h3⟩
  · exact (do_remove b _ D name to s at_ w h.owns hname).mono fun e w' ⟨h1, h2, h3⟩ => ⟨h1, ⟨_, h2⟩, h3⟩

/-! What a file holds behind a change. -/
theorem get_put_same {D : FS} (h : IsMap D) (n s : ByteArray) : get (D.put (key n) (text s)) n = s := by
  unfold get
  rw [atKey_put_same h (by exact trivial)]
  rfl
theorem get_put_other {D : FS} {n m : ByteArray} (hne : m ≠ n) (s : ByteArray) : get (D.put (key n) (text s)) m = get D m := by
  have hk : key m ≠ key n := by
    intro e
    apply hne
    unfold key at e
    injection e with e
    exact ByteArray.ext (Array.ext' e)
  unfold get
  rw [atKey_put_other hk]
theorem get_del_same (D : FS) (n : ByteArray) : get (D.del (key n)) n = .empty := by
  unfold get
  rw [atKey_del_same]
  rfl
theorem get_del_other {D : FS} {n m : ByteArray} (hne : m ≠ n) : get (D.del (key n)) m = get D m := by
  have hk : key m ≠ key n := by
    intro e
    apply hne
    unfold key at e
    injection e with e
    exact ByteArray.ext (Array.ext' e)
  unfold get
  rw [atKey_del_other hk]

theorem isMap_do {D : FS} (h : IsMap D) (c : Chg) : IsMap (doC D c) := by
  unfold doC
  split
  · exact h.put _ _
  split
  · exact h.put _ _
  split
  · exact (h.del _).put _ _
  · exact h.del _

theorem laid_size (old s : ByteArray) (a : Nat) (h : a ≤ old.size) : (laid old a s).size = max old.size (a + s.size) := by
  unfold laid
  rw [ByteArray.size_append, ByteArray.size_append, ByteArray.size_extract, ByteArray.size_extract]
  omega

theorem small_do {D : FS} (h : IsMap D) (hs : Small D) {c : Chg} (hm : May D c) : Small (doC D c) := by
  intro m
  unfold doC
  split
  · rename_i hk
    by_cases e : m = c.name
    · subst e
      rw [get_put_same h, laid_size _ _ _ (hm.at_ (by omega))]
      have := hs c.name
      have := hm.room hk
      omega
    · rw [get_put_other e]; exact hs m
  split
  · by_cases e : m = c.name
    · subst e
      rw [get_put_same h]
      exact Nat.le_trans (ext_le _ _ _) (hs _)
    · rw [get_put_other e]; exact hs m
  split
  · by_cases e : m = c.to
    · subst e
      rw [get_put_same (h.del _)]
      exact hs _
    · rw [get_put_other e]
      by_cases e' : m = c.name
      · subst e'; rw [get_del_same]; simp
      · rw [get_del_other e']; exact hs m
  · by_cases e' : m = c.name
    · subst e'; rw [get_del_same]; simp
    · rw [get_del_other e']; exact hs m
end Dk
end Go.Proofs.Ytohphljhldcjbaa
