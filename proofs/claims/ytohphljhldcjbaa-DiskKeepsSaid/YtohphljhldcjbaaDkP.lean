/- 'DiskKeeps': the disk with one file, which only grows. -/
import Derived.Test.YtohphljhldcjbaaDkM
namespace Go.Proofs.Ytohphljhldcjbaa
set_option linter.unusedVariables false
set_option linter.unusedSimpArgs false
open Go.RowKit Go.Maps
namespace Dk

def logN : ByteArray := ⟨#[108, 111, 103]⟩

/-- The disk behind n appends to one file: what is sure of it, and all of it. -/
def Log (w0 w : World) (g n : Nat) (sure all : ByteArray) : Prop :=
  ∃ bs bn loose S N L made, Dsk (fun k => w0.heap.size ≤ k) w g bs bn loose S N L made (.slice none 0 0) false ∧ Tidy S ∧ Small S ∧ Plays S L ∧ N = fold S L ∧ Apps logN S L ∧ get S logN = sure ∧ get N logN = all ∧
    Maps.size S ≤ n ∧ Maps.size N ≤ n ∧ Small N ∧ Tidy N ∧ L.length ≤ n ∧ made ≤ n ∧ Below w0.heap.size w0 w

/-- The disk behind a fall. -/
def Fell (w0 w : World) (g : Nat) (sure all : ByteArray) (dead : Bool) : Prop :=
  ∃ bs bn made S, Dsk (fun k => w0.heap.size ≤ k) w g bs bn (.slice none 0 0) S S [] made (.slice none 0 0) dead ∧ Pre sure (get S logN) ∧ Pre (get S logN) all ∧ (Maps.has S (key logN) = false → sure = .empty) ∧ Below w0.heap.size w0 w

theorem get_has_not {D : FS} {n : ByteArray} (h : Maps.has D (key n) = false) : get D n = .empty := by
  unfold get
  have e : D.atKey (key n) (.lit (.string [])) = .lit (.string []) := by
    cases D <;> try rfl
    rename_i es
    simp only [has_eq, List.any_eq_false] at h
    have h1 : es.find? (fun p => p.1.sameKey (key n)) = none := by
      rw [List.find?_eq_none]
      exact h
    simp only [DataW.atKey, h1]
  rw [e]
  rfl

section
variable {w0 w : World} {g n : Nat} {sure all : ByteArray}
theorem log_new (w : World) : Calls Try.prog 21 #[] w fun e w' => e = .returned (.pointer (some ⟨w.heap.size + 2, 0, none⟩)) ∧ Log w w' (w.heap.size + 2) 0 .empty .empty := by
  refine (new_dsk w).mono fun e w' ⟨he, hd, hg⟩ => ⟨he, ?_⟩
  exact ⟨_, _, _, none_, none_, [], 0, hd, tidy_none, small_none, plays_nil _, rfl, apps_nil _ _, rfl, rfl, Nat.le_of_eq size_none, Nat.le_of_eq size_none, small_none, tidy_none, Nat.le_refl _, Nat.le_refl _, Chgd.below (Chgd.new hg) (Nat.le_refl _)⟩

theorem Log.step (h : Log w0 w g n sure all) {w' : World} (hg : w.grownBy w' none) : Log w0 w' g n sure all := by
  obtain ⟨bs, bn, loose, S, N, L, made, hd, hr⟩ := h
  obtain ⟨a1, a2, a3, a4, a5, a6, a7, a8, a9, a10, a11, a12, a13, hb⟩ := hr
  exact ⟨bs, bn, loose, S, N, L, made, hd.step hg, a1, a2, a3, a4, a5, a6, a7, a8, a9, a10, a11, a12, a13, hb.trans (Below.of_grown hg hb.size (by simp))⟩
theorem Log.below (h : Log w0 w g n sure all) : Below w0.heap.size w0 w := by
  obtain ⟨bs, bn, loose, S, N, L, made, hd, a1, a2, a3, a4, a5, a6, a7, a8, a9, a10, a11, a12, a13, hb⟩ := h
  exact hb
theorem Log.small (h : Log w0 w g n sure all) : all.size ≤ 16777216 := by
  obtain ⟨bs, bn, loose, S, N, L, made, hd, a1, a2, a3, a4, a5, a6, a7, a8, a9, a10, a11, a12, a13, hb⟩ := h
  rw [← a7]
  exact a10 _

def Appended (w0 : World) (g n : Nat) (sure all : ByteArray) (e : Ending) (w' : World) : Prop := e = .returned (.int .i64 0) ∧ Log w0 w' g n sure all

theorem log_append (h : Log w0 w g n sure all) (s : ByteArray) (hs : all.size + s.size ≤ 16777216) (hn : n ≤ 50) :
    Calls Try.prog 23 #[.pointer (some ⟨g, 0, none⟩), .string logN, .string s] w (Appended w0 g (n + 1) sure (all ++ s)) := by
  obtain ⟨bs, bn, loose, S, N, L, made, hd, a1, a2, a3, a4, a5, a6, a7, a8, a9, a10, a11, a12, a13, hb⟩ := h
  subst a7
  have hm : May N ⟨0, logN, .empty, (get N logN).size, s⟩ := ⟨by show (0 : Nat) ≤ 3; decide, by show logN.size ≤ 32; decide, by show ByteArray.empty.size ≤ 32; decide, by show s.size ≤ _; omega, fun _ => Nat.le_refl _, fun _ => by show (get N logN).size + s.size ≤ _; omega⟩
  refine (append_ok hd logN s (by decide +kernel) hs (.inr (by omega)) a10 (by omega) (by omega) (by omega) (fun k hk => Nat.le_trans hb.size hk) (calm_nil hd false)).mono fun e w' hx => ?_
  obtain ⟨he, l, hd', hc⟩ := hx
  have hdo := do_app (c := ⟨0, logN, .empty, (get N logN).size, s⟩) a11.isMap rfl rfl rfl
  refine ⟨he, bs, bn, l, S, _, _, made + 1, hd', a1, a2, plays_snoc a3 (by rw [← a4]; exact hm), ?_, apps_snoc a5 rfl rfl (by rw [← a4]), a6, hdo.1, by omega, ?_, small_do a11.isMap a10 hm, tidy_do a11 _, by simp; omega, by omega, hb.trans (Chgd.below hc hb.size)⟩
  · rw [fold_snoc, ← a4]
  · exact Nat.le_trans (size_do a11 _) (by omega)

theorem log_full (h : Log w0 w g n sure all) (s : ByteArray) (hs : 16777216 < all.size + s.size) (hss : s.size ≤ 9223372036854775807) (hn : n ≤ 50) :
    Calls Try.prog 23 #[.pointer (some ⟨g, 0, none⟩), .string logN, .string s] w fun e w' => e = .returned (.int .i64 71) ∧ w.grownBy w' none := by
  have hsm := h.small
  obtain ⟨bs, bn, loose, S, N, L, made, hd, a1, a2, a3, a4, a5, a6, a7, a8, a9, a10, a11, a12, a13, hb⟩ := h
  subst a7
  exact append_full hd logN s (by decide +kernel) hss hsm (by omega) hs

theorem log_sync (h : Log w0 w g n sure all) (hn : n ≤ 50) : Calls Try.prog 24 #[.pointer (some ⟨g, 0, none⟩)] w (Appended w0 g n all all) := by
  obtain ⟨bs, bn, loose, S, N, L, made, hd, a1, a2, a3, a4, a5, a6, a7, a8, a9, a10, a11, a12, a13, hb⟩ := h
  refine (sync_ok hd a1 a2 a3 (by omega) (by omega) (calm_nil hd true)).mono fun e w' hx => ?_
  obtain ⟨he, l, hd', hc⟩ := hx
  rw [← a4] at hd'
  exact ⟨he, bs, bn, l, N, N, [], made, hd', a11, a10, plays_nil _, rfl, apps_nil _ _, a7, a7, a9, a9, a10, a11, Nat.zero_le _, a13, hb.trans (Chgd.below hc hb.size)⟩

def Crashed (w0 : World) (g : Nat) (sure all : ByteArray) (e : Ending) (w' : World) : Prop := e = .returned (.tuple #[]) ∧ Fell w0 w' g sure all true

theorem log_crash (h : Log w0 w g n sure all) (hn : n ≤ 50) (keep tn : Int) : Calls Try.prog 25 #[.pointer (some ⟨g, 0, none⟩), .int .i64 keep, .int .i64 tn] w (Crashed w0 g sure all) := by
  obtain ⟨bs, bn, loose, S, N, L, made, hd, a1, a2, a3, a4, a5, a6, a7, a8, a9, a10, a11, a12, a13, hb⟩ := h
  refine (crash_any hd a1 a2 a3 (by omega) (by omega) (fun k hk => Nat.le_trans hb.size hk) keep tn).mono fun e w' hx => ?_
  obtain ⟨he, bn', hd', hc⟩ := hx
  obtain ⟨f1, f2, f3⟩ := fall_between a1.isMap a5 (stay keep L.length) tn
  rw [a6] at f1
  rw [← a4, a7] at f2
  refine ⟨he, bs, bn', made, _, hd', f1, f2, fun hno => ?_, hb.trans (Chgd.below hc hb.size)⟩
  rw [← a6]
  refine get_has_not ?_
  by_cases hS : Maps.has S (key logN) = true
  · rw [f3 hS] at hno; cases hno
  · simpa using hS

def Came (w0 : World) (g : Nat) (sure all : ByteArray) (e : Ending) (w' : World) : Prop := e = .returned (.bool true) ∧ Fell w0 w' g sure all false
theorem log_up (h : Fell w0 w g sure all true) : Calls Try.prog 26 #[.pointer (some ⟨g, 0, none⟩)] w (Came w0 g sure all) := by
  obtain ⟨bs, bn, made, S, hd, b1, b2, b3, hb⟩ := h
  refine (up_dsk hd).mono fun e w' hx => ?_
  obtain ⟨he, hd', hc⟩ := hx
  exact ⟨he, bs, bn, made, S, hd', b1, b2, b3, hb.trans (Chgd.below hc hb.size)⟩

/-- What reading tells: none, and nothing was sure; or a text between what was sure and all. -/
theorem log_read (h : Fell w0 w g sure all false) :
    (sure = .empty ∧ Calls Try.prog 27 #[.pointer (some ⟨g, 0, none⟩), .string logN] w fun e w' => e = .returned (.tuple #[.string .empty, .int .i64 2]) ∧ w.grownBy w' none) ∨
    (∃ s, Pre sure s ∧ Pre s all ∧ Calls Try.prog 27 #[.pointer (some ⟨g, 0, none⟩), .string logN] w fun e w' => e = .returned (.tuple #[.string s, .int .i64 0]) ∧ w.grownBy w' none) := by
  obtain ⟨bs, bn, made, S, hd, b1, b2, b3, hb⟩ := h
  by_cases hS : Maps.has S (key logN) = true
  · exact .inr ⟨_, b1, b2, read_of logN (there_ok hd logN (by decide +kernel) hS)⟩
  · have hS' : Maps.has S (key logN) = false := by simpa using hS
    exact .inl ⟨b3 hS', read_of logN (there_none hd logN (by decide +kernel) hS')⟩
end
end Dk
end Go.Proofs.Ytohphljhldcjbaa
