/- 'DiskKeeps', the plain law: where all that is loose are appends to one name, a fall leaves a text between what is sure and all. -/
import Derived.Test.YtohphljhldcjbaaDkJ
namespace Go.Proofs.Ytohphljhldcjbaa
open Go.RowKit Go.Maps
namespace Dk

/-- a begins b. -/
def Pre (a b : ByteArray) : Prop := ∃ c, b = a ++ c
theorem Pre.refl (a : ByteArray) : Pre a a := ⟨.empty, by simp⟩
theorem Pre.trans {a b c : ByteArray} (h : Pre a b) (k : Pre b c) : Pre a c := by
  obtain ⟨x, rfl⟩ := h
  obtain ⟨y, rfl⟩ := k
  exact ⟨x ++ y, by rw [ByteArray.append_assoc]⟩
theorem Pre.add (a b : ByteArray) : Pre a (a ++ b) := ⟨b, rfl⟩
theorem Pre.cut (a s : ByteArray) (n : Nat) : Pre (a ++ s.extract 0 n) (a ++ s) := by
  refine ⟨s.extract n s.size, ?_⟩
  rw [ByteArray.append_assoc]
  congr 1
  apply ByteArray.ext
  simp
theorem Pre.size {a b : ByteArray} (h : Pre a b) : a.size ≤ b.size := by
  obtain ⟨c, rfl⟩ := h
  simp

theorem laid_end (old s : ByteArray) : laid old old.size s = old ++ s := by
  unfold laid
  apply ByteArray.ext
  simp

/-- All of L are appends to this name. -/
def Apps (name : ByteArray) (D : FS) (L : List Chg) : Prop := ∀ k (hk : k < L.length), L[k].k = 0 ∧ L[k].name = name ∧ L[k].at_ = (get (fold D (L.take k)) name).size

theorem do_app {D : FS} (h : IsMap D) {c : Chg} {name : ByteArray} (hk : c.k = 0) (hn : c.name = name) (ha : c.at_ = (get D name).size) : get (doC D c) name = get D name ++ c.s ∧ Maps.has (doC D c) (key name) = true := by
  subst hn
  have e : doC D c = D.put (key c.name) (text (laid (get D c.name) c.at_ c.s)) := by
    unfold doC
    simp [hk]
  rw [e, ha, laid_end]
  exact ⟨get_put_same h _ _, has_put_self h _ _⟩

theorem fold_isMap {D : FS} (h : IsMap D) (L : List Chg) : IsMap (fold D L) := by
  induction L generalizing D with
  | nil => exact h
  | cons c L ih => exact ih (isMap_do h c)

theorem pre_take {D : FS} (h : IsMap D) {L : List Chg} {name : ByteArray} (ha : Apps name D L) : ∀ n k, k + n ≤ L.length → Pre (get (fold D (L.take k)) name) (get (fold D (L.take (k + n))) name) ∧ (Maps.has (fold D (L.take k)) (key name) = true → Maps.has (fold D (L.take (k + n))) (key name) = true) := by
  intro n
  induction n with
  | zero => intro k _; exact ⟨Pre.refl _, id⟩
  | succ n ih =>
    intro k hk
    obtain ⟨h1, h2⟩ := ih k (by omega)
    obtain ⟨a1, a2, a3⟩ := ha (k + n) (by omega)
    have h3 := do_app (fold_isMap h (L.take (k + n))) a1 a2 a3
    rw [← fold_take (by omega)] at h3
    rw [← Nat.add_assoc]
    exact ⟨h1.trans (by rw [h3.1]; exact Pre.add _ _), fun _ => h3.2⟩

/-- What stays behind a fall lies between what is sure and all. -/
theorem fall_between {D : FS} (h : IsMap D) {L : List Chg} {name : ByteArray} (ha : Apps name D L) (k : Nat) (t : Int) :
    Pre (get D name) (get (fallS D L k t) name) ∧ Pre (get (fallS D L k t) name) (get (fold D L) name) ∧ (Maps.has D (key name) = true → Maps.has (fallS D L k t) (key name) = true) := by
  by_cases hk : k < L.length
  · have p0 := pre_take h ha k 0 (by omega)
    rw [Nat.zero_add, List.take_zero, fold_nil] at p0
    obtain ⟨a1, a2, a3⟩ := ha k hk
    have p1 := pre_take h ha (L.length - (k + 1)) (k + 1) (by omega)
    rw [show k + 1 + (L.length - (k + 1)) = L.length by omega, List.take_length] at p1
    have p2 := do_app (fold_isMap h (L.take k)) a1 a2 a3
    rw [← fold_take hk] at p2
    by_cases ht : 0 < t ∧ L[k].k = 0
    · rw [fallS_yes hk ht]
      have p3 := do_app (c := torn L[k] t) (fold_isMap h (L.take k)) a1 a2 a3
      refine ⟨p0.1.trans (by rw [p3.1]; exact Pre.add _ _), Pre.trans ?_ p1.1, fun _ => p3.2⟩
      rw [p3.1, p2.1]
      exact Pre.cut _ _ _
    · rw [fallS_no hk ht]
      exact ⟨p0.1, Pre.trans (by rw [p2.1]; exact Pre.add _ _) p1.1, p0.2⟩
  · have p0 := pre_take h ha L.length 0 (by omega)
    rw [Nat.zero_add, List.take_zero, fold_nil, List.take_length] at p0
    rw [fallS_none (by omega), List.take_of_length_le (by omega)]
    exact ⟨p0.1, Pre.refl _, p0.2⟩

theorem apps_nil (name : ByteArray) (D : FS) : Apps name D [] := fun k hk => absurd hk (by simp)
theorem apps_snoc {name : ByteArray} {D : FS} {L : List Chg} (h : Apps name D L) {c : Chg} (h0 : c.k = 0) (h1 : c.name = name) (h2 : c.at_ = (get (fold D L) name).size) : Apps name D (L ++ [c]) := by
  intro k hk
  simp only [List.length_append, List.length_cons, List.length_nil] at hk
  by_cases hlt : k < L.length
  · rw [List.getElem_append_left hlt, List.take_append_of_le_length (by omega)]
    exact h k hlt
  · obtain rfl : k = L.length := by omega
    rw [List.getElem_append_right (Nat.le_refl _), List.take_left']
    · simp [h0, h1, h2]
    · rfl
end Dk
end Go.Proofs.Ytohphljhldcjbaa
