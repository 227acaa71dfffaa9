/- The disk's calls: what is asked of a file, and a Write. -/
import Derived.Test.YtohphljhldcjbaaDkF
namespace Go.Proofs.Ytohphljhldcjbaa
open Go.RowKit Go.Maps
namespace Dk

theorem lookOk {w : World} {b : Nat} {D : FS} (h : Files w b D) {name : ByteArray} (hk : name.size ≤ maxLen) :
    (Instr.lookup 140 (.map (some b)) (.string name) true).run Try.prog w = .ok (.tuple #[.string (get D name), .bool (Maps.has D (key name))]) w := by
  have hz : plainElem (H := Unit) Try.prog 9 (.string .empty) = some (.lit (.string []), []) := plainElem_string Try.underlying9 (by decide)
  obtain ⟨v, ps, hrun, hR⟩ := h.owns.look_ok law9 Try.underlying140 (zero9 w) hz (Go.WideMaps.keyOf_string_mk Try.underlying9 hk)
  obtain ⟨s, rfl, hs, hl⟩ := plainElem_string_inv Try.underlying9 hR
  simp only [Prod.mk.injEq] at hs
  have hg : get D name = s := by
    unfold get key
    rw [hs.1]
  rw [hg]
  exact hrun

theorem answer_one (name : ByteArray) : answer [name] = if nameOk name = true then 0 else 70 := by simp [answer]

/-- A name that is asked for by itself. -/
theorem may_one (g : Nat) (name : ByteArray) (hs : name.size ≤ 9223372036854775807) (w : World) (c5 : w.cell? ⟨g, 5, none⟩ = some (.bool false)) (n : Int) (hn : answer [name] = n) (p : Nat) (hp : w.cell? ⟨p, 0, none⟩ = some (.string name)) :
    Calls Try.prog 74 #[.pointer (some ⟨g, 0, none⟩), .slice (some ⟨p, 0, none⟩) 1 1] w fun e w' => e = .returned (.int .i64 n) ∧ w = w' := by
  subst hn
  exact may_any g p 1 1 [name] w c5 rfl (by omega) (fun i hi => by
    obtain rfl : i = 0 := by simp at hi; exact hi
    exact ⟨hp, hs⟩)

section
variable {ok : Nat → Prop} {w : World} {g bs bn : Nat} {loose : Value} {S N : FS} {L : List Chg} {made : Nat} {plan : Value} {dead : Bool}

/-- A name that may be: it is short. -/
theorem nameOk_size {s : ByteArray} (h : nameOk s = true) : s.size ≤ 32 := by
  unfold nameOk at h
  rw [Bool.and_eq_true] at h
  exact (of_decide_eq_true h.1).2

set_option maxHeartbeats 1000000 in
set_option maxRecDepth 100000 in
/-- What stands in a file. -/
theorem there_ok (h : Dsk ok w g bs bn loose S N L made plan false) (name : ByteArray) (hn : nameOk name = true) (hh : Maps.has N (key name) = true) :
    Calls Try.prog 78 #[.pointer (some ⟨g, 0, none⟩), .string name] w fun e w' => e = .returned (.tuple #[.string (get N name), .int .i64 0]) ∧ w.grownBy w' none := by
  have hs := nameOk_size hn
  have ha : answer [name] = 0 := by rw [answer_one, if_pos hn]
  have HA := Lib.hid ha
  have h1 := h.step (grown_alloc (grown_refl w none) (.cells #[.string name] 9))
  have hrun := lookOk h1.now (name := name) (by unfold maxLen; omega)
  rw [hh] at hrun
  have c1 : w.cell? ⟨g, 1, none⟩ = some (.map (some bn)) := h.core.cell 1
  have c5 : w.cell? ⟨g, 5, none⟩ = some (.bool false) := h.core.cell 5
  have hlt := h.core.lt
  generalize get N name = txt at hrun ⊢
  clear ha hh hn
  go_enter Try.func78, Try.ntmps78
  go_wp2_with (go_at_call 74; refine (may_one g name (by omega) _ (by first | exact h1.core.cell 5) 0 HA.out _ ?_).mono ?_; (simp); rintro e w' ⟨rfl, rfl⟩)
  go_ret2
  exact ⟨rfl, grown_alloc (grown_refl _ _) _⟩

set_option maxHeartbeats 1000000 in
set_option maxRecDepth 100000 in
/-- A file that isn't there. -/
theorem there_none (h : Dsk ok w g bs bn loose S N L made plan false) (name : ByteArray) (hn : nameOk name = true) (hh : Maps.has N (key name) = false) :
    Calls Try.prog 78 #[.pointer (some ⟨g, 0, none⟩), .string name] w fun e w' => e = .returned (.tuple #[.string .empty, .int .i64 2]) ∧ w.grownBy w' none := by
  have hs := nameOk_size hn
  have ha : answer [name] = 0 := by rw [answer_one, if_pos hn]
  have HA := Lib.hid ha
  have h1 := h.step (grown_alloc (grown_refl w none) (.cells #[.string name] 9))
  have hrun := lookOk h1.now (name := name) (by unfold maxLen; omega)
  rw [hh] at hrun
  have c1 : w.cell? ⟨g, 1, none⟩ = some (.map (some bn)) := h.core.cell 1
  have c5 : w.cell? ⟨g, 5, none⟩ = some (.bool false) := h.core.cell 5
  have hlt := h.core.lt
  generalize get N name = txt at hrun ⊢
  clear ha hh hn
  go_enter Try.func78, Try.ntmps78
  go_wp2_with (go_at_call 74; refine (may_one g name (by omega) _ (by first | exact h1.core.cell 5) 0 HA.out _ ?_).mono ?_; (simp); rintro e w' ⟨rfl, rfl⟩)
  go_ret2
  exact ⟨rfl, grown_alloc (grown_refl _ _) _⟩

theorem read_of {v n : Value} (name : ByteArray) (h : Calls Try.prog 78 #[.pointer (some ⟨g, 0, none⟩), .string name] w fun e w' => e = .returned (.tuple #[v, n]) ∧ w.grownBy w' none) :
    Calls Try.prog 27 #[.pointer (some ⟨g, 0, none⟩), .string name] w fun e w' => e = .returned (.tuple #[v, n]) ∧ w.grownBy w' none := by
  have H := Lib.hid h
  clear h
  go_enter Try.func27, Try.ntmps27
  go_wp2_with (go_at_call 78; refine H.out.mono ?_; rintro e w' ⟨rfl, hw⟩)
  go_ret2
  exact ⟨rfl, hw⟩

theorem calm_nil (h : Dsk ok w g bs bn loose S N L made (.slice none 0 0) dead) (sync : Bool) : Calm w g sync :=
  fun W hW => strikes_nil g sync W ((h.step hW).core.cell 4)

/-- How many files there may be. -/
def Fits (N : FS) (name : ByteArray) : Prop := Maps.has N (key name) = true ∨ Maps.size N < 64

set_option maxHeartbeats 1000000 in
set_option maxRecDepth 100000 in
theorem write_ok (h : Dsk ok w g bs bn loose S N L made plan false) (name s : ByteArray) (at_ : Nat) (hn : nameOk name = true) (ha : at_ ≤ (get N name).size) (hr : at_ + s.size ≤ 16777216) (hf : Fits N name)
    (hs : Small N) (hz : Maps.size N ≤ 64) (hL : L.length ≤ 1000000) (hmade : made ≤ 1000000000) (hnew : ∀ k, w.heap.size ≤ k → ok k) (hcalm : Calm w g false) :
    Calls Try.prog 28 #[.pointer (some ⟨g, 0, none⟩), .string name, .int .i64 at_, .string s] w (Ends ok w g bs bn S (doC N ⟨0, name, .empty, at_, s⟩) (L ++ [⟨0, name, .empty, at_, s⟩]) (made + 1) plan false 0) := by
  have hsz := nameOk_size hn
  have hans : answer [name] = 0 := by rw [answer_one, if_pos hn]
  have HA := Lib.hid hans
  have hg1 := grown_alloc (grown_refl w none) (.cells #[.string name] 9)
  have h1 := h.step hg1
  have hrun := lookOk h1.now (name := name) (by unfold maxLen; omega)
  have hlen := fun ty => World.ownsMap.len h1.now.owns Try.underlying140 ty
  have c1 : w.cell? ⟨g, 1, none⟩ = some (.map (some bn)) := h.core.cell 1
  have hlt := h.core.lt
  have hm : May N ⟨0, name, .empty, at_, s⟩ := ⟨by simp, hsz, by simp, by simp only; omega, fun _ => ha, fun _ => hr⟩
  have hmk := make_walk ok (w.alloc (.cells #[.string name] 9)) g bs bn loose S N L made plan h1 ⟨0, name, .empty, at_, s⟩ hm hs (by omega) hL hmade (fun k hk => hnew k (by simp at hk; omega)) (hcalm _ (grown_alloc hg1 _))
  have HM := Lib.hid hmk
  have hts := hs name
  clear hmk hans hn hcalm hm
  generalize get N name = txt at hrun ha hts
  by_cases hh : Maps.has N (key name) = true
  · rw [hh] at hrun
    clear hh hf
    generalize Maps.size N = sz at hlen hz
    go_enter Try.func28, Try.ntmps28
    go_wp2_with (first | (go_at_call 74; refine (may_one g name (by omega) _ (by first | exact h1.core.cell 5) 0 HA.out _ ?_).mono ?_; (simp); rintro e w' ⟨rfl, rfl⟩) | (go_at_call 79; refine HM.out.mono ?_; rintro e w' ⟨rfl, hw⟩))
    go_ret
    obtain ⟨loose', d1, d2⟩ := hw
    exact ⟨rfl, loose', d1, (Chgd.new hg1).trans d2⟩
  · have hh' : Maps.has N (key name) = false := by simpa using hh
    have h64 : Maps.size N < 64 := by rcases hf with hf | hf; exact absurd hf hh; exact hf
    rw [hh'] at hrun
    clear hh hh' hf hz
    generalize Maps.size N = sz at hlen h64
    go_enter Try.func28, Try.ntmps28
    go_wp2_with (first | (go_at_call 74; refine (may_one g name (by omega) _ (by first | exact h1.core.cell 5) 0 HA.out _ ?_).mono ?_; (simp); rintro e w' ⟨rfl, rfl⟩) | (go_at_call 79; refine HM.out.mono ?_; rintro e w' ⟨rfl, hw⟩))
    go_ret
    obtain ⟨loose', d1, d2⟩ := hw
    exact ⟨rfl, loose', d1, (Chgd.new hg1).trans d2⟩

set_option maxHeartbeats 1000000 in
set_option maxRecDepth 100000 in
/-- A Write that would be too long, or of one file too many. -/
theorem write_full (h : Dsk ok w g bs bn loose S N L made plan false) (name s : ByteArray) (at_ : Nat) (hn : nameOk name = true) (ha : at_ ≤ (get N name).size)
    (hss : s.size ≤ 9223372036854775807) (hts : (get N name).size ≤ 16777216) (hz : Maps.size N ≤ 64) (hf : 16777216 < at_ + s.size ∨ (Maps.has N (key name) = false ∧ Maps.size N = 64)) :
    Calls Try.prog 28 #[.pointer (some ⟨g, 0, none⟩), .string name, .int .i64 at_, .string s] w fun e w' => e = .returned (.int .i64 71) ∧ w.grownBy w' none := by
  have hsz := nameOk_size hn
  have hans : answer [name] = 0 := by rw [answer_one, if_pos hn]
  have HA := Lib.hid hans
  have hg1 := grown_alloc (grown_refl w none) (.cells #[.string name] 9)
  have h1 := h.step hg1
  have hrun := lookOk h1.now (name := name) (by unfold maxLen; omega)
  have hlen := fun ty => World.ownsMap.len h1.now.owns Try.underlying140 ty
  have c1 : w.cell? ⟨g, 1, none⟩ = some (.map (some bn)) := h.core.cell 1
  have hlt := h.core.lt
  clear hans hn
  generalize get N name = txt at hrun ha hts
  by_cases hlong : 16777216 < at_ + s.size
  · clear hf
    generalize Maps.size N = sz at hlen hz
    generalize Maps.has N (key name) = hx at hrun
    go_enter Try.func28, Try.ntmps28
    go_wp2_with (go_at_call 74; refine (may_one g name (by omega) _ (by first | exact h1.core.cell 5) 0 HA.out _ ?_).mono ?_; (simp); rintro e w' ⟨rfl, rfl⟩)
    all_goals go_ret
    all_goals exact ⟨rfl, hg1⟩
  · obtain ⟨hh, h64⟩ : Maps.has N (key name) = false ∧ Maps.size N = 64 := by rcases hf with hf | hf; exact absurd hf hlong; exact hf
    rw [hh] at hrun
    rw [h64] at hlen
    clear hh h64 hf hz
    have hle : at_ + s.size ≤ 16777216 := by omega
    clear hlong hss
    go_enter Try.func28, Try.ntmps28
    go_wp2_with (go_at_call 74; refine (may_one g name (by omega) _ (by first | exact h1.core.cell 5) 0 HA.out _ ?_).mono ?_; (simp); rintro e w' ⟨rfl, rfl⟩)
    go_ret
    exact ⟨rfl, hg1⟩

theorem append_of (h : Dsk ok w g bs bn loose S N L made plan false) (name s : ByteArray) (hn : nameOk name = true) {R : Ending → World → Prop}
    (hw : ∀ W, w.grownBy W none → Calls Try.prog 28 #[.pointer (some ⟨g, 0, none⟩), .string name, .int .i64 (get N name).size, .string s] W R) (hR : ∀ e w', R e w' → ∃ n : Int, e = .returned (.int .i64 n)) :
    Calls Try.prog 23 #[.pointer (some ⟨g, 0, none⟩), .string name, .string s] w R := by
  have hsz := nameOk_size hn
  have hans : answer [name] = 0 := by rw [answer_one, if_pos hn]
  have HA := Lib.hid hans
  have hg1 := grown_alloc (grown_refl w none) (.cells #[.string name] 9)
  have h1 := h.step hg1
  have hrun := Files.look h1.now (name := name) (by unfold maxLen; omega)
  have c1 : w.cell? ⟨g, 1, none⟩ = some (.map (some bn)) := h.core.cell 1
  have hlt := h.core.lt
  have HW := Lib.hid (hw _ hg1)
  clear hw hans hn
  generalize get N name = txt at hrun HW
  go_enter Try.func23, Try.ntmps23
  go_wp2_with (first | (go_at_call 74; refine (may_one g name (by omega) _ (by first | exact h1.core.cell 5) 0 HA.out _ ?_).mono ?_; (simp); rintro e w' ⟨rfl, rfl⟩) | (go_at_call 28; refine HW.out.mono ?_; intro e w' hr; obtain ⟨n, rfl⟩ := hR e w' hr))
  exact hr
end
end Dk
end Go.Proofs.Ytohphljhldcjbaa
