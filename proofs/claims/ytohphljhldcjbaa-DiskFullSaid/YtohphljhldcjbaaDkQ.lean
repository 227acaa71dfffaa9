/- 'DiskFull': a removal, a size; the disk behind writes that are never made sure. -/
import Derived.Test.YtohphljhldcjbaaDkJ
namespace Go.Proofs.Ytohphljhldcjbaa
set_option linter.unusedVariables false
set_option linter.unusedSimpArgs false
open Go.RowKit Go.Maps
namespace Dk

section
variable {ok : Nat → Prop} {w : World} {g bs bn : Nat} {loose : Value} {S N : FS} {L : List Chg} {made : Nat} {plan : Value} {dead : Bool}
set_option maxHeartbeats 1000000 in
set_option maxRecDepth 100000 in
theorem remove_ok (h : Dsk ok w g bs bn loose S N L made plan false) (name : ByteArray) (hn : nameOk name = true) (hh : Maps.has N (key name) = true)
    (hs : Small N) (hz : Maps.size N ≤ 64) (hL : L.length ≤ 1000000) (hmade : made ≤ 1000000000) (hnew : ∀ k, w.heap.size ≤ k → ok k) (hcalm : Calm w g false) :
    Calls Try.prog 29 #[.pointer (some ⟨g, 0, none⟩), .string name] w (Ends ok w g bs bn S (doC N ⟨3, name, .empty, 0, .empty⟩) (L ++ [⟨3, name, .empty, 0, .empty⟩]) (made + 1) plan false 0) := by
  have hm : May N ⟨3, name, .empty, 0, .empty⟩ := ⟨by simp, nameOk_size hn, by simp, by simp, fun h => by simp at h, fun h => by simp at h⟩
  have HM : ∀ W, w.grownBy W none → Calls Try.prog 79 #[.pointer (some ⟨g, 0, none⟩), (⟨3, name, .empty, 0, .empty⟩ : Chg).val] W (Ends ok w g bs bn S (doC N ⟨3, name, .empty, 0, .empty⟩) (L ++ [⟨3, name, .empty, 0, .empty⟩]) (made + 1) plan false 0) := fun W hW =>
    (make_walk ok W g bs bn loose S N L made plan (h.step hW) _ hm hs (by omega) hL hmade (fun k hk => hnew k (Nat.le_trans hW.size hk)) (hcalm _ (grown_alloc hW _))).mono fun e w' hx => by
      obtain ⟨he, l, d1, d2⟩ := hx
      exact ⟨he, l, d1, (Chgd.new hW).trans d2⟩
  replace HM := Lib.hid HM
  have HT := Lib.hid (there_ok h name hn hh)
  clear hcalm hm hs hh hn h
  go_enter Try.func29, Try.ntmps29
  go_wp2_with (first | (go_at_call 78; refine HT.out.mono ?_; rintro e w1 ⟨rfl, h1⟩) | (go_at_call 79; refine (HM.out _ h1).mono ?_; rintro e w2 ⟨rfl, hw⟩))
  go_ret
  exact ⟨rfl, hw⟩

theorem size_of {s : ByteArray} {n : Value} (name : ByteArray) (h : Calls Try.prog 78 #[.pointer (some ⟨g, 0, none⟩), .string name] w fun e w' => e = .returned (.tuple #[.string s, n]) ∧ w.grownBy w' none) :
    Calls Try.prog 62 #[.pointer (some ⟨g, 0, none⟩), .string name] w fun e w' => e = .returned (.tuple #[.int .i64 s.size, n]) ∧ w.grownBy w' none := by
  have H := Lib.hid h
  clear h
  go_enter Try.func62, Try.ntmps62
  go_wp2_with (go_at_call 78; refine H.out.mono ?_; rintro e w' ⟨rfl, hw⟩)
  go_ret2
  exact ⟨rfl, hw⟩
end

def eights : ByteArray := ⟨#[97, 98, 99, 100, 101, 102, 103, 104]⟩
/-- The k-th name. -/
def nm (k : Nat) : ByteArray := eights.extract (k / 8) (k / 8 + 1) ++ eights.extract (k % 8) (k % 8 + 1)
/-- Files behind k writes. -/
def full : Nat → FS
  | 0 => none_
  | k + 1 => doC (full k) ⟨0, nm k, .empty, 0, .empty⟩

set_option maxRecDepth 100000 in
theorem nm_ok : ∀ k, k < 64 → nameOk (nm k) = true := by decide +kernel
set_option maxRecDepth 100000 in
theorem full_size : ∀ k, k < 65 → Maps.size (full k) = k := by decide +kernel

/-- A disk on which nothing is ever made sure. -/
def Filling (w0 w : World) (g n : Nat) (N : FS) : Prop :=
  ∃ bs bn loose S L made, Dsk (fun k => w0.heap.size ≤ k) w g bs bn loose S N L made (.slice none 0 0) false ∧ L.length ≤ n ∧ made ≤ n ∧ Small N ∧ Maps.size N ≤ 64 ∧ Below w0.heap.size w0 w

section
variable {w0 w : World} {g n : Nat} {N : FS}
theorem Filling.below (h : Filling w0 w g n N) : Below w0.heap.size w0 w := by
  obtain ⟨bs, bn, loose, S, L, made, hd, a1, a2, a3, a4, hb⟩ := h
  exact hb
theorem Filling.isMap (h : Filling w0 w g n N) : IsMap N := by
  obtain ⟨bs, bn, loose, S, L, made, hd, a1, a2, a3, a4, hb⟩ := h
  exact hd.now.isMap
theorem Filling.step (h : Filling w0 w g n N) {w' : World} (hg : w.grownBy w' none) : Filling w0 w' g n N := by
  obtain ⟨bs, bn, loose, S, L, made, hd, a1, a2, a3, a4, hb⟩ := h
  exact ⟨bs, bn, loose, S, L, made, hd.step hg, a1, a2, a3, a4, hb.trans (Below.of_grown hg hb.size (by simp))⟩
theorem fill_new (w : World) : Calls Try.prog 21 #[] w fun e w' => e = .returned (.pointer (some ⟨w.heap.size + 2, 0, none⟩)) ∧ Filling w w' (w.heap.size + 2) 0 none_ := by
  refine (new_dsk w).mono fun e w' ⟨he, hd, hg⟩ => ⟨he, ?_⟩
  exact ⟨_, _, _, none_, [], 0, hd, Nat.le_refl _, Nat.le_refl _, small_none, by rw [size_none]; omega, Chgd.below (Chgd.new hg) (Nat.le_refl _)⟩

def Filled (w0 : World) (g n : Nat) (N : FS) (e : Ending) (w' : World) : Prop := e = .returned (.int .i64 0) ∧ Filling w0 w' g n N

theorem fill_write (h : Filling w0 w g n N) (name s : ByteArray) (at_ : Nat) (hn : nameOk name = true) (ha : at_ ≤ (get N name).size) (hr : at_ + s.size ≤ 16777216) (hf : Fits N name) (hk : n ≤ 1000)
    (hz : Maps.size (doC N ⟨0, name, .empty, at_, s⟩) ≤ 64) :
    Calls Try.prog 28 #[.pointer (some ⟨g, 0, none⟩), .string name, .int .i64 at_, .string s] w (Filled w0 g (n + 1) (doC N ⟨0, name, .empty, at_, s⟩)) := by
  obtain ⟨bs, bn, loose, S, L, made, hd, a1, a2, a3, a4, hb⟩ := h
  have hm : May N ⟨0, name, .empty, at_, s⟩ := ⟨by simp, nameOk_size hn, by simp, by simp only; omega, fun _ => ha, fun _ => hr⟩
  refine (write_ok hd name s at_ hn ha hr hf a3 a4 (by omega) (by omega) (fun k hk => Nat.le_trans hb.size hk) (calm_nil hd false)).mono fun e w' hx => ?_
  obtain ⟨he, l, hd', hc⟩ := hx
  exact ⟨he, bs, bn, l, S, _, made + 1, hd', by simp; omega, by omega, small_do hd.now.isMap a3 hm, hz, hb.trans (Chgd.below hc hb.size)⟩

theorem fill_remove (h : Filling w0 w g n N) (name : ByteArray) (hn : nameOk name = true) (hh : Maps.has N (key name) = true) (hk : n ≤ 1000)
    (hz : Maps.size (doC N ⟨3, name, .empty, 0, .empty⟩) ≤ 64) :
    Calls Try.prog 29 #[.pointer (some ⟨g, 0, none⟩), .string name] w (Filled w0 g (n + 1) (doC N ⟨3, name, .empty, 0, .empty⟩)) := by
  obtain ⟨bs, bn, loose, S, L, made, hd, a1, a2, a3, a4, hb⟩ := h
  have hm : May N ⟨3, name, .empty, 0, .empty⟩ := ⟨by simp, nameOk_size hn, by simp, by simp, fun h => by simp at h, fun h => by simp at h⟩
  refine (remove_ok hd name hn hh a3 a4 (by omega) (by omega) (fun k hk => Nat.le_trans hb.size hk) (calm_nil hd false)).mono fun e w' hx => ?_
  obtain ⟨he, l, hd', hc⟩ := hx
  exact ⟨he, bs, bn, l, S, _, made + 1, hd', by simp; omega, by omega, small_do hd.now.isMap a3 hm, hz, hb.trans (Chgd.below hc hb.size)⟩

theorem fill_full (h : Filling w0 w g n N) (name s : ByteArray) (at_ : Nat) (hn : nameOk name = true) (ha : at_ ≤ (get N name).size) (hss : s.size ≤ 9223372036854775807)
    (hf : 16777216 < at_ + s.size ∨ (Maps.has N (key name) = false ∧ Maps.size N = 64)) :
    Calls Try.prog 28 #[.pointer (some ⟨g, 0, none⟩), .string name, .int .i64 at_, .string s] w fun e w' => e = .returned (.int .i64 71) ∧ w.grownBy w' none := by
  obtain ⟨bs, bn, loose, S, L, made, hd, a1, a2, a3, a4, hb⟩ := h
  exact write_full hd name s at_ hn ha hss (a3 _) a4 hf
theorem fill_over (h : Filling w0 w g n N) (name s : ByteArray) (hn : nameOk name = true) (hss : s.size ≤ 9223372036854775807) (hf : 16777216 < (get N name).size + s.size) :
    Calls Try.prog 23 #[.pointer (some ⟨g, 0, none⟩), .string name, .string s] w fun e w' => e = .returned (.int .i64 71) ∧ w.grownBy w' none := by
  obtain ⟨bs, bn, loose, S, L, made, hd, a1, a2, a3, a4, hb⟩ := h
  exact append_full hd name s hn hss (a3 _) a4 hf
theorem fill_size (h : Filling w0 w g n N) (name : ByteArray) (hn : nameOk name = true) (hh : Maps.has N (key name) = true) :
    Calls Try.prog 62 #[.pointer (some ⟨g, 0, none⟩), .string name] w fun e w' => e = .returned (.tuple #[.int .i64 (get N name).size, .int .i64 0]) ∧ w.grownBy w' none := by
  obtain ⟨bs, bn, loose, S, L, made, hd, a1, a2, a3, a4, hb⟩ := h
  exact size_of name (there_ok hd name hn hh)
end
end Dk
end Go.Proofs.Ytohphljhldcjbaa
