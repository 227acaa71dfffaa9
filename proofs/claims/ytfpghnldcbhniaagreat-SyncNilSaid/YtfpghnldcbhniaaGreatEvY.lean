/- Types of keys: what a seat lays. -/
import Derived.Test.YtfpghnldcbhniaaGreatEvU
import Derived.DeepKeys4
namespace Go.Proofs.YtfpghnldcbhniaaGreat
set_option linter.unusedVariables false
set_option linter.unusedSimpArgs false
open Go.RowKit Go.Maps
namespace Ev

section
variable {P : Program} {B : Nat} {W : World} {ι : Pos → Option Nat} {h : H} {w w' : World} {o : AObj}
/-- Blocks are made, the others are as they were; one of them is told. -/
theorem Rel.newAt {g : Nat} (r : Rel P B W ι h w) (u : Below w.heap.size w w') (hg : w.heap.size ≤ g) (ho : ObjR P (cx ι h w) w' g o) :
    Rel P B W (upd ι h.nx g) (h.new o) w' ∧ Ext ι h w (upd ι h.nx g) (h.new o) w' := by
  have hne : ∀ p o', h.obj p = some o' → p ≠ h.nx := fun p o' hp e => by
    have := r.fresh p o' hp
    rw [e] at this
    omega
  have hlt : ∀ p : Pos, p.num < h.nx.num → p ≠ h.nx := fun p hp e => by rw [e] at hp; omega
  have hold : ∀ y, y < w.heap.size → w'.heap[y]? = w.heap[y]? := fun y hy => u.block y hy
  have hbs : ∀ y, y < w.heap.size → bsz w' y = bsz w y := fun y hy => by unfold bsz; rw [hold y hy]
  have hle : (cx ι h w).Le (cx (upd ι h.nx g) (h.new o) w') := by
    refine ⟨?_, fun p hp ⟨o', h1⟩ => ?_, fun p y hp _ e => ?_, fun p y hp ⟨o', h1⟩ e => ?_⟩
    · show h.nx.num ≤ (h.new o).nx.num
      rw [nx_new]; omega
    · rw [obj_new_ne h o (hlt p hp)] at h1; exact ⟨o', h1⟩
    · show upd ι h.nx g p = some y
      rw [upd_ne ι _ (hlt p hp)]; exact e
    · rw [obj_new_ne h o (hlt p hp)] at h1
      exact hbs y (r.ob p o' y h1 e).lt
  have ext : Ext ι h w (upd ι h.nx g) (h.new o) w' := by
    refine ⟨by rw [nx_new]; omega, fun p o' hp h1 => ?_, fun p o' y hn h1 hy => ?_, u.size, hbs, fun y hy _ => hold y hy, u.os, u.tape, u.output⟩
    · rw [obj_new_ne h o (hlt p hp)] at h1
      exact ⟨⟨o', h1⟩, upd_ne ι _ (hlt p hp)⟩
    · by_cases e : p = h.nx
      · subst e
        rw [upd_same] at hy
        cases hy
        exact .inl hg
      · rw [obj_new_ne h o e] at h1
        exact absurd (r.fresh p o' h1) hn
  refine ⟨⟨fun p o' hp => ?_, fun p o' y hp hy => ?_, fun p p' o1 o2 y hp hp' hy hy' => ?_, fun p o' y hp hy => ?_, r.low, ext.out r⟩, ext⟩
  · rw [nx_new]
    by_cases e : p = h.nx
    · subst e; omega
    · rw [obj_new_ne h o e] at hp
      have := r.fresh p o' hp
      omega
  · by_cases e : p = h.nx
    · subst e
      rw [obj_new_same] at hp
      cases hp
      rw [upd_same] at hy
      cases hy
      exact ObjR.mono hle rfl ho
    · rw [obj_new_ne h o e] at hp
      rw [upd_ne ι _ e] at hy
      have h1 := r.ob p o' y hp hy
      exact ObjR.mono hle (hold y h1.lt) h1
  · by_cases e : p = h.nx
    · by_cases e' : p' = h.nx
      · rw [e, e']
      · subst e
        rw [upd_same] at hy
        cases hy
        rw [obj_new_ne h o e'] at hp'
        rw [upd_ne ι _ e'] at hy'
        have := (r.ob p' o2 _ hp' hy').lt
        omega
    · rw [obj_new_ne h o e] at hp
      rw [upd_ne ι _ e] at hy
      by_cases e' : p' = h.nx
      · subst e'
        rw [upd_same] at hy'
        cases hy'
        have := (r.ob p o1 _ hp hy).lt
        omega
      · rw [obj_new_ne h o e'] at hp'
        rw [upd_ne ι _ e'] at hy'
        exact r.inj p p' o1 o2 y hp hp' hy hy'
  · by_cases e : p = h.nx
    · subst e
      rw [upd_same] at hy
      cases hy
      have h1 := r.low
      have h2 := r.out.size
      omega
    · rw [obj_new_ne h o e] at hp
      rw [upd_ne ι _ e] at hy
      exact r.base p o' y hp hy

end
section
variable {P : Program}
theorem keyT_wide (hl : laidOutB P = true) {m : Nat} (hm : m + 1 ≤ 10000) {t : TypeId} (hrow : t < P.types.size) (hk : P.keyTypeAt m t = true) (hwide : (match P.underlying t with | some (.array _ _) | some (.struct _) => true | _ => false) = true)
    (hg : P.eqGuardType P.depth t = false) : KeyT P t := by
  have law := deep_law_laid hl hm hrow hk hwide
  have hof : ∀ {v : Value} {l : Lit}, keyOf P t v = some l → v.formed P t = true ∧ ∃ ls, P.keyLits (P.types.size + 1) t v.cells.toList = some ls ∧ l = .string (keyBytes ls) := fun {v l} h => by
    unfold keyOf at h
    split at hwide
    · rename_i h1
      simp only [h1] at h
      split at h
      · rename_i hf
        obtain ⟨ls, h2, h3⟩ := Option.map_eq_some_iff.1 h
        exact ⟨((Bool.and_eq_true _ _).mp hf).2, ls, h2, h3.symm⟩
      · cases h
    · rename_i h1
      simp only [h1] at h
      split at h
      · rename_i hf
        obtain ⟨ls, h2, h3⟩ := Option.map_eq_some_iff.1 h
        exact ⟨((Bool.and_eq_true _ _).mp hf).2, ls, h2, h3.symm⟩
      · cases h
    · cases hwide
  refine ⟨Keyed.of_law law, fun w a b la lb ha hb => ?_, fun w op ox oy a b => ?_⟩
  · obtain ⟨fa, ls, h1, h2⟩ := hof ha
    obtain ⟨fb, ms, h3, h4⟩ := hof hb
    have h5 := run_equalIn_deep (P := P) (10000 - m) m t hk
    rw [show 10000 - m + m = 10000 by omega] at h5
    obtain ⟨r, h6, h7⟩ := h5 w _ _ a b ls ms fa fb h1 h3
    refine ⟨r, h6, h7.trans ⟨fun e => by rw [h2, h4, e], fun e => ?_⟩⟩
    subst e
    have := law.inj ha hb
    subst this
    rw [h1] at h3
    exact Option.some.inj h3
  · cases op <;> first | rfl | skip
    all_goals simp [eqGuard, hg]
theorem eqIn_int {t : TypeId} {q : IntKind} (hu : P.underlying t = some (.int q)) (d : Nat) (w : World) (k : IntKind) (a b : Int) : (Op.equalIn (d + 1) t (.int k a) (.int k b)).run P w = .ok (a == b) w := by
  simp [Op.equalIn, run_underlying hu]
theorem keyT_int {t : TypeId} {k : IntKind} (hu : P.underlying t = some (.int k)) (hg : P.eqGuardType P.depth t = false) : KeyT P t := by
  have hof : ∀ {v : Value} {l : Lit}, keyOf P t v = some l → ∃ n, v = .int k n ∧ l = .int k n := fun {v l} h => by
    cases v <;> simp [keyOf, mapKey, hu] at h
    obtain ⟨⟨h1, _⟩, h2⟩ := h
    subst h1
    exact ⟨_, rfl, h2.symm⟩
  refine ⟨int_keyed hu, fun w a b la lb ha hb => ?_, fun w op ox oy a b => ?_⟩
  · obtain ⟨n, rfl, rfl⟩ := hof ha
    obtain ⟨m, rfl, rfl⟩ := hof hb
    refine ⟨n == m, ?_, by simp⟩
    exact eqIn_int hu 9999 w k n m
  · cases op <;> first | rfl | skip
    all_goals simp [eqGuard, hg]
end
end Ev
end Go.Proofs.YtfpghnldcbhniaaGreat
