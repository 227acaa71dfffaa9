/- The disk's Sync: the loose changes, played on what is sure. -/
import Derived.Test.YtohphljhldcjbaaDkG
import Derived.LoopTactic
namespace Go.Proofs.Ytohphljhldcjbaa
open Go.RowKit Go.Maps
namespace Dk

/-- Files behind some changes. -/
def fold (D : FS) (L : List Chg) : FS := L.foldl doC D
theorem fold_nil (D : FS) : fold D [] = D := rfl
theorem fold_snoc (D : FS) (L : List Chg) (c : Chg) : fold D (L ++ [c]) = doC (fold D L) c := by simp [fold]
theorem fold_take {D : FS} {L : List Chg} {k : Nat} (hk : k < L.length) : fold D (L.take (k + 1)) = doC (fold D (L.take k)) L[k] := by
  rw [List.take_succ_eq_append_getElem hk, fold_snoc]

/-- Each change may be, where it stands. -/
def Plays (D : FS) (L : List Chg) : Prop := ∀ k (hk : k < L.length), May (fold D (L.take k)) L[k]

theorem tidy_do {D : FS} (h : Tidy D) (c : Chg) : Tidy (doC D c) := by
  unfold doC
  split
  · exact h.put (by exact trivial) _
  split
  · exact h.put (by exact trivial) _
  split
  · exact (h.del _).put (by exact trivial) _
  · exact h.del _
theorem size_put_le1 {D : FS} (h : Tidy D) (k : Lit) (d : FS) : Maps.size (D.put k d) ≤ Maps.size D + 1 := by
  rw [size_put h]
  split <;> omega
theorem size_del_le {D : FS} (h : Tidy D) (k : Lit) : Maps.size (D.del k) ≤ Maps.size D := by
  have := size_del (k := k) h
  omega
theorem size_do {D : FS} (h : Tidy D) (c : Chg) : Maps.size (doC D c) ≤ Maps.size D + 1 := by
  unfold doC
  split
  · exact size_put_le1 h _ _
  split
  · exact size_put_le1 h _ _
  split
  · have h1 := size_put_le1 (h.del (key c.name)) (key c.to) (text (get D c.name))
    have h2 := size_del_le h (key c.name)
    omega
  · have := size_del_le h (key c.name)
    omega

theorem fold_facts {D : FS} (h : Tidy D) (hs : Small D) {L : List Chg} (hp : Plays D L) : ∀ k, k ≤ L.length → Tidy (fold D (L.take k)) ∧ Small (fold D (L.take k)) ∧ Maps.size (fold D (L.take k)) ≤ Maps.size D + k := by
  intro k
  induction k with
  | zero => intro _; exact ⟨by simpa [fold] using h, by simpa [fold] using hs, by simp [fold]⟩
  | succ k ih =>
    intro hk
    obtain ⟨h1, h2, h3⟩ := ih (by omega)
    rw [fold_take (by omega)]
    refine ⟨tidy_do h1 _, small_do h1.isMap h2 (hp k (by omega)), ?_⟩
    have := size_do h1 (L[k]'(by omega))
    omega

theorem flat_get {L : List Chg} {k : Nat} (hk : k < L.length) : (flat L)[k * 5]? = some (.int .i64 L[k].k) ∧ (flat L)[k * 5 + 1]? = some (.string L[k].name) ∧ (flat L)[k * 5 + 2]? = some (.string L[k].to) ∧ (flat L)[k * 5 + 3]? = some (.int .i64 L[k].at_) ∧ (flat L)[k * 5 + 4]? = some (.string L[k].s) := by
  induction L generalizing k with
  | nil => simp at hk
  | cons c L ih =>
    have hf : flat (c :: L) = c.cells ++ flat L := rfl
    have hl : c.cells.length = 5 := rfl
    cases k with
    | zero => exact ⟨rfl, rfl, rfl, rfl, rfl⟩
    | succ k =>
      have hk' : k < L.length := by simpa using hk
      have e : ∀ j, (flat (c :: L))[(k + 1) * 5 + j]? = (flat L)[k * 5 + j]? := by
        intro j
        rw [hf, List.getElem?_append_right (by omega)]
        congr 1
        omega
      have e0 := e 0
      simp only [Nat.add_zero] at e0
      rw [e0, e 1, e 2, e 3, e 4]
      exact ih hk'

section
variable {ok : Nat → Prop} {w w' : World} {g bs bn : Nat} {loose : Value} {S S' N : FS} {L : List Chg} {made : Nat} {plan : Value} {dead : Bool}

theorem Dsk.sureTo (h : Dsk ok w g bs bn loose S N L made plan dead) (hg : w.grownBy w' (some bs)) (hf : Files w' bs S') : Dsk ok w' g bs bn loose S' N L made plan dead :=
  ⟨h.core.grown hg (by have := core_ne h.core h.sure; simpa using this), hf, h.now.grown hg (by have := h.ne; simp; omega), h.ne, h.row.kept hg (.inr (row_ne_files h.row h.sure)), h.okg, h.oks, h.okn, h.okl⟩

/-- The loose changes, as they lie. -/
theorem Dsk.lies (h : Dsk ok w g bs bn loose S N L made plan dead) : ∃ A cap, loose = .slice A L.length cap ∧ L.length ≤ cap ∧ (0 < L.length → ∃ p, A = some ⟨p, 0, none⟩ ∧ ∀ W n, Dsk ok W g bs bn loose n N L made plan dead → ∀ k (hk : k < L.length),
    W.cell? ⟨p, k * 5, none⟩ = some (.int .i64 L[k].k) ∧ W.cell? ⟨p, k * 5 + 1, none⟩ = some (.string L[k].name) ∧ W.cell? ⟨p, k * 5 + 2, none⟩ = some (.string L[k].to) ∧ W.cell? ⟨p, k * 5 + 3, none⟩ = some (.int .i64 L[k].at_) ∧ W.cell? ⟨p, k * 5 + 4, none⟩ = some (.string L[k].s)) := by
  rcases h.row.2 with ⟨hv, hx⟩ | ⟨p, cap, cur, hv, _, _, hnc, _⟩
  · have hl : L.length = 0 := by
      have h1 := flat_length L
      rw [hx] at h1
      simp at h1
      omega
    exact ⟨none, 0, by rw [hv, hl], by omega, fun hp => absurd hp (by omega)⟩
  · refine ⟨some ⟨p, 0, none⟩, cap, hv, hnc, fun _ => ⟨p, rfl, fun W n hW k hk => ?_⟩⟩
    have hc := hW.row.cells (g := p) (by rw [hv]; rfl)
    have hadd : ∀ j, (⟨p, 0, none⟩ : Addr).add j = ⟨p, j, none⟩ := by
      intro j
      unfold Addr.add
      split
      · rename_i e; subst e; rfl
      · simp
    obtain ⟨e0, e1, e2, e3, e4⟩ := flat_get hk
    have r0 := hc _ _ e0
    have r1 := hc _ _ e1
    have r2 := hc _ _ e2
    have r3 := hc _ _ e3
    have r4 := hc _ _ e4
    rw [hadd] at r0 r1 r2 r3 r4
    exact ⟨r0, r1, r2, r3, r4⟩

theorem Dsk.setLoose (h : Dsk ok w g bs bn loose S N L made plan dead) : Dsk ok (w.setCell ⟨g, 2, none⟩ (.slice none 0 0)) g bs bn (.slice none 0 0) S N [] made plan dead ∧ w.grownBy (w.setCell ⟨g, 2, none⟩ (.slice none 0 0)) (some g) := by
  have hset : w.grownBy (w.setCell ⟨g, 2, none⟩ (.slice none 0 0)) (some g) := by
    refine grown_set ?_ (Or.inl rfl) _
    exact grown_refl _ _
  refine ⟨⟨?_, h.sure.grown hset (fun e => core_ne h.core h.sure (by injection e with e; exact e.symm)), h.now.grown hset (fun e => core_ne h.core h.now (by injection e with e; exact e.symm)), h.ne, World.ownsRow_nil _ _ _ _, h.okg, h.oks, h.okn, fun b hb => by simp [Value.ownBlock] at hb⟩, hset⟩
  have h1 := h.core.set_ 2 (.slice none 0 0)
  unfold Core
  simpa using h1

set_option maxHeartbeats 2000000 in
set_option maxRecDepth 100000 in
theorem sync_ok (h : Dsk ok w g bs bn loose S N L made plan false) (ht : Tidy S) (hs : Small S) (hp : Plays S L) (hz : Maps.size S ≤ 1000) (hL : L.length ≤ 1000000) (hcalm : Calm w g true) :
    Calls Try.prog 24 #[.pointer (some ⟨g, 0, none⟩)] w (Ends ok w g bs bn (fold S L) N [] made plan false 0) := by
  have HC := Lib.hid (hcalm w (grown_refl _ _))
  obtain ⟨A, cap, hv, hcap, hA⟩ := h.lies
  have HV := Lib.hid hv
  have HA := Lib.hid hA
  have c5 : w.cell? ⟨g, 5, none⟩ = some (.bool false) := h.core.cell 5
  clear hcalm hv hA
  go_enter Try.func24, Try.ntmps24
  go_wp2_with (first | (go_at_call 67; refine (dead_any g false _ c5).mono ?_; rintro e w' ⟨rfl, rfl⟩) | (go_at_call 75; refine HC.out.mono ?_; rintro e w1 ⟨rfl, hg1⟩; have c2 : w1.cell? ⟨g, 2, none⟩ = some (.slice A L.length cap) := by rw [← HV.out]; exact (h.step hg1).core.cell 2))
  have h1 := h.step hg1
  have hch1 : Chgd ok w w1 := Chgd.new hg1
  clear c2 c5 hg1
  go_loopw [16] (fun i wr => ∃ k : Nat, k ≤ L.length ∧ i = .int .i64 k ∧ Dsk ok wr g bs bn loose (fold S (L.take k)) N L made plan false ∧ Chgd ok w wr) (fun i _ => L.length - (intOf i).toNat)
  case atStart => exact ⟨0, Nat.zero_le _, rfl, by simpa [fold] using h1, hch1⟩
  case round =>
    obtain ⟨k, hk, rfl, hd, hch⟩ := hrel
    by_cases hlt : k < L.length
    · obtain ⟨p, rfl, hcells⟩ := HA.out (by omega)
      obtain ⟨q0, q1, q2, q3, q4⟩ := hcells wr _ hd k hlt
      have hm := hp k hlt
      obtain ⟨ht1, hs1, hz1⟩ := fold_facts ht hs hp k hk
      have hft := fold_take (D := S) hlt
      generalize hcL : L[k] = c at q0 q1 q2 q3 q4 hm hft
      obtain ⟨ck, cn, ct, ca, cs⟩ := c
      have FT := Lib.hid hft
      clear hft hcL hcells
      simp only at q0 q1 q2 q3 q4
      go_wp2_with fail
      have hb0 : Whole (wr.alloc (.cells #[.int .i64 ck, .string cn, .string ct, .int .i64 ca, .string cs] 147)) wr.heap.size 147 #[.int .i64 ck, .string cn, .string ct, .int .i64 ca, .string cs] := Whole.fresh _ _ _
      have hga := grown_alloc (grown_refl wr none) (.cells #[.int .i64 ck, .string cn, .string ct, .int .i64 ca, .string cs] 147)
      have hd1 := hd.step hga
      have hch2 : Chgd ok w (wr.alloc (.cells #[.int .i64 ck, .string cn, .string ct, .int .i64 ca, .string cs] 147)) := hch.trans (Chgd.new hga)
      clear q0 q1 q2 q3 q4 hga hd hch
      generalize (wr.alloc (.cells #[.int .i64 ck, .string cn, .string ct, .int .i64 ca, .string cs] 147)) = W at hb0 hd1 hch2 ⊢
      refine wp_region_still_tail 5 (by kernel_rfl) (by kernel_rfl) ?_
      have ew : ({ heap := W.heap, tape := W.tape, drawn := W.drawn + 1, os := W.os, output := W.output } : World) = W.drew := rfl
      rw [ew]
      clear ew
      have hb2 := hb0.drew
      have hd2 := hd1.step (grown_drew (grown_refl W none))
      have hch3 : Chgd ok w W.drew := hch2.trans (Chgd.new (grown_drew (grown_refl W none)))
      clear hb0 hd1 hch2
      generalize W.drew = W2 at hb2 hd2 hch3 ⊢
      have c0 : W2.cell? ⟨g, 0, none⟩ = some (.map (some bs)) := hd2.core.cell 0
      have b0 : W2.cell? ⟨wr.heap.size, 0, none⟩ = some (.int .i64 ck) := hb2.cell 0
      have b1 : W2.cell? ⟨wr.heap.size, 1, none⟩ = some (.string cn) := hb2.cell 1
      have b2 : W2.cell? ⟨wr.heap.size, 2, none⟩ = some (.string ct) := hb2.cell 2
      have b3 : W2.cell? ⟨wr.heap.size, 3, none⟩ = some (.int .i64 ca) := hb2.cell 3
      have b4 : W2.cell? ⟨wr.heap.size, 4, none⟩ = some (.string cs) := hb2.cell 4
      simp only [List.take_succ_cons, List.take_zero, List.drop_succ_cons, List.drop_zero]
      repeat still_step
      try refine wpStill_nil ?_
      clear c0 b0 b1 b2 b3 b4
      go_wp2_with fail
      refine (do_any hd2.sure (by omega) ⟨ck, cn, ct, ca, cs⟩ hm hs1).mono ?_
      rintro e w3 ⟨rfl, hf3, hg3⟩
      rw [← FT.out] at hf3
      have hd3 := hd2.sureTo hg3 hf3
      have hch4 := hch3.trans (Chgd.of_grown hg3 (by simpa using hd2.oks))
      clear hd2 hch3 hg3 hf3 hb2
      go_wp2
      go_roundw
      case rel => exact ⟨k + 1, by omega, by go_num, hd3, hch4⟩
      case measure => simp [intOf]; omega
    · have hk' : k = L.length := by omega
      have f2 := hd.core.thaw 2
      have c2 : wr.cell? ⟨g, 2, none⟩ = some loose := hd.core.cell 2
      have e1 : L.take k = L := by rw [hk']; simp
      rw [e1] at hd
      obtain ⟨d1, d2⟩ := hd.setLoose
      have d3 := hch.trans (Chgd.of_grown d2 (by simpa using hd.okg))
      clear e1 hk'
      go_wp2
      go_ret
      exact ⟨rfl, .slice none 0 0, d1, d3⟩
end
end Dk
end Go.Proofs.Ytohphljhldcjbaa
