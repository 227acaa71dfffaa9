/- The disk's power fails: what stays. -/
import Derived.Test.YtohphljhldcjbaaDkH
namespace Go.Proofs.Ytohphljhldcjbaa
open Go.RowKit Go.Maps
namespace Dk

/-- A beginning of a change. -/
def torn (c : Chg) (t : Int) : Chg := { c with s := c.s.extract 0 (min t.toNat c.s.size) }
/-- What stays behind a fall. -/
def fallS (S : FS) (L : List Chg) (k : Nat) (t : Int) : FS :=
  match L[k]? with
  | some c => if 0 < t ∧ c.k = 0 then doC (fold S (L.take k)) (torn c t) else fold S (L.take k)
  | none => fold S (L.take k)

theorem fallS_none {S : FS} {L : List Chg} {k : Nat} {t : Int} (h : L.length ≤ k) : fallS S L k t = fold S (L.take k) := by
  unfold fallS
  rw [List.getElem?_eq_none h]
theorem fallS_no {S : FS} {L : List Chg} {k : Nat} {t : Int} (hk : k < L.length) (h : ¬ (0 < t ∧ L[k].k = 0)) : fallS S L k t = fold S (L.take k) := by
  unfold fallS
  rw [List.getElem?_eq_getElem hk]
  simp only
  rw [if_neg h]
theorem fallS_yes {S : FS} {L : List Chg} {k : Nat} {t : Int} (hk : k < L.length) (h : 0 < t ∧ L[k].k = 0) : fallS S L k t = doC (fold S (L.take k)) (torn L[k] t) := by
  unfold fallS
  rw [List.getElem?_eq_getElem hk]
  simp only
  rw [if_pos h]
theorem may_torn {D : FS} {c : Chg} (h : May D c) (t : Int) : May D (torn c t) :=
  have hs : (torn c t).s.size ≤ c.s.size := ext_le _ _ _
  ⟨h.kind, h.name, h.to, Nat.le_trans hs h.s, h.at_, fun hk => by have := h.room hk; show c.at_ + (torn c t).s.size ≤ _; omega⟩

/-- How many loose changes stay. -/
def stay (keep : Int) (n : Nat) : Nat := min keep.toNat n

/-- How a fall ends. -/
def Falls (ok : Nat → Prop) (w : World) (g bs : Nat) (S : FS) (made : Nat) (plan : Value) (e : Ending) (w' : World) : Prop :=
  e = .returned (.tuple #[]) ∧ ∃ bn, Dsk ok w' g bs bn (.slice none 0 0) S S [] made plan true ∧ Chgd ok w w'

section
variable {ok : Nat → Prop} {w w' : World} {g bs bn : Nat} {loose : Value} {S S' N : FS} {L : List Chg} {made : Nat} {plan : Value} {dead : Bool}

/-- The end of a fall: the files are those that are sure. -/
theorem fall_done (hd : Dsk ok w g bs bn loose S N L made plan dead) {w1 : World} {b : Nat} (hnew : ok b) (hf : Files w1 b S) (hne : bs ≠ b) (hg : w.grownBy w1 none) :
    Dsk ok (((w1.setCell ⟨g, 1, none⟩ (.map (some b))).setCell ⟨g, 2, none⟩ (.slice none 0 0)).setCell ⟨g, 5, none⟩ (.bool true)) g bs b (.slice none 0 0) S S [] made plan true ∧
    Chgd ok w (((w1.setCell ⟨g, 1, none⟩ (.map (some b))).setCell ⟨g, 2, none⟩ (.slice none 0 0)).setCell ⟨g, 5, none⟩ (.bool true)) := by
  have h1 := hd.step hg
  have hset : w1.grownBy (((w1.setCell ⟨g, 1, none⟩ (.map (some b))).setCell ⟨g, 2, none⟩ (.slice none 0 0)).setCell ⟨g, 5, none⟩ (.bool true)) (some g) := by
    refine grown_set ?_ (Or.inl rfl) _
    refine grown_set ?_ (Or.inl rfl) _
    refine grown_set ?_ (Or.inl rfl) _
    exact grown_refl _ _
  refine ⟨⟨?_, h1.sure.grown hset (fun e => core_ne h1.core h1.sure (by injection e with e; exact e.symm)), hf.grown hset (fun e => core_ne h1.core hf (by injection e with e; exact e.symm)), hne, World.ownsRow_nil _ _ _ _, h1.okg, h1.oks, hnew, fun b hb => by simp [Value.ownBlock] at hb⟩, (Chgd.new hg).trans (Chgd.of_grown hset (by simpa using h1.okg))⟩
  have h2 := ((h1.core.set_ 1 (.map (some b))).set_ 2 (.slice none 0 0)).set_ 5 (.bool true)
  unfold Core
  simpa using h2

set_option maxHeartbeats 4000000 in
set_option maxRecDepth 100000 in
theorem fall_neg (h : Dsk ok w g bs bn loose S N L made plan dead) (ht : Tidy S) (hs : Small S) (hp : Plays S L) (hz : Maps.size S ≤ 1000) (hL : L.length ≤ 1000000) (hnew : ∀ k, w.heap.size ≤ k → ok k) (keep : Int) (tn : Int) (hkeep : keep < 0) :
    Calls Try.prog 77 #[.pointer (some ⟨g, 0, none⟩), .int .i64 keep, .int .i64 tn] w (Falls ok w g bs (fallS S L 0 tn) made plan) := by
  obtain ⟨A, cap, hv, hcap, hA⟩ := h.lies
  have HV := Lib.hid hv
  have HA := Lib.hid hA
  have c2 : w.cell? ⟨g, 2, none⟩ = some (.slice A L.length cap) := by rw [← hv]; exact h.core.cell 2
  clear hv hA
  go_enter Try.func77, Try.ntmps77
  go_wp2_with fail
  have hch : Chgd ok w w := Chgd.refl _ _
  have h1 := h
  clear c2
  go_loopw [24] (fun i wr => ∃ k : Nat, k ≤ 0 ∧ i = .int .i64 k ∧ Dsk ok wr g bs bn loose (fold S (L.take k)) N L made plan dead ∧ Chgd ok w wr) (fun i _ => 0 - (intOf i).toNat)
  case atStart => exact ⟨0, Nat.zero_le _, rfl, by simpa [fold] using h1, hch⟩
  case round =>
    clear h1 hch
    obtain ⟨k, hk, rfl, hd, hch⟩ := hrel
    by_cases hlt : k < 0
    · omega
    · have hk' : k = 0 := by omega
      have K := Lib.hid hk'
      have hnew' : ∀ {W : World}, Chgd ok w W → ok W.heap.size := fun hc => hnew _ hc.size
      clear hlt
      have c2 : wr.cell? ⟨g, 2, none⟩ = some (.slice A L.length cap) := by rw [← HV.out]; exact hd.core.cell 2
      by_cases hin : 0 < L.length
      · obtain ⟨p, rfl, hcells⟩ := HA.out (by omega)
        have hq := hcells wr _ hd 0 hin
        by_cases htn : 0 < tn
        · by_cases hkd : L[0].k = 0
          · have hfs := fallS_yes (S := S) (t := tn) hin ⟨htn, hkd⟩
            rw [K.out] at hd
            have hm := hp 0 hin
            obtain ⟨ht1, hs1, hz1⟩ := fold_facts ht hs hp 0 (by omega)
            obtain ⟨q0, q1, q2, q3, q4⟩ := hq
            generalize hcL : L[0] = c at q0 q1 q2 q3 q4 hm hfs hkd
            obtain ⟨ck, cn, ct, ca, cs⟩ := c
            have hmt := may_torn hm tn
            unfold torn at hfs hmt
            simp only at q0 q1 q2 q3 q4 hfs hmt hkd
            have hkd' : ((ck : Int) == 0) = true := beq_iff_eq.2 (by omega)
            clear hcL hcells hkd
            by_cases hts : (cs.size : Int) < tn
            · have e1 : min tn.toNat cs.size = cs.size := by omega
              have e2 : cs.extract 0 cs.size = cs := by simp
              rw [e1, e2] at hfs hmt
              have FT := Lib.hid hfs
              clear hfs e1 e2
              go_wp2_with fail
              have hb0 : Whole (wr.alloc (.cells #[.int .i64 ck, .string cn, .string ct, .int .i64 ca, .string (cs)] 147)) wr.heap.size 147 #[.int .i64 ck, .string cn, .string ct, .int .i64 ca, .string (cs)] := Whole.fresh _ _ _
              have hga := grown_alloc (grown_refl wr none) (.cells #[.int .i64 ck, .string cn, .string ct, .int .i64 ca, .string (cs)] 147)
              have hd1 := hd.step hga
              have hch2 : Chgd ok w (wr.alloc (.cells #[.int .i64 ck, .string cn, .string ct, .int .i64 ca, .string (cs)] 147)) := hch.trans (Chgd.new hga)
              clear q0 q1 q2 q3 q4 hga hd hch c2
              generalize (wr.alloc (.cells #[.int .i64 ck, .string cn, .string ct, .int .i64 ca, .string (cs)] 147)) = W at hb0 hd1 hch2 ⊢
              refine wp_region_still_tail 5 (by kernel_rfl) (by kernel_rfl) ?_
              have ew : ({ heap := W.heap, tape := W.tape, drawn := W.drawn + 1, os := W.os, output := W.output } : World) = W.drew := rfl
              rw [ew]
              clear ew
              have hb2 := hb0.drew
              have hd2 := hd1.step (grown_drew (grown_refl W none))
              have hch3 : Chgd ok w W.drew := hch2.trans (Chgd.new (grown_drew (grown_refl W none)))
              clear hb0 hd1 hch2
              generalize W.drew = W2 at hb2 hd2 hch3 ⊢
              have c0 : W2.cell? ⟨g, 0, none⟩ = some (.map (some bs)) := hd2.core.cell 0
              have b0 : W2.cell? ⟨wr.heap.size, 0, none⟩ = some (.int .i64 ck) := hb2.cell 0
              have b1 : W2.cell? ⟨wr.heap.size, 1, none⟩ = some (.string cn) := hb2.cell 1
              have b2 : W2.cell? ⟨wr.heap.size, 2, none⟩ = some (.string ct) := hb2.cell 2
              have b3 : W2.cell? ⟨wr.heap.size, 3, none⟩ = some (.int .i64 ca) := hb2.cell 3
              have b4 : W2.cell? ⟨wr.heap.size, 4, none⟩ = some (.string (cs)) := hb2.cell 4
              simp only [List.take_succ_cons, List.take_zero, List.drop_succ_cons, List.drop_zero]
              repeat still_step
              try refine wpStill_nil ?_
              clear c0 b0 b1 b2 b3 b4
              go_wp2_with fail
              refine (do_any hd2.sure (by omega) ⟨ck, cn, ct, ca, cs⟩ hmt hs1).mono ?_
              rintro e w3 ⟨rfl, hf3, hg3⟩
              rw [← FT.out] at hf3
              have hd3 := hd2.sureTo hg3 hf3
              have hch4 := hch3.trans (Chgd.of_grown hg3 (by simpa using hd2.oks))
              clear hd2 hch3 hg3 hf3 hb2
              have c0 : w3.cell? ⟨g, 0, none⟩ = some (.map (some bs)) := hd3.core.cell 0
              go_wp2_with fail
              refine (clone_any bs _ _ hd3.sure).mono ?_
              rintro e w9 ⟨rfl, hf9, hg9⟩
              have hd9 := hd3.step hg9
              have c1 : w9.cell? ⟨g, 1, none⟩ = some (.map (some bn)) := hd9.core.cell 1
              have c2 : w9.cell? ⟨g, 2, none⟩ = some loose := hd9.core.cell 2
              have c5 : w9.cell? ⟨g, 5, none⟩ = some (.bool dead) := hd9.core.cell 5
              have f1 := hd9.core.thaw 1
              have f2 := hd9.core.thaw 2
              have f5 := hd9.core.thaw 5
              obtain ⟨z1, z2⟩ := fall_done hd3 (hnew' hch4) hf9 (by have := hd3.sure.lt; omega) hg9
              have z3 := hch4.trans z2
              clear c0 hd9 hf9 hg9
              go_wp2
              go_end0
              exact ⟨rfl, _, z1, z3⟩
            · obtain ⟨m, rfl⟩ := Int.eq_ofNat_of_zero_le (show 0 ≤ tn by omega)
              have hmsz : m ≤ cs.size := by omega
              have hm0 : 0 < m := by omega
              have e1 : min (m : Int).toNat cs.size = m := by omega
              rw [e1] at hfs hmt
              have FT := Lib.hid hfs
              clear hfs e1 hts htn
              go_wp2_with fail
              have hb0 : Whole (wr.alloc (.cells #[.int .i64 ck, .string cn, .string ct, .int .i64 ca, .string (cs.extract 0 m)] 147)) wr.heap.size 147 #[.int .i64 ck, .string cn, .string ct, .int .i64 ca, .string (cs.extract 0 m)] := Whole.fresh _ _ _
              have hga := grown_alloc (grown_refl wr none) (.cells #[.int .i64 ck, .string cn, .string ct, .int .i64 ca, .string (cs.extract 0 m)] 147)
              have hd1 := hd.step hga
              have hch2 : Chgd ok w (wr.alloc (.cells #[.int .i64 ck, .string cn, .string ct, .int .i64 ca, .string (cs.extract 0 m)] 147)) := hch.trans (Chgd.new hga)
              clear q0 q1 q2 q3 q4 hga hd hch c2
              generalize (wr.alloc (.cells #[.int .i64 ck, .string cn, .string ct, .int .i64 ca, .string (cs.extract 0 m)] 147)) = W at hb0 hd1 hch2 ⊢
              refine wp_region_still_tail 5 (by kernel_rfl) (by kernel_rfl) ?_
              have ew : ({ heap := W.heap, tape := W.tape, drawn := W.drawn + 1, os := W.os, output := W.output } : World) = W.drew := rfl
              rw [ew]
              clear ew
              have hb2 := hb0.drew
              have hd2 := hd1.step (grown_drew (grown_refl W none))
              have hch3 : Chgd ok w W.drew := hch2.trans (Chgd.new (grown_drew (grown_refl W none)))
              clear hb0 hd1 hch2
              generalize W.drew = W2 at hb2 hd2 hch3 ⊢
              have c0 : W2.cell? ⟨g, 0, none⟩ = some (.map (some bs)) := hd2.core.cell 0
              have b0 : W2.cell? ⟨wr.heap.size, 0, none⟩ = some (.int .i64 ck) := hb2.cell 0
              have b1 : W2.cell? ⟨wr.heap.size, 1, none⟩ = some (.string cn) := hb2.cell 1
              have b2 : W2.cell? ⟨wr.heap.size, 2, none⟩ = some (.string ct) := hb2.cell 2
              have b3 : W2.cell? ⟨wr.heap.size, 3, none⟩ = some (.int .i64 ca) := hb2.cell 3
              have b4 : W2.cell? ⟨wr.heap.size, 4, none⟩ = some (.string (cs.extract 0 m)) := hb2.cell 4
              simp only [List.take_succ_cons, List.take_zero, List.drop_succ_cons, List.drop_zero]
              repeat still_step
              try refine wpStill_nil ?_
              clear c0 b0 b1 b2 b3 b4
              go_wp2_with fail
              refine (do_any hd2.sure (by omega) ⟨ck, cn, ct, ca, cs.extract 0 m⟩ hmt hs1).mono ?_
              rintro e w3 ⟨rfl, hf3, hg3⟩
              rw [← FT.out] at hf3
              have hd3 := hd2.sureTo hg3 hf3
              have hch4 := hch3.trans (Chgd.of_grown hg3 (by simpa using hd2.oks))
              clear hd2 hch3 hg3 hf3 hb2
              have c0 : w3.cell? ⟨g, 0, none⟩ = some (.map (some bs)) := hd3.core.cell 0
              go_wp2_with fail
              refine (clone_any bs _ _ hd3.sure).mono ?_
              rintro e w9 ⟨rfl, hf9, hg9⟩
              have hd9 := hd3.step hg9
              have c1 : w9.cell? ⟨g, 1, none⟩ = some (.map (some bn)) := hd9.core.cell 1
              have c2 : w9.cell? ⟨g, 2, none⟩ = some loose := hd9.core.cell 2
              have c5 : w9.cell? ⟨g, 5, none⟩ = some (.bool dead) := hd9.core.cell 5
              have f1 := hd9.core.thaw 1
              have f2 := hd9.core.thaw 2
              have f5 := hd9.core.thaw 5
              obtain ⟨z1, z2⟩ := fall_done hd3 (hnew' hch4) hf9 (by have := hd3.sure.lt; omega) hg9
              have z3 := hch4.trans z2
              clear c0 hd9 hf9 hg9
              go_wp2
              go_end0
              exact ⟨rfl, _, z1, z3⟩
          · have hfs := fallS_no (S := S) (t := tn) hin (fun x => hkd x.2)
            rw [K.out] at hd
            rw [← hfs] at hd
            obtain ⟨q0, _⟩ := hq
            have hkd' : ((L[0].k : Int) == 0) = false := beq_eq_false_iff_ne.2 (by omega)
            generalize L[0].k = ck at q0 hkd hkd'
            clear hfs hcells
            have c0 : wr.cell? ⟨g, 0, none⟩ = some (.map (some bs)) := hd.core.cell 0
            go_wp2_with fail
            refine (clone_any bs _ _ hd.sure).mono ?_
            rintro e w9 ⟨rfl, hf9, hg9⟩
            have hd9 := hd.step hg9
            have c1 : w9.cell? ⟨g, 1, none⟩ = some (.map (some bn)) := hd9.core.cell 1
            have c2 : w9.cell? ⟨g, 2, none⟩ = some loose := hd9.core.cell 2
            have c5 : w9.cell? ⟨g, 5, none⟩ = some (.bool dead) := hd9.core.cell 5
            have f1 := hd9.core.thaw 1
            have f2 := hd9.core.thaw 2
            have f5 := hd9.core.thaw 5
            obtain ⟨z1, z2⟩ := fall_done hd (hnew' hch) hf9 (by have := hd.sure.lt; omega) hg9
            have z3 := hch.trans z2
            clear c0 hd9 hf9 hg9
            go_wp2
            go_end0
            exact ⟨rfl, _, z1, z3⟩
        · have hfs := fallS_no (S := S) (t := tn) hin (fun x => htn x.1)
          rw [K.out] at hd
          rw [← hfs] at hd
          have htn' : tn ≤ 0 := by omega
          clear hfs hcells hq htn
          have c0 : wr.cell? ⟨g, 0, none⟩ = some (.map (some bs)) := hd.core.cell 0
          go_wp2_with fail
          refine (clone_any bs _ _ hd.sure).mono ?_
          rintro e w9 ⟨rfl, hf9, hg9⟩
          have hd9 := hd.step hg9
          have c1 : w9.cell? ⟨g, 1, none⟩ = some (.map (some bn)) := hd9.core.cell 1
          have c2 : w9.cell? ⟨g, 2, none⟩ = some loose := hd9.core.cell 2
          have c5 : w9.cell? ⟨g, 5, none⟩ = some (.bool dead) := hd9.core.cell 5
          have f1 := hd9.core.thaw 1
          have f2 := hd9.core.thaw 2
          have f5 := hd9.core.thaw 5
          obtain ⟨z1, z2⟩ := fall_done hd (hnew' hch) hf9 (by have := hd.sure.lt; omega) hg9
          have z3 := hch.trans z2
          clear c0 hd9 hf9 hg9
          go_wp2
          go_end0
          exact ⟨rfl, _, z1, z3⟩
      · have hfs := fallS_none (S := S) (t := tn) (show L.length ≤ 0 by omega)
        rw [K.out] at hd
        rw [← hfs] at hd
        have hin' : L.length ≤ 0 := by omega
        clear hfs hin
        have c0 : wr.cell? ⟨g, 0, none⟩ = some (.map (some bs)) := hd.core.cell 0
        go_wp2_with fail
        refine (clone_any bs _ _ hd.sure).mono ?_
        rintro e w9 ⟨rfl, hf9, hg9⟩
        have hd9 := hd.step hg9
        have c1 : w9.cell? ⟨g, 1, none⟩ = some (.map (some bn)) := hd9.core.cell 1
        have c2 : w9.cell? ⟨g, 2, none⟩ = some loose := hd9.core.cell 2
        have c5 : w9.cell? ⟨g, 5, none⟩ = some (.bool dead) := hd9.core.cell 5
        have f1 := hd9.core.thaw 1
        have f2 := hd9.core.thaw 2
        have f5 := hd9.core.thaw 5
        obtain ⟨z1, z2⟩ := fall_done hd (hnew' hch) hf9 (by have := hd.sure.lt; omega) hg9
        have z3 := hch.trans z2
        clear c0 hd9 hf9 hg9
        go_wp2
        go_end0
        exact ⟨rfl, _, z1, z3⟩


set_option maxHeartbeats 4000000 in
set_option maxRecDepth 100000 in
theorem fall_zero (h : Dsk ok w g bs bn loose S N L made plan dead) (ht : Tidy S) (hs : Small S) (hp : Plays S L) (hz : Maps.size S ≤ 1000) (hL : L.length ≤ 1000000) (hnew : ∀ k, w.heap.size ≤ k → ok k) (tn : Int) :
    Calls Try.prog 77 #[.pointer (some ⟨g, 0, none⟩), .int .i64 0, .int .i64 tn] w (Falls ok w g bs (fallS S L 0 tn) made plan) := by
  obtain ⟨A, cap, hv, hcap, hA⟩ := h.lies
  have HV := Lib.hid hv
  have HA := Lib.hid hA
  have c2 : w.cell? ⟨g, 2, none⟩ = some (.slice A L.length cap) := by rw [← hv]; exact h.core.cell 2
  clear hv hA
  go_enter Try.func77, Try.ntmps77
  go_wp2_with fail
  have hch : Chgd ok w w := Chgd.refl _ _
  have h1 := h
  clear c2
  go_loopw [24] (fun i wr => ∃ k : Nat, k ≤ 0 ∧ i = .int .i64 k ∧ Dsk ok wr g bs bn loose (fold S (L.take k)) N L made plan dead ∧ Chgd ok w wr) (fun i _ => 0 - (intOf i).toNat)
  case atStart => exact ⟨0, Nat.zero_le _, rfl, by simpa [fold] using h1, hch⟩
  case round =>
    clear h1 hch
    obtain ⟨k, hk, rfl, hd, hch⟩ := hrel
    by_cases hlt : k < 0
    · omega
    · have hk' : k = 0 := by omega
      have K := Lib.hid hk'
      have hnew' : ∀ {W : World}, Chgd ok w W → ok W.heap.size := fun hc => hnew _ hc.size
      clear hlt
      have c2 : wr.cell? ⟨g, 2, none⟩ = some (.slice A L.length cap) := by rw [← HV.out]; exact hd.core.cell 2
      by_cases hin : 0 < L.length
      · obtain ⟨p, rfl, hcells⟩ := HA.out (by omega)
        have hq := hcells wr _ hd 0 hin
        by_cases htn : 0 < tn
        · by_cases hkd : L[0].k = 0
          · have hfs := fallS_yes (S := S) (t := tn) hin ⟨htn, hkd⟩
            rw [K.out] at hd
            have hm := hp 0 hin
            obtain ⟨ht1, hs1, hz1⟩ := fold_facts ht hs hp 0 (by omega)
            obtain ⟨q0, q1, q2, q3, q4⟩ := hq
            generalize hcL : L[0] = c at q0 q1 q2 q3 q4 hm hfs hkd
            obtain ⟨ck, cn, ct, ca, cs⟩ := c
            have hmt := may_torn hm tn
            unfold torn at hfs hmt
            simp only at q0 q1 q2 q3 q4 hfs hmt hkd
            have hkd' : ((ck : Int) == 0) = true := beq_iff_eq.2 (by omega)
            clear hcL hcells hkd
            by_cases hts : (cs.size : Int) < tn
            · have e1 : min tn.toNat cs.size = cs.size := by omega
              have e2 : cs.extract 0 cs.size = cs := by simp
              rw [e1, e2] at hfs hmt
              have FT := Lib.hid hfs
              clear hfs e1 e2
              go_wp2_with fail
              have hb0 : Whole (wr.alloc (.cells #[.int .i64 ck, .string cn, .string ct, .int .i64 ca, .string (cs)] 147)) wr.heap.size 147 #[.int .i64 ck, .string cn, .string ct, .int .i64 ca, .string (cs)] := Whole.fresh _ _ _
              have hga := grown_alloc (grown_refl wr none) (.cells #[.int .i64 ck, .string cn, .string ct, .int .i64 ca, .string (cs)] 147)
              have hd1 := hd.step hga
              have hch2 : Chgd ok w (wr.alloc (.cells #[.int .i64 ck, .string cn, .string ct, .int .i64 ca, .string (cs)] 147)) := hch.trans (Chgd.new hga)
              clear q0 q1 q2 q3 q4 hga hd hch c2
              generalize (wr.alloc (.cells #[.int .i64 ck, .string cn, .string ct, .int .i64 ca, .string (cs)] 147)) = W at hb0 hd1 hch2 ⊢
              refine wp_region_still_tail 5 (by kernel_rfl) (by kernel_rfl) ?_
              have ew : ({ heap := W.heap, tape := W.tape, drawn := W.drawn + 1, os := W.os, output := W.output } : World) = W.drew := rfl
              rw [ew]
              clear ew
              have hb2 := hb0.drew
              have hd2 := hd1.step (grown_drew (grown_refl W none))
              have hch3 : Chgd ok w W.drew := hch2.trans (Chgd.new (grown_drew (grown_refl W none)))
              clear hb0 hd1 hch2
              generalize W.drew = W2 at hb2 hd2 hch3 ⊢
              have c0 : W2.cell? ⟨g, 0, none⟩ = some (.map (some bs)) := hd2.core.cell 0
              have b0 : W2.cell? ⟨wr.heap.size, 0, none⟩ = some (.int .i64 ck) := hb2.cell 0
              have b1 : W2.cell? ⟨wr.heap.size, 1, none⟩ = some (.string cn) := hb2.cell 1
              have b2 : W2.cell? ⟨wr.heap.size, 2, none⟩ = some (.string ct) := hb2.cell 2
              have b3 : W2.cell? ⟨wr.heap.size, 3, none⟩ = some (.int .i64 ca) := hb2.cell 3
              have b4 : W2.cell? ⟨wr.heap.size, 4, none⟩ = some (.string (cs)) := hb2.cell 4
              simp only [List.take_succ_cons, List.take_zero, List.drop_succ_cons, List.drop_zero]
              repeat still_step
              try refine wpStill_nil ?_
              clear c0 b0 b1 b2 b3 b4
              go_wp2_with fail
              refine (do_any hd2.sure (by omega) ⟨ck, cn, ct, ca, cs⟩ hmt hs1).mono ?_
              rintro e w3 ⟨rfl, hf3, hg3⟩
              rw [← FT.out] at hf3
              have hd3 := hd2.sureTo hg3 hf3
              have hch4 := hch3.trans (Chgd.of_grown hg3 (by simpa using hd2.oks))
              clear hd2 hch3 hg3 hf3 hb2
              have c0 : w3.cell? ⟨g, 0, none⟩ = some (.map (some bs)) := hd3.core.cell 0
              go_wp2_with fail
              refine (clone_any bs _ _ hd3.sure).mono ?_
              rintro e w9 ⟨rfl, hf9, hg9⟩
              have hd9 := hd3.step hg9
              have c1 : w9.cell? ⟨g, 1, none⟩ = some (.map (some bn)) := hd9.core.cell 1
              have c2 : w9.cell? ⟨g, 2, none⟩ = some loose := hd9.core.cell 2
              have c5 : w9.cell? ⟨g, 5, none⟩ = some (.bool dead) := hd9.core.cell 5
              have f1 := hd9.core.thaw 1
              have f2 := hd9.core.thaw 2
              have f5 := hd9.core.thaw 5
              obtain ⟨z1, z2⟩ := fall_done hd3 (hnew' hch4) hf9 (by have := hd3.sure.lt; omega) hg9
              have z3 := hch4.trans z2
              clear c0 hd9 hf9 hg9
              go_wp2
              go_end0
              exact ⟨rfl, _, z1, z3⟩
            · obtain ⟨m, rfl⟩ := Int.eq_ofNat_of_zero_le (show 0 ≤ tn by omega)
              have hmsz : m ≤ cs.size := by omega
              have hm0 : 0 < m := by omega
              have e1 : min (m : Int).toNat cs.size = m := by omega
              rw [e1] at hfs hmt
              have FT := Lib.hid hfs
              clear hfs e1 hts htn
              go_wp2_with fail
              have hb0 : Whole (wr.alloc (.cells #[.int .i64 ck, .string cn, .string ct, .int .i64 ca, .string (cs.extract 0 m)] 147)) wr.heap.size 147 #[.int .i64 ck, .string cn, .string ct, .int .i64 ca, .string (cs.extract 0 m)] := Whole.fresh _ _ _
              have hga := grown_alloc (grown_refl wr none) (.cells #[.int .i64 ck, .string cn, .string ct, .int .i64 ca, .string (cs.extract 0 m)] 147)
              have hd1 := hd.step hga
              have hch2 : Chgd ok w (wr.alloc (.cells #[.int .i64 ck, .string cn, .string ct, .int .i64 ca, .string (cs.extract 0 m)] 147)) := hch.trans (Chgd.new hga)
              clear q0 q1 q2 q3 q4 hga hd hch c2
              generalize (wr.alloc (.cells #[.int .i64 ck, .string cn, .string ct, .int .i64 ca, .string (cs.extract 0 m)] 147)) = W at hb0 hd1 hch2 ⊢
              refine wp_region_still_tail 5 (by kernel_rfl) (by kernel_rfl) ?_
              have ew : ({ heap := W.heap, tape := W.tape, drawn := W.drawn + 1, os := W.os, output := W.output } : World) = W.drew := rfl
              rw [ew]
              clear ew
              have hb2 := hb0.drew
              have hd2 := hd1.step (grown_drew (grown_refl W none))
              have hch3 : Chgd ok w W.drew := hch2.trans (Chgd.new (grown_drew (grown_refl W none)))
              clear hb0 hd1 hch2
              generalize W.drew = W2 at hb2 hd2 hch3 ⊢
              have c0 : W2.cell? ⟨g, 0, none⟩ = some (.map (some bs)) := hd2.core.cell 0
              have b0 : W2.cell? ⟨wr.heap.size, 0, none⟩ = some (.int .i64 ck) := hb2.cell 0
              have b1 : W2.cell? ⟨wr.heap.size, 1, none⟩ = some (.string cn) := hb2.cell 1
              have b2 : W2.cell? ⟨wr.heap.size, 2, none⟩ = some (.string ct) := hb2.cell 2
              have b3 : W2.cell? ⟨wr.heap.size, 3, none⟩ = some (.int .i64 ca) := hb2.cell 3
              have b4 : W2.cell? ⟨wr.heap.size, 4, none⟩ = some (.string (cs.extract 0 m)) := hb2.cell 4
              simp only [List.take_succ_cons, List.take_zero, List.drop_succ_cons, List.drop_zero]
              repeat still_step
              try refine wpStill_nil ?_
              clear c0 b0 b1 b2 b3 b4
              go_wp2_with fail
              refine (do_any hd2.sure (by omega) ⟨ck, cn, ct, ca, cs.extract 0 m⟩ hmt hs1).mono ?_
              rintro e w3 ⟨rfl, hf3, hg3⟩
              rw [← FT.out] at hf3
              have hd3 := hd2.sureTo hg3 hf3
              have hch4 := hch3.trans (Chgd.of_grown hg3 (by simpa using hd2.oks))
              clear hd2 hch3 hg3 hf3 hb2
              have c0 : w3.cell? ⟨g, 0, none⟩ = some (.map (some bs)) := hd3.core.cell 0
              go_wp2_with fail
              refine (clone_any bs _ _ hd3.sure).mono ?_
              rintro e w9 ⟨rfl, hf9, hg9⟩
              have hd9 := hd3.step hg9
              have c1 : w9.cell? ⟨g, 1, none⟩ = some (.map (some bn)) := hd9.core.cell 1
              have c2 : w9.cell? ⟨g, 2, none⟩ = some loose := hd9.core.cell 2
              have c5 : w9.cell? ⟨g, 5, none⟩ = some (.bool dead) := hd9.core.cell 5
              have f1 := hd9.core.thaw 1
              have f2 := hd9.core.thaw 2
              have f5 := hd9.core.thaw 5
              obtain ⟨z1, z2⟩ := fall_done hd3 (hnew' hch4) hf9 (by have := hd3.sure.lt; omega) hg9
              have z3 := hch4.trans z2
              clear c0 hd9 hf9 hg9
              go_wp2
              go_end0
              exact ⟨rfl, _, z1, z3⟩
          · have hfs := fallS_no (S := S) (t := tn) hin (fun x => hkd x.2)
            rw [K.out] at hd
            rw [← hfs] at hd
            obtain ⟨q0, _⟩ := hq
            have hkd' : ((L[0].k : Int) == 0) = false := beq_eq_false_iff_ne.2 (by omega)
            generalize L[0].k = ck at q0 hkd hkd'
            clear hfs hcells
            have c0 : wr.cell? ⟨g, 0, none⟩ = some (.map (some bs)) := hd.core.cell 0
            go_wp2_with fail
            refine (clone_any bs _ _ hd.sure).mono ?_
            rintro e w9 ⟨rfl, hf9, hg9⟩
            have hd9 := hd.step hg9
            have c1 : w9.cell? ⟨g, 1, none⟩ = some (.map (some bn)) := hd9.core.cell 1
            have c2 : w9.cell? ⟨g, 2, none⟩ = some loose := hd9.core.cell 2
            have c5 : w9.cell? ⟨g, 5, none⟩ = some (.bool dead) := hd9.core.cell 5
            have f1 := hd9.core.thaw 1
            have f2 := hd9.core.thaw 2
            have f5 := hd9.core.thaw 5
            obtain ⟨z1, z2⟩ := fall_done hd (hnew' hch) hf9 (by have := hd.sure.lt; omega) hg9
            have z3 := hch.trans z2
            clear c0 hd9 hf9 hg9
            go_wp2
            go_end0
            exact ⟨rfl, _, z1, z3⟩
        · have hfs := fallS_no (S := S) (t := tn) hin (fun x => htn x.1)
          rw [K.out] at hd
          rw [← hfs] at hd
          have htn' : tn ≤ 0 := by omega
          clear hfs hcells hq htn
          have c0 : wr.cell? ⟨g, 0, none⟩ = some (.map (some bs)) := hd.core.cell 0
          go_wp2_with fail
          refine (clone_any bs _ _ hd.sure).mono ?_
          rintro e w9 ⟨rfl, hf9, hg9⟩
          have hd9 := hd.step hg9
          have c1 : w9.cell? ⟨g, 1, none⟩ = some (.map (some bn)) := hd9.core.cell 1
          have c2 : w9.cell? ⟨g, 2, none⟩ = some loose := hd9.core.cell 2
          have c5 : w9.cell? ⟨g, 5, none⟩ = some (.bool dead) := hd9.core.cell 5
          have f1 := hd9.core.thaw 1
          have f2 := hd9.core.thaw 2
          have f5 := hd9.core.thaw 5
          obtain ⟨z1, z2⟩ := fall_done hd (hnew' hch) hf9 (by have := hd.sure.lt; omega) hg9
          have z3 := hch.trans z2
          clear c0 hd9 hf9 hg9
          go_wp2
          go_end0
          exact ⟨rfl, _, z1, z3⟩
      · have hfs := fallS_none (S := S) (t := tn) (show L.length ≤ 0 by omega)
        rw [K.out] at hd
        rw [← hfs] at hd
        have hin' : L.length ≤ 0 := by omega
        clear hfs hin
        have c0 : wr.cell? ⟨g, 0, none⟩ = some (.map (some bs)) := hd.core.cell 0
        go_wp2_with fail
        refine (clone_any bs _ _ hd.sure).mono ?_
        rintro e w9 ⟨rfl, hf9, hg9⟩
        have hd9 := hd.step hg9
        have c1 : w9.cell? ⟨g, 1, none⟩ = some (.map (some bn)) := hd9.core.cell 1
        have c2 : w9.cell? ⟨g, 2, none⟩ = some loose := hd9.core.cell 2
        have c5 : w9.cell? ⟨g, 5, none⟩ = some (.bool dead) := hd9.core.cell 5
        have f1 := hd9.core.thaw 1
        have f2 := hd9.core.thaw 2
        have f5 := hd9.core.thaw 5
        obtain ⟨z1, z2⟩ := fall_done hd (hnew' hch) hf9 (by have := hd.sure.lt; omega) hg9
        have z3 := hch.trans z2
        clear c0 hd9 hf9 hg9
        go_wp2
        go_end0
        exact ⟨rfl, _, z1, z3⟩


set_option maxHeartbeats 4000000 in
set_option maxRecDepth 100000 in
theorem fall_mid (h : Dsk ok w g bs bn loose S N L made plan dead) (ht : Tidy S) (hs : Small S) (hp : Plays S L) (hz : Maps.size S ≤ 1000) (hL : L.length ≤ 1000000) (hnew : ∀ k, w.heap.size ≤ k → ok k) (kk : Nat) (tn : Int) (hkeep : 0 < kk) (hkl : kk ≤ L.length) :
    Calls Try.prog 77 #[.pointer (some ⟨g, 0, none⟩), .int .i64 kk, .int .i64 tn] w (Falls ok w g bs (fallS S L kk tn) made plan) := by
  obtain ⟨A, cap, hv, hcap, hA⟩ := h.lies
  have HV := Lib.hid hv
  have HA := Lib.hid hA
  have c2 : w.cell? ⟨g, 2, none⟩ = some (.slice A L.length cap) := by rw [← hv]; exact h.core.cell 2
  clear hv hA
  go_enter Try.func77, Try.ntmps77
  go_wp2_with fail
  have hch : Chgd ok w w := Chgd.refl _ _
  have h1 := h
  clear c2
  go_loopw [24] (fun i wr => ∃ k : Nat, k ≤ kk ∧ i = .int .i64 k ∧ Dsk ok wr g bs bn loose (fold S (L.take k)) N L made plan dead ∧ Chgd ok w wr) (fun i _ => kk - (intOf i).toNat)
  case atStart => exact ⟨0, Nat.zero_le _, rfl, by simpa [fold] using h1, hch⟩
  case round =>
    clear h1 hch
    obtain ⟨k, hk, rfl, hd, hch⟩ := hrel
    by_cases hlt : k < kk
    · have hlL : k < L.length := by omega
      obtain ⟨p, rfl, hcells⟩ := HA.out (by omega)
      obtain ⟨q0, q1, q2, q3, q4⟩ := hcells wr _ hd k hlL
      have hm := hp k hlL
      obtain ⟨ht1, hs1, hz1⟩ := fold_facts ht hs hp k (by omega)
      have hft := fold_take (D := S) hlL
      generalize hcL : L[k] = c at q0 q1 q2 q3 q4 hm hft
      obtain ⟨ck, cn, ct, ca, cs⟩ := c
      have FT := Lib.hid hft
      clear hft hcL hcells
      simp only at q0 q1 q2 q3 q4
      go_wp2_with fail
      have hb0 : Whole (wr.alloc (.cells #[.int .i64 ck, .string cn, .string ct, .int .i64 ca, .string cs] 147)) wr.heap.size 147 #[.int .i64 ck, .string cn, .string ct, .int .i64 ca, .string cs] := Whole.fresh _ _ _
      have hga := grown_alloc (grown_refl wr none) (.cells #[.int .i64 ck, .string cn, .string ct, .int .i64 ca, .string cs] 147)
      have hd1 := hd.step hga
      have hch2 : Chgd ok w (wr.alloc (.cells #[.int .i64 ck, .string cn, .string ct, .int .i64 ca, .string cs] 147)) := hch.trans (Chgd.new hga)
      clear q0 q1 q2 q3 q4 hga hd hch
      generalize (wr.alloc (.cells #[.int .i64 ck, .string cn, .string ct, .int .i64 ca, .string cs] 147)) = W at hb0 hd1 hch2 ⊢
      refine wp_region_still_tail 5 (by kernel_rfl) (by kernel_rfl) ?_
      have ew : ({ heap := W.heap, tape := W.tape, drawn := W.drawn + 1, os := W.os, output := W.output } : World) = W.drew := rfl
      rw [ew]
      clear ew
      have hb2 := hb0.drew
      have hd2 := hd1.step (grown_drew (grown_refl W none))
      have hch3 : Chgd ok w W.drew := hch2.trans (Chgd.new (grown_drew (grown_refl W none)))
      clear hb0 hd1 hch2
      generalize W.drew = W2 at hb2 hd2 hch3 ⊢
      have c0 : W2.cell? ⟨g, 0, none⟩ = some (.map (some bs)) := hd2.core.cell 0
      have b0 : W2.cell? ⟨wr.heap.size, 0, none⟩ = some (.int .i64 ck) := hb2.cell 0
      have b1 : W2.cell? ⟨wr.heap.size, 1, none⟩ = some (.string cn) := hb2.cell 1
      have b2 : W2.cell? ⟨wr.heap.size, 2, none⟩ = some (.string ct) := hb2.cell 2
      have b3 : W2.cell? ⟨wr.heap.size, 3, none⟩ = some (.int .i64 ca) := hb2.cell 3
      have b4 : W2.cell? ⟨wr.heap.size, 4, none⟩ = some (.string cs) := hb2.cell 4
      simp only [List.take_succ_cons, List.take_zero, List.drop_succ_cons, List.drop_zero]
      repeat still_step
      try refine wpStill_nil ?_
      clear c0 b0 b1 b2 b3 b4
      go_wp2_with fail
      refine (do_any hd2.sure (by omega) ⟨ck, cn, ct, ca, cs⟩ hm hs1).mono ?_
      rintro e w3 ⟨rfl, hf3, hg3⟩
      rw [← FT.out] at hf3
      have hd3 := hd2.sureTo hg3 hf3
      have hch4 := hch3.trans (Chgd.of_grown hg3 (by simpa using hd2.oks))
      clear hd2 hch3 hg3 hf3 hb2
      go_wp2
      go_roundw
      case rel => exact ⟨k + 1, by omega, by go_num, hd3, hch4⟩
      case measure => simp [intOf]; omega
    · have hk' : k = kk := by omega
      have K := Lib.hid hk'
      have hnew' : ∀ {W : World}, Chgd ok w W → ok W.heap.size := fun hc => hnew _ hc.size
      clear hlt
      have c2 : wr.cell? ⟨g, 2, none⟩ = some (.slice A L.length cap) := by rw [← HV.out]; exact hd.core.cell 2
      by_cases hin : kk < L.length
      · obtain ⟨p, rfl, hcells⟩ := HA.out (by omega)
        have hq := hcells wr _ hd kk hin
        by_cases htn : 0 < tn
        · by_cases hkd : L[kk].k = 0
          · have hfs := fallS_yes (S := S) (t := tn) hin ⟨htn, hkd⟩
            rw [K.out] at hd
            have hm := hp kk hin
            obtain ⟨ht1, hs1, hz1⟩ := fold_facts ht hs hp kk (by omega)
            obtain ⟨q0, q1, q2, q3, q4⟩ := hq
            generalize hcL : L[kk] = c at q0 q1 q2 q3 q4 hm hfs hkd
            obtain ⟨ck, cn, ct, ca, cs⟩ := c
            have hmt := may_torn hm tn
            unfold torn at hfs hmt
            simp only at q0 q1 q2 q3 q4 hfs hmt hkd
            have hkd' : ((ck : Int) == 0) = true := beq_iff_eq.2 (by omega)
            clear hcL hcells hkd
            by_cases hts : (cs.size : Int) < tn
            · have e1 : min tn.toNat cs.size = cs.size := by omega
              have e2 : cs.extract 0 cs.size = cs := by simp
              rw [e1, e2] at hfs hmt
              have FT := Lib.hid hfs
              clear hfs e1 e2
              go_wp2_with fail
              have hb0 : Whole (wr.alloc (.cells #[.int .i64 ck, .string cn, .string ct, .int .i64 ca, .string (cs)] 147)) wr.heap.size 147 #[.int .i64 ck, .string cn, .string ct, .int .i64 ca, .string (cs)] := Whole.fresh _ _ _
              have hga := grown_alloc (grown_refl wr none) (.cells #[.int .i64 ck, .string cn, .string ct, .int .i64 ca, .string (cs)] 147)
              have hd1 := hd.step hga
              have hch2 : Chgd ok w (wr.alloc (.cells #[.int .i64 ck, .string cn, .string ct, .int .i64 ca, .string (cs)] 147)) := hch.trans (Chgd.new hga)
              clear q0 q1 q2 q3 q4 hga hd hch c2
              generalize (wr.alloc (.cells #[.int .i64 ck, .string cn, .string ct, .int .i64 ca, .string (cs)] 147)) = W at hb0 hd1 hch2 ⊢
              refine wp_region_still_tail 5 (by kernel_rfl) (by kernel_rfl) ?_
              have ew : ({ heap := W.heap, tape := W.tape, drawn := W.drawn + 1, os := W.os, output := W.output } : World) = W.drew := rfl
              rw [ew]
              clear ew
              have hb2 := hb0.drew
              have hd2 := hd1.step (grown_drew (grown_refl W none))
              have hch3 : Chgd ok w W.drew := hch2.trans (Chgd.new (grown_drew (grown_refl W none)))
              clear hb0 hd1 hch2
              generalize W.drew = W2 at hb2 hd2 hch3 ⊢
              have c0 : W2.cell? ⟨g, 0, none⟩ = some (.map (some bs)) := hd2.core.cell 0
              have b0 : W2.cell? ⟨wr.heap.size, 0, none⟩ = some (.int .i64 ck) := hb2.cell 0
              have b1 : W2.cell? ⟨wr.heap.size, 1, none⟩ = some (.string cn) := hb2.cell 1
              have b2 : W2.cell? ⟨wr.heap.size, 2, none⟩ = some (.string ct) := hb2.cell 2
              have b3 : W2.cell? ⟨wr.heap.size, 3, none⟩ = some (.int .i64 ca) := hb2.cell 3
              have b4 : W2.cell? ⟨wr.heap.size, 4, none⟩ = some (.string (cs)) := hb2.cell 4
              simp only [List.take_succ_cons, List.take_zero, List.drop_succ_cons, List.drop_zero]
              repeat still_step
              try refine wpStill_nil ?_
              clear c0 b0 b1 b2 b3 b4
              go_wp2_with fail
              refine (do_any hd2.sure (by omega) ⟨ck, cn, ct, ca, cs⟩ hmt hs1).mono ?_
              rintro e w3 ⟨rfl, hf3, hg3⟩
              rw [← FT.out] at hf3
              have hd3 := hd2.sureTo hg3 hf3
              have hch4 := hch3.trans (Chgd.of_grown hg3 (by simpa using hd2.oks))
              clear hd2 hch3 hg3 hf3 hb2
              have c0 : w3.cell? ⟨g, 0, none⟩ = some (.map (some bs)) := hd3.core.cell 0
              go_wp2_with fail
              refine (clone_any bs _ _ hd3.sure).mono ?_
              rintro e w9 ⟨rfl, hf9, hg9⟩
              have hd9 := hd3.step hg9
              have c1 : w9.cell? ⟨g, 1, none⟩ = some (.map (some bn)) := hd9.core.cell 1
              have c2 : w9.cell? ⟨g, 2, none⟩ = some loose := hd9.core.cell 2
              have c5 : w9.cell? ⟨g, 5, none⟩ = some (.bool dead) := hd9.core.cell 5
              have f1 := hd9.core.thaw 1
              have f2 := hd9.core.thaw 2
              have f5 := hd9.core.thaw 5
              obtain ⟨z1, z2⟩ := fall_done hd3 (hnew' hch4) hf9 (by have := hd3.sure.lt; omega) hg9
              have z3 := hch4.trans z2
              clear c0 hd9 hf9 hg9
              go_wp2
              go_end0
              exact ⟨rfl, _, z1, z3⟩
            · obtain ⟨m, rfl⟩ := Int.eq_ofNat_of_zero_le (show 0 ≤ tn by omega)
              have hmsz : m ≤ cs.size := by omega
              have hm0 : 0 < m := by omega
              have e1 : min (m : Int).toNat cs.size = m := by omega
              rw [e1] at hfs hmt
              have FT := Lib.hid hfs
              clear hfs e1 hts htn
              go_wp2_with fail
              have hb0 : Whole (wr.alloc (.cells #[.int .i64 ck, .string cn, .string ct, .int .i64 ca, .string (cs.extract 0 m)] 147)) wr.heap.size 147 #[.int .i64 ck, .string cn, .string ct, .int .i64 ca, .string (cs.extract 0 m)] := Whole.fresh _ _ _
              have hga := grown_alloc (grown_refl wr none) (.cells #[.int .i64 ck, .string cn, .string ct, .int .i64 ca, .string (cs.extract 0 m)] 147)
              have hd1 := hd.step hga
              have hch2 : Chgd ok w (wr.alloc (.cells #[.int .i64 ck, .string cn, .string ct, .int .i64 ca, .string (cs.extract 0 m)] 147)) := hch.trans (Chgd.new hga)
              clear q0 q1 q2 q3 q4 hga hd hch c2
              generalize (wr.alloc (.cells #[.int .i64 ck, .string cn, .string ct, .int .i64 ca, .string (cs.extract 0 m)] 147)) = W at hb0 hd1 hch2 ⊢
              refine wp_region_still_tail 5 (by kernel_rfl) (by kernel_rfl) ?_
              have ew : ({ heap := W.heap, tape := W.tape, drawn := W.drawn + 1, os := W.os, output := W.output } : World) = W.drew := rfl
              rw [ew]
              clear ew
              have hb2 := hb0.drew
              have hd2 := hd1.step (grown_drew (grown_refl W none))
              have hch3 : Chgd ok w W.drew := hch2.trans (Chgd.new (grown_drew (grown_refl W none)))
              clear hb0 hd1 hch2
              generalize W.drew = W2 at hb2 hd2 hch3 ⊢
              have c0 : W2.cell? ⟨g, 0, none⟩ = some (.map (some bs)) := hd2.core.cell 0
              have b0 : W2.cell? ⟨wr.heap.size, 0, none⟩ = some (.int .i64 ck) := hb2.cell 0
              have b1 : W2.cell? ⟨wr.heap.size, 1, none⟩ = some (.string cn) := hb2.cell 1
              have b2 : W2.cell? ⟨wr.heap.size, 2, none⟩ = some (.string ct) := hb2.cell 2
              have b3 : W2.cell? ⟨wr.heap.size, 3, none⟩ = some (.int .i64 ca) := hb2.cell 3
              have b4 : W2.cell? ⟨wr.heap.size, 4, none⟩ = some (.string (cs.extract 0 m)) := hb2.cell 4
              simp only [List.take_succ_cons, List.take_zero, List.drop_succ_cons, List.drop_zero]
              repeat still_step
              try refine wpStill_nil ?_
              clear c0 b0 b1 b2 b3 b4
              go_wp2_with fail
              refine (do_any hd2.sure (by omega) ⟨ck, cn, ct, ca, cs.extract 0 m⟩ hmt hs1).mono ?_
              rintro e w3 ⟨rfl, hf3, hg3⟩
              rw [← FT.out] at hf3
              have hd3 := hd2.sureTo hg3 hf3
              have hch4 := hch3.trans (Chgd.of_grown hg3 (by simpa using hd2.oks))
              clear hd2 hch3 hg3 hf3 hb2
              have c0 : w3.cell? ⟨g, 0, none⟩ = some (.map (some bs)) := hd3.core.cell 0
              go_wp2_with fail
              refine (clone_any bs _ _ hd3.sure).mono ?_
              rintro e w9 ⟨rfl, hf9, hg9⟩
              have hd9 := hd3.step hg9
              have c1 : w9.cell? ⟨g, 1, none⟩ = some (.map (some bn)) := hd9.core.cell 1
              have c2 : w9.cell? ⟨g, 2, none⟩ = some loose := hd9.core.cell 2
              have c5 : w9.cell? ⟨g, 5, none⟩ = some (.bool dead) := hd9.core.cell 5
              have f1 := hd9.core.thaw 1
              have f2 := hd9.core.thaw 2
              have f5 := hd9.core.thaw 5
              obtain ⟨z1, z2⟩ := fall_done hd3 (hnew' hch4) hf9 (by have := hd3.sure.lt; omega) hg9
              have z3 := hch4.trans z2
              clear c0 hd9 hf9 hg9
              go_wp2
              go_end0
              exact ⟨rfl, _, z1, z3⟩
          · have hfs := fallS_no (S := S) (t := tn) hin (fun x => hkd x.2)
            rw [K.out] at hd
            rw [← hfs] at hd
            obtain ⟨q0, _⟩ := hq
            have hkd' : ((L[kk].k : Int) == 0) = false := beq_eq_false_iff_ne.2 (by omega)
            generalize L[kk].k = ck at q0 hkd hkd'
            clear hfs hcells
            have c0 : wr.cell? ⟨g, 0, none⟩ = some (.map (some bs)) := hd.core.cell 0
            go_wp2_with fail
            refine (clone_any bs _ _ hd.sure).mono ?_
            rintro e w9 ⟨rfl, hf9, hg9⟩
            have hd9 := hd.step hg9
            have c1 : w9.cell? ⟨g, 1, none⟩ = some (.map (some bn)) := hd9.core.cell 1
            have c2 : w9.cell? ⟨g, 2, none⟩ = some loose := hd9.core.cell 2
            have c5 : w9.cell? ⟨g, 5, none⟩ = some (.bool dead) := hd9.core.cell 5
            have f1 := hd9.core.thaw 1
            have f2 := hd9.core.thaw 2
            have f5 := hd9.core.thaw 5
            obtain ⟨z1, z2⟩ := fall_done hd (hnew' hch) hf9 (by have := hd.sure.lt; omega) hg9
            have z3 := hch.trans z2
            clear c0 hd9 hf9 hg9
            go_wp2
            go_end0
            exact ⟨rfl, _, z1, z3⟩
        · have hfs := fallS_no (S := S) (t := tn) hin (fun x => htn x.1)
          rw [K.out] at hd
          rw [← hfs] at hd
          have htn' : tn ≤ 0 := by omega
          clear hfs hcells hq htn
          have c0 : wr.cell? ⟨g, 0, none⟩ = some (.map (some bs)) := hd.core.cell 0
          go_wp2_with fail
          refine (clone_any bs _ _ hd.sure).mono ?_
          rintro e w9 ⟨rfl, hf9, hg9⟩
          have hd9 := hd.step hg9
          have c1 : w9.cell? ⟨g, 1, none⟩ = some (.map (some bn)) := hd9.core.cell 1
          have c2 : w9.cell? ⟨g, 2, none⟩ = some loose := hd9.core.cell 2
          have c5 : w9.cell? ⟨g, 5, none⟩ = some (.bool dead) := hd9.core.cell 5
          have f1 := hd9.core.thaw 1
          have f2 := hd9.core.thaw 2
          have f5 := hd9.core.thaw 5
          obtain ⟨z1, z2⟩ := fall_done hd (hnew' hch) hf9 (by have := hd.sure.lt; omega) hg9
          have z3 := hch.trans z2
          clear c0 hd9 hf9 hg9
          go_wp2
          go_end0
          exact ⟨rfl, _, z1, z3⟩
      · have hfs := fallS_none (S := S) (t := tn) (show L.length ≤ kk by omega)
        rw [K.out] at hd
        rw [← hfs] at hd
        have hin' : L.length ≤ kk := by omega
        clear hfs hin
        have c0 : wr.cell? ⟨g, 0, none⟩ = some (.map (some bs)) := hd.core.cell 0
        go_wp2_with fail
        refine (clone_any bs _ _ hd.sure).mono ?_
        rintro e w9 ⟨rfl, hf9, hg9⟩
        have hd9 := hd.step hg9
        have c1 : w9.cell? ⟨g, 1, none⟩ = some (.map (some bn)) := hd9.core.cell 1
        have c2 : w9.cell? ⟨g, 2, none⟩ = some loose := hd9.core.cell 2
        have c5 : w9.cell? ⟨g, 5, none⟩ = some (.bool dead) := hd9.core.cell 5
        have f1 := hd9.core.thaw 1
        have f2 := hd9.core.thaw 2
        have f5 := hd9.core.thaw 5
        obtain ⟨z1, z2⟩ := fall_done hd (hnew' hch) hf9 (by have := hd.sure.lt; omega) hg9
        have z3 := hch.trans z2
        clear c0 hd9 hf9 hg9
        go_wp2
        go_end0
        exact ⟨rfl, _, z1, z3⟩


set_option maxHeartbeats 4000000 in
set_option maxRecDepth 100000 in
theorem fall_all (h : Dsk ok w g bs bn loose S N L made plan dead) (ht : Tidy S) (hs : Small S) (hp : Plays S L) (hz : Maps.size S ≤ 1000) (hL : L.length ≤ 1000000) (hnew : ∀ k, w.heap.size ≤ k → ok k) (keep : Int) (tn : Int) (hkeep : (L.length : Int) < keep) :
    Calls Try.prog 77 #[.pointer (some ⟨g, 0, none⟩), .int .i64 keep, .int .i64 tn] w (Falls ok w g bs (fallS S L L.length tn) made plan) := by
  obtain ⟨A, cap, hv, hcap, hA⟩ := h.lies
  have HV := Lib.hid hv
  have HA := Lib.hid hA
  have c2 : w.cell? ⟨g, 2, none⟩ = some (.slice A L.length cap) := by rw [← hv]; exact h.core.cell 2
  clear hv hA
  go_enter Try.func77, Try.ntmps77
  go_wp2_with fail
  have hch : Chgd ok w w := Chgd.refl _ _
  have h1 := h
  clear c2
  go_loopw [24] (fun i wr => ∃ k : Nat, k ≤ L.length ∧ i = .int .i64 k ∧ Dsk ok wr g bs bn loose (fold S (L.take k)) N L made plan dead ∧ Chgd ok w wr) (fun i _ => L.length - (intOf i).toNat)
  case atStart => exact ⟨0, Nat.zero_le _, rfl, by simpa [fold] using h1, hch⟩
  case round =>
    clear h1 hch
    obtain ⟨k, hk, rfl, hd, hch⟩ := hrel
    by_cases hlt : k < L.length
    · have hlL : k < L.length := by omega
      obtain ⟨p, rfl, hcells⟩ := HA.out (by omega)
      obtain ⟨q0, q1, q2, q3, q4⟩ := hcells wr _ hd k hlL
      have hm := hp k hlL
      obtain ⟨ht1, hs1, hz1⟩ := fold_facts ht hs hp k (by omega)
      have hft := fold_take (D := S) hlL
      generalize hcL : L[k] = c at q0 q1 q2 q3 q4 hm hft
      obtain ⟨ck, cn, ct, ca, cs⟩ := c
      have FT := Lib.hid hft
      clear hft hcL hcells
      simp only at q0 q1 q2 q3 q4
      go_wp2_with fail
      have hb0 : Whole (wr.alloc (.cells #[.int .i64 ck, .string cn, .string ct, .int .i64 ca, .string cs] 147)) wr.heap.size 147 #[.int .i64 ck, .string cn, .string ct, .int .i64 ca, .string cs] := Whole.fresh _ _ _
      have hga := grown_alloc (grown_refl wr none) (.cells #[.int .i64 ck, .string cn, .string ct, .int .i64 ca, .string cs] 147)
      have hd1 := hd.step hga
      have hch2 : Chgd ok w (wr.alloc (.cells #[.int .i64 ck, .string cn, .string ct, .int .i64 ca, .string cs] 147)) := hch.trans (Chgd.new hga)
      clear q0 q1 q2 q3 q4 hga hd hch
      generalize (wr.alloc (.cells #[.int .i64 ck, .string cn, .string ct, .int .i64 ca, .string cs] 147)) = W at hb0 hd1 hch2 ⊢
      refine wp_region_still_tail 5 (by kernel_rfl) (by kernel_rfl) ?_
      have ew : ({ heap := W.heap, tape := W.tape, drawn := W.drawn + 1, os := W.os, output := W.output } : World) = W.drew := rfl
      rw [ew]
      clear ew
      have hb2 := hb0.drew
      have hd2 := hd1.step (grown_drew (grown_refl W none))
      have hch3 : Chgd ok w W.drew := hch2.trans (Chgd.new (grown_drew (grown_refl W none)))
      clear hb0 hd1 hch2
      generalize W.drew = W2 at hb2 hd2 hch3 ⊢
      have c0 : W2.cell? ⟨g, 0, none⟩ = some (.map (some bs)) := hd2.core.cell 0
      have b0 : W2.cell? ⟨wr.heap.size, 0, none⟩ = some (.int .i64 ck) := hb2.cell 0
      have b1 : W2.cell? ⟨wr.heap.size, 1, none⟩ = some (.string cn) := hb2.cell 1
      have b2 : W2.cell? ⟨wr.heap.size, 2, none⟩ = some (.string ct) := hb2.cell 2
      have b3 : W2.cell? ⟨wr.heap.size, 3, none⟩ = some (.int .i64 ca) := hb2.cell 3
      have b4 : W2.cell? ⟨wr.heap.size, 4, none⟩ = some (.string cs) := hb2.cell 4
      simp only [List.take_succ_cons, List.take_zero, List.drop_succ_cons, List.drop_zero]
      repeat still_step
      try refine wpStill_nil ?_
      clear c0 b0 b1 b2 b3 b4
      go_wp2_with fail
      refine (do_any hd2.sure (by omega) ⟨ck, cn, ct, ca, cs⟩ hm hs1).mono ?_
      rintro e w3 ⟨rfl, hf3, hg3⟩
      rw [← FT.out] at hf3
      have hd3 := hd2.sureTo hg3 hf3
      have hch4 := hch3.trans (Chgd.of_grown hg3 (by simpa using hd2.oks))
      clear hd2 hch3 hg3 hf3 hb2
      go_wp2
      go_roundw
      case rel => exact ⟨k + 1, by omega, by go_num, hd3, hch4⟩
      case measure => simp [intOf]; omega
    · have hk' : k = L.length := by omega
      have K := Lib.hid hk'
      have hnew' : ∀ {W : World}, Chgd ok w W → ok W.heap.size := fun hc => hnew _ hc.size
      clear hlt
      have c2 : wr.cell? ⟨g, 2, none⟩ = some (.slice A L.length cap) := by rw [← HV.out]; exact hd.core.cell 2
      have hfs := fallS_none (S := S) (t := tn) (show L.length ≤ L.length by omega)
      rw [K.out] at hd
      rw [← hfs] at hd
      have hin' : L.length ≤ L.length := by omega
      clear hfs
      have c0 : wr.cell? ⟨g, 0, none⟩ = some (.map (some bs)) := hd.core.cell 0
      go_wp2_with fail
      refine (clone_any bs _ _ hd.sure).mono ?_
      rintro e w9 ⟨rfl, hf9, hg9⟩
      have hd9 := hd.step hg9
      have c1 : w9.cell? ⟨g, 1, none⟩ = some (.map (some bn)) := hd9.core.cell 1
      have c2 : w9.cell? ⟨g, 2, none⟩ = some loose := hd9.core.cell 2
      have c5 : w9.cell? ⟨g, 5, none⟩ = some (.bool dead) := hd9.core.cell 5
      have f1 := hd9.core.thaw 1
      have f2 := hd9.core.thaw 2
      have f5 := hd9.core.thaw 5
      obtain ⟨z1, z2⟩ := fall_done hd (hnew' hch) hf9 (by have := hd.sure.lt; omega) hg9
      have z3 := hch.trans z2
      clear c0 hd9 hf9 hg9
      go_wp2
      go_end0
      exact ⟨rfl, _, z1, z3⟩


/-- A fall, whatever it keeps. -/
theorem fall_any (h : Dsk ok w g bs bn loose S N L made plan dead) (ht : Tidy S) (hs : Small S) (hp : Plays S L) (hz : Maps.size S ≤ 1000) (hL : L.length ≤ 1000000) (hnew : ∀ k, w.heap.size ≤ k → ok k) (keep tn : Int) :
    Calls Try.prog 77 #[.pointer (some ⟨g, 0, none⟩), .int .i64 keep, .int .i64 tn] w (Falls ok w g bs (fallS S L (stay keep L.length) tn) made plan) := by
  unfold stay
  by_cases h1 : keep < 0
  · rw [show min keep.toNat L.length = 0 by omega]
    exact fall_neg h ht hs hp hz hL hnew keep tn h1
  by_cases h2 : keep = 0
  · subst h2
    rw [show min (0 : Int).toNat L.length = 0 by omega]
    exact fall_zero h ht hs hp hz hL hnew tn
  by_cases h3 : (L.length : Int) < keep
  · rw [show min keep.toNat L.length = L.length by omega]
    exact fall_all h ht hs hp hz hL hnew keep tn h3
  · obtain ⟨kk, rfl⟩ := Int.eq_ofNat_of_zero_le (show 0 ≤ keep by omega)
    rw [show min (kk : Int).toNat L.length = kk by omega]
    exact fall_mid h ht hs hp hz hL hnew kk tn (by omega) (by omega)

theorem crash_any (h : Dsk ok w g bs bn loose S N L made plan false) (ht : Tidy S) (hs : Small S) (hp : Plays S L) (hz : Maps.size S ≤ 1000) (hL : L.length ≤ 1000000) (hnew : ∀ k, w.heap.size ≤ k → ok k) (keep tn : Int) :
    Calls Try.prog 25 #[.pointer (some ⟨g, 0, none⟩), .int .i64 keep, .int .i64 tn] w (Falls ok w g bs (fallS S L (stay keep L.length) tn) made plan) := by
  have H := Lib.hid (fall_any h ht hs hp hz hL hnew keep tn)
  have c5 : w.cell? ⟨g, 5, none⟩ = some (.bool false) := h.core.cell 5
  go_enter Try.func25, Try.ntmps25
  go_wp2_with (first | (go_at_call 67; refine (dead_any g false _ c5).mono ?_; rintro e w' ⟨rfl, rfl⟩) | (go_at_call 77; refine H.out.mono ?_; rintro e w' ⟨rfl, hx⟩))
  go_end0
  exact ⟨rfl, hx⟩
end
end Dk
end Go.Proofs.Ytohphljhldcjbaa
