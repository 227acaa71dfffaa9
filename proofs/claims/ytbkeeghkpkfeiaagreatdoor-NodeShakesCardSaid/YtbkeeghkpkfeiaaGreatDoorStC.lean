/- Status: the loop over the peers. -/
import Derived.Maps.RangeRun
import Derived.Test.YtbkeeghkpkfeiaaGreatDoorNsL
import Derived.Test.YtbkeeghkpkfeiaaGreatDoorStX
namespace Go.Proofs.YtbkeeghkpkfeiaaGreatDoor
set_option linter.unusedVariables false
set_option linter.unusedSimpArgs false
open Go.RowKit Go.Maps
namespace Ev
/-- What is known of the frame. -/
structure Fm (v2 : Value) (xs xi : Nat) (a : Act) : Prop where
  size : a.tmps.size = 96
  defers : a.defers = []
  h2 : a.tmps.getD 2 undef = v2
  h5 : a.tmps.getD 5 undef = .pointer (some ⟨xs, 0, none⟩)
  h81 : a.tmps.getD 81 undef = .pointer (some ⟨xi, 0, none⟩)
set_option maxHeartbeats 4000000 in
set_option maxRecDepth 100000 in
theorem loop_ok {Qx : Exit → Act → World → Prop} {v2 : Value} {xs xi qm ck : Nat} {es : Array MapEntry} {cs : Array Value} {t : TypeId} {f : Nat × Nat} {fl : MapEntry → Bool} {a : Act} {w1 : World}
    (ha : Fm v2 xs xi a) (hit : w1.heap[xi]? = some (.mapIter (some qm) ck #[] ck)) (hm : w1.heap[qm]? = some (.map es ck)) (hst : w1.heap[xs]? = some (.cells cs t f)) (h67 : cs[67]? = some (.int .i64 0)) (hfz : ¬ (f.1 ≤ 67 ∧ 67 < f.2))
    (hold : ∀ x ∈ es.toList, x.born < ck) (hnd : (es.toList.map (·.born)).Nodup) (hsz : es.size < 1000000) (hent : ∀ e ∈ es.toList, Ent w1 xi xs fl e)
    (K : ∀ a w, Fm v2 xs xi a → (∃ seen, Lp w1 w xi xs qm ck es cs t f fl seen ∧ (leftOf es seen).size = 0) → Qx .normal a w) :
    (blkC 10 stCode).wp Tryz.prog Qx a w1 := by
  have hne : xs ≠ xi := fun e => by rw [e, hit] at hst; cases hst
  show (Code.block 0 (Code.loop (Code.seq _ (Code.seq _ (Code.block 1 _))))).wp Tryz.prog Qx a w1
  refine wp_block ?_
  refine wp_loop (fun a w => Fm v2 xs xi a ∧ ∃ seen, Lp w1 w xi xs qm ck es cs t f fl seen) (fun _ w => (leftOf es (w.iterSeen xi)).size) ⟨ha, #[], .start hit hst h67⟩ ?_
  intro a w ⟨ha, seen, L⟩
  obtain ⟨hs, hd, h2, h5, h81⟩ := ha
  obtain ⟨v0, v1, v2', v3, v4, v5, v6, v7, v8, v9, v10, v11, v12, v13, v14, v15, v16, v17, v18, v19, v20, v21, v22, v23, v24, v25, v26, v27, v28, v29, v30, v31, v32, v33, v34, v35, v36, v37, v38, v39, v40, v41, v42, v43, v44, v45, v46, v47, v48, v49, v50, v51, v52, v53, v54, v55, v56, v57, v58, v59, v60, v61, v62, v63, v64, v65, v66, v67, v68, v69, v70, v71, v72, v73, v74, v75, v76, v77, v78, v79, v80, v81, v82, v83, v84, v85, v86, v87, v88, v89, v90, v91, v92, v93, v94, v95, rfl⟩ := act_lit hs hd
  have h2 : v2' = v2 := h2
  have h5 : v5 = .pointer (some ⟨xs, 0, none⟩) := h5
  have h81 : v81 = .pointer (some ⟨xi, 0, none⟩) := h81
  subst h2 h5 h81
  clear hs hd
  have hq : w.heap[qm]? = some (.map es ck) := by
    rw [L.keep qm (fun e => by rw [e, hit] at hm; cases hm) (fun e => by rw [e, hst] at hm; cases hm)]
    exact hm
  rcases run_next_at (P := Tryz.prog) w 0 xi qm ck ck seen es ck L.it hq hold (Nat.le_refl _) with ⟨h0, hrun⟩ | ⟨e, he, w2, hal, hrun⟩
  · have hnx : ∀ ty, (Instr.next (.pointer (some ⟨xi, 0, none⟩)) false ty).run Tryz.prog w = _ := fun _ => hrun
    go_wp2
    exact K _ _ ⟨rfl, rfl, rfl, rfl, rfl⟩ ⟨seen, L, h0⟩
  · obtain ⟨l, p, v, k, hval, hl, hv, hk, hfl, d1, d2, d3, d4⟩ := hent e (mem_left he).1
    have N := L.next he hal hne
    have hdec := left_shrinks es seen e he
    have hseen := seen_of L.it
    generalize Go.ChangeMaps.setBlock w2 xi (.mapIter (some qm) ck (seen.push e.born) ck) = W2 at N hrun
    have hq2 : W2.heap[qm]? = some (.map es ck) := by
      rw [N.keep qm (fun e => by rw [e, hit] at hm; cases hm) (fun e => by rw [e, hst] at hm; cases hm)]
      exact hm
    have hnx : ∀ ty, (Instr.next (.pointer (some ⟨xi, 0, none⟩)) false ty).run Tryz.prog w = _ := fun _ => hrun
    have hen := run_entry_at (P := Tryz.prog) W2 xi qm ck seen es ck e N.it hq2 (mem_left he).1 hnd
    rw [hval] at hen
    have hl2 : W2.cell? ⟨l, 0, none⟩ = some (.pointer (some ⟨p, 0, none⟩)) := by
      simp only [World.cell?] at hl ⊢; rw [N.keep l d1 d2]; exact hl
    have hv2 : W2.cell? ⟨p, 246, none⟩ = some (.bool v) := by
      simp only [World.cell?] at hv ⊢; rw [N.keep p d3 d4]; exact hv
    have hk2 : W2.cell? ⟨p, 247, none⟩ = some (.bool k) := by
      simp only [World.cell?] at hk ⊢; rw [N.keep p d3 d4]; exact hk
    have hc2 : W2.cell? ⟨xs, 67, none⟩ = some (.int .i64 (cntS es fl seen)) := by
      have : 67 < cs.size := (Array.getElem?_eq_some_iff.1 h67).1
      simp [World.cell?, N.st, this]
    have hfr : W2.frozen? ⟨xs, 67, none⟩ = false := by
      simp only [World.frozen?, N.st]
      simpa using hfz
    have hcn : cntS es fl seen < 1000000 := Nat.lt_of_le_of_lt (cntS_le es fl seen) hsz
    cases hvk : (v && k) with
    | false =>
      have hok := N.same hnd he (hfl.trans hvk)
      have hs2 := seen_of hok.it
      clear K hrun L hit hm hst hent hold N hdec
      generalize cntS es fl seen = cn at *
      go_wp2_with (go_at_call 34; refine (shaken_calls _ v k _ (by assumption) (by assumption)).mono ?_; rw [hvk]; rintro e w' ⟨rfl, rfl⟩)
      refine ⟨⟨⟨rfl, rfl, rfl, rfl, rfl⟩, _, hok⟩, ?_⟩
      rw [hs2, hseen]
      exact left_shrinks es seen e he
    | true =>
      have hok := N.more hnd he (hfl.trans hvk) hne
      have hs2 := seen_of hok.it
      clear K hrun L hit hm hst hent hold N hdec
      have hw : wrap64 ((cntS es fl seen : Int) + 1) = (cntS es fl seen : Int) + 1 := by unfold wrap64; omega
      generalize cntS es fl seen = cn at *
      go_wp2_with (go_at_call 34; refine (shaken_calls _ v k _ (by assumption) (by assumption)).mono ?_; rw [hvk]; rintro e w' ⟨rfl, rfl⟩)
      refine ⟨⟨⟨rfl, rfl, rfl, rfl, rfl⟩, _, hok⟩, ?_⟩
      rw [hs2, hseen]
      exact left_shrinks es seen e he
end Ev
end Go.Proofs.YtbkeeghkpkfeiaaGreatDoor
