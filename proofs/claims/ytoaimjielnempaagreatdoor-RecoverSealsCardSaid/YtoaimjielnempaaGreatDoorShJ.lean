/- A hasher that is the same; the sum. -/
import Derived.Test.YtoaimjielnempaaGreatDoorShI
import Derived.Deep.Upon
namespace Go.Proofs.YtoaimjielnempaaGreatDoor
set_option linter.unusedVariables false
set_option linter.unusedSimpArgs false
open Go.RowKit Go.Maps
namespace Sh
/-- append at a step of a region that draws, by its run. -/
theorem step_append_run {P : Program} {ops : Array Oper} {o : Oper} {a : Act} {w : World} {K : Act → World → Prop} {Q : Exit → Act → World → Prop} {E : Prop}
    (hg : o.guard = none) (s x : Operand) (t tx : TypeId) (hop : o.op = Op.call { callee := Callee.builtin Builtin.append, args := #[s, x], argTypes := #[t, tx] })
    {vs vx v' : Value} {w' : World} (hs : a.eval s = vs) (hx : a.eval x = vx) (hrun : (Builtin.append_ #[t, tx] o.type #[vs, vx]).run P w = .ok v' w')
    (hK : K (a.put o.dst v') w') : if Region.wanted o (yielded ops a.tmps) = true then Oper.wp P o a w K Q else E := by
  have hw : Region.wanted o (yielded ops a.tmps) = true := by simp [Region.wanted, hg]
  rw [if_pos hw]
  unfold Oper.wp
  simp [execOp, hop, resolve, invoke, builtin, hs, hx, hrun, Result.andThen]
  exact hK
theorem ownsRow_shape {w : World} {B e s n : Nat} {v : Value} {xs : List Value} (h : w.ownsRow B e s v n xs) : ∃ p c, v = .slice p n c := by
  rcases h.2 with ⟨rfl, h0⟩ | ⟨b, cap, cur, rfl, _⟩
  · exact ⟨none, 0, by rw [h0]⟩
  · exact ⟨_, _, rfl⟩
theorem clone_left {w : World} {B j : Nat} {v : Value} {L : List UInt8} (h : LAt w B v L j) (hL : L.length ≤ 140737488355328) :
    ∃ p m k w', (Builtin.append_ #[34, 34] 34 #[.slice none 0 0, v]).run Tryz.prog w = .ok (.slice p m k) w' ∧ BRow w' w.heap.size (.slice p m k) (L.drop (64 * j)) ∧ w.grownBy w' none := by
  obtain ⟨i0, hi, hz0, hz1, hz2⟩ := info_partsB infoByte
  obtain ⟨hj, h2⟩ := h
  rcases h2 with ⟨rfl, rfl⟩ | ⟨b, off, cap, cur, rfl, ho, hB, hb, hc, hx, ht⟩
  · refine ⟨none, 0, 0, w, ?_, ⟨by simp [bvs], .inl ⟨rfl, by simp⟩⟩, grown_refl _ _⟩
    exact run_append_nothing w _ _ _ _ i0 Tryz.underlying34 hi none 0 0 (Nat.le_refl _) _ (by rw [hz1]; exact Src.ofNil w Tryz.underlying34 0)
  · have hlen : (L.drop (64 * j)).length = L.length - 64 * j := List.length_drop
    have hcell : ∀ i u, (bvs (L.drop (64 * j)))[i]? = some u → w.cell? ((⟨b, off, none⟩ : Addr).add i) = some u := by
      intro i u hu
      have hi' : i < L.length - 64 * j := by
        have := (List.getElem?_eq_some_iff.1 hu).1
        rwa [bvs_len, hlen] at this
      obtain rfl := ho (by omega)
      rw [Addr.add_mid]
      have h1 : w.cell? ⟨b, 64 * j + i, none⟩ = cur[64 * j + i]? := by simp [World.cell?, hb]
      rw [h1, ← hu]
      have h2 : cur[64 * j + i]? = (cur.toList.take L.length)[64 * j + i]? := by
        rw [List.getElem?_take_of_lt (by omega), Array.getElem?_toList]
      rw [h2, ht]
      simp only [bvs, List.getElem?_map, List.getElem?_drop]
    obtain ⟨v', w', hr, hown, hgr, _, _⟩ := run_append_own_at (P := Tryz.prog) w w.heap.size 34 34 5 i0 (.int .u8 0) 1 1 Tryz.underlying34 hi hz0 hz1 hz2 rfl (by decide)
      (.slice none 0 0) 0 [] ⟨by simp, .inl ⟨rfl, rfl⟩⟩ ⟨b, off, none⟩ (L.length - 64 * j) (cap - 64 * j) (bvs (L.drop (64 * j))) (by rw [bvs_len, hlen]; omega) hcell (fun u hu => by obtain ⟨_, _, rfl⟩ := List.mem_map.1 hu; rfl) (by unfold maxLen; omega) (by omega) (Nat.le_refl _)
    obtain ⟨p, c, rfl⟩ := ownsRow_shape hown
    refine ⟨p, _, c, w', hr, ?_, hgr⟩
    unfold BRow
    rw [hlen]
    simpa using hown
set_option maxHeartbeats 2000000 in
set_option maxRecDepth 100000 in
theorem clone_any (g B n j : Nat) (x : St) (v : Value) (L : List UInt8) (w : World) (hc : Whole w g 305 (hCells x v n)) (hA : LAt w B v L j) (hLb : L.length ≤ 140737488355328) :
    Calls Tryz.prog 205 #[.pointer (some ⟨g, 0, none⟩)] w fun e w' => ∃ g2 v2, w.heap.size ≤ g2 ∧ e = .returned (.pointer (some ⟨g2, 0, none⟩)) ∧ Whole w' g2 305 (hCells x v2 n) ∧ BRow w' w.heap.size v2 (L.drop (64 * j)) ∧ w.grownBy w' none := by
  obtain ⟨a0, a1, a2, a3, a4, a5, a6, a7⟩ := x
  have hAD : LAt w.drew B v L j := hA.grown (grown_drew (grown_refl w none)) (by simp)
  go_enter Tryz.func205, Tryz.ntmps205
  go_wp2_with fail
  refine wp_region_held_drew (S := fun w' => (w'.cell? ⟨g, 0, none⟩ = some (.int .u32 (a0 : Int)) ∧ w'.cell? ⟨g, 1, none⟩ = some (.int .u32 (a1 : Int)) ∧ w'.cell? ⟨g, 2, none⟩ = some (.int .u32 (a2 : Int)) ∧ w'.cell? ⟨g, 3, none⟩ = some (.int .u32 (a3 : Int)) ∧ w'.cell? ⟨g, 4, none⟩ = some (.int .u32 (a4 : Int)) ∧ w'.cell? ⟨g, 5, none⟩ = some (.int .u32 (a5 : Int)) ∧ w'.cell? ⟨g, 6, none⟩ = some (.int .u32 (a6 : Int)) ∧ w'.cell? ⟨g, 7, none⟩ = some (.int .u32 (a7 : Int))) ∧ w'.cell? ⟨g, 8, none⟩ = some v ∧ w'.cell? ⟨g, 9, none⟩ = some (.int .u64 (n : Int))) (by kernel_rfl) ?_ (fun hHeld => ?_)
  · obtain ⟨h1, h2⟩ := h8 a0 a1 a2 a3 a4 a5 a6 a7 hc.drew
    exact ⟨h1, h2, by rw [hc.drew.cell]; rfl⟩
  refine wpAnyH_take (i := 0) (v := ?_) rfl (by kernel_rfl) (by kernel_rfl) (by kernel_rfl) (fun _ _ _ h => h) (Or.inl ⟨by rfl, ?_⟩) hHeld ?_
  rotate_left
  · (intro w hSw; (try dsimp only at hSw); go_simp; try (with_reducible rfl))
  simp only [Act.put, List.getElem_toArray, List.getElem_cons_succ, List.getElem_cons_zero, List.setIfInBounds_toArray, List.set_cons_zero, List.set_cons_succ]
  refine wpAnyH_take (i := 1) (v := ?_) rfl (by kernel_rfl) (by kernel_rfl) (by kernel_rfl) (fun _ _ _ h => h) (Or.inl ⟨by rfl, ?_⟩) hHeld ?_
  rotate_left
  · (intro w hSw; (try dsimp only at hSw); go_simp; try (with_reducible rfl))
  simp only [Act.put, List.getElem_toArray, List.getElem_cons_succ, List.getElem_cons_zero, List.setIfInBounds_toArray, List.set_cons_zero, List.set_cons_succ]
  refine wpAnyH_take (i := 2) (v := ?_) rfl (by kernel_rfl) (by kernel_rfl) (by kernel_rfl) (fun _ _ _ h => h) (Or.inl ⟨by rfl, ?_⟩) hHeld ?_
  rotate_left
  · (intro w hSw; (try dsimp only at hSw); go_simp; try (with_reducible rfl))
  simp only [Act.put, List.getElem_toArray, List.getElem_cons_succ, List.getElem_cons_zero, List.setIfInBounds_toArray, List.set_cons_zero, List.set_cons_succ]
  refine wpAnyH_take (i := 3) (v := ?_) rfl (by kernel_rfl) (by kernel_rfl) (by kernel_rfl) (fun _ _ _ h => h) (Or.inl ⟨by rfl, ?_⟩) hHeld ?_
  rotate_left
  · (intro w hSw; (try dsimp only at hSw); go_simp; try (with_reducible rfl))
  simp only [Act.put, List.getElem_toArray, List.getElem_cons_succ, List.getElem_cons_zero, List.setIfInBounds_toArray, List.set_cons_zero, List.set_cons_succ]
  refine wpAnyH_take (i := 4) (v := ?_) rfl (by kernel_rfl) (by kernel_rfl) (by kernel_rfl) (fun _ _ _ h => h) (Or.inl ⟨by rfl, ?_⟩) hHeld ?_
  rotate_left
  · (intro w hSw; (try dsimp only at hSw); go_simp; try (with_reducible rfl))
  simp only [Act.put, List.getElem_toArray, List.getElem_cons_succ, List.getElem_cons_zero, List.setIfInBounds_toArray, List.set_cons_zero, List.set_cons_succ]
  refine wpAnyH_take (i := 5) (v := ?_) rfl (by kernel_rfl) (by kernel_rfl) (by kernel_rfl) (fun _ _ _ h => h) (Or.inl ⟨by rfl, ?_⟩) hHeld ?_
  rotate_left
  · (intro w hSw; (try dsimp only at hSw); go_simp; try (with_reducible rfl))
  simp only [Act.put, List.getElem_toArray, List.getElem_cons_succ, List.getElem_cons_zero, List.setIfInBounds_toArray, List.set_cons_zero, List.set_cons_succ]
  refine wpAnyH_take (i := 6) (v := ?_) rfl (by kernel_rfl) (by kernel_rfl) (by kernel_rfl) (fun _ _ _ h => h) (Or.inl ⟨by rfl, ?_⟩) hHeld ?_
  rotate_left
  · (intro w hSw; (try dsimp only at hSw); go_simp; try (with_reducible rfl))
  simp only [Act.put, List.getElem_toArray, List.getElem_cons_succ, List.getElem_cons_zero, List.setIfInBounds_toArray, List.set_cons_zero, List.set_cons_succ]
  refine wpAnyH_take (i := 7) (v := ?_) rfl (by kernel_rfl) (by kernel_rfl) (by kernel_rfl) (fun _ _ _ h => h) (Or.inl ⟨by rfl, ?_⟩) hHeld ?_
  rotate_left
  · (intro w hSw; (try dsimp only at hSw); go_simp; try (with_reducible rfl))
  simp only [Act.put, List.getElem_toArray, List.getElem_cons_succ, List.getElem_cons_zero, List.setIfInBounds_toArray, List.set_cons_zero, List.set_cons_succ]
  refine wpAnyH_take (i := 9) (v := ?_) rfl (by kernel_rfl) (by kernel_rfl) (by kernel_rfl) (fun _ _ _ h => h) (Or.inl ⟨by rfl, ?_⟩) hHeld ?_
  rotate_left
  · (intro w hSw; (try dsimp only at hSw); go_simp; try (with_reducible rfl))
  simp only [Act.put, List.getElem_toArray, List.getElem_cons_succ, List.getElem_cons_zero, List.setIfInBounds_toArray, List.set_cons_zero, List.set_cons_succ]
  refine wpAnyH_take (i := 10) (v := ?_) rfl (by kernel_rfl) (by kernel_rfl) (by kernel_rfl) (fun _ _ _ h => h) (Or.inl ⟨by rfl, ?_⟩) hHeld ?_
  rotate_left
  · (intro w hSw; (try dsimp only at hSw); go_simp; try (with_reducible rfl))
  simp only [Act.put, List.getElem_toArray, List.getElem_cons_succ, List.getElem_cons_zero, List.setIfInBounds_toArray, List.set_cons_zero, List.set_cons_succ]
  refine wpAnyH_take (i := 11) (v := ?_) rfl (by kernel_rfl) (by kernel_rfl) (by kernel_rfl) (fun _ _ _ h => h) (Or.inl ⟨by rfl, ?_⟩) hHeld ?_
  rotate_left
  · (intro w hSw; (try dsimp only at hSw); go_simp; try (with_reducible rfl))
  simp only [Act.put, List.getElem_toArray, List.getElem_cons_succ, List.getElem_cons_zero, List.setIfInBounds_toArray, List.set_cons_zero, List.set_cons_succ]
  refine wpAnyH_take (i := 12) (v := ?_) rfl (by kernel_rfl) (by kernel_rfl) (by kernel_rfl) (fun _ _ _ h => h) (Or.inl ⟨by rfl, ?_⟩) hHeld ?_
  rotate_left
  · (intro w hSw; (try dsimp only at hSw); go_simp; try (with_reducible rfl))
  simp only [Act.put, List.getElem_toArray, List.getElem_cons_succ, List.getElem_cons_zero, List.setIfInBounds_toArray, List.set_cons_zero, List.set_cons_succ]
  refine wpAnyH_ready (rs := [8]) (by kernel_rfl) (by simp) ?_
  refine AllReadyH.cons rfl (fun K hK => ?_) AllReadyH.nil
  obtain ⟨p2, m2, k2, w2, hrun, hrow, hgr⟩ := clone_left (w := w.drew) (v := v) hAD hLb
  refine step_append_run rfl _ _ _ _ rfl rfl rfl hrun ?_
  have hc2 := hc.drew.grown hgr (by simp)
  obtain ⟨⟨t0, t1, t2, t3, t4, t5, t6, t7⟩, t8⟩ := h8 a0 a1 a2 a3 a4 a5 a6 a7 hc2
  have t9 : w2.cell? ⟨g, 9, none⟩ = some (.int .u64 (n : Int)) := by rw [hc2.cell]; rfl
  refine hK.out _ _ ⟨⟨t0, t1, t2, t3, t4, t5, t6, t7⟩, t8, t9⟩ (fun hHeld => ?_)
  clear hK K
  simp only [Act.put, List.getElem_toArray, List.getElem_cons_succ, List.getElem_cons_zero, List.setIfInBounds_toArray, List.set_cons_zero, List.set_cons_succ]
  refine wpAnyH_take (i := 13) (v := ?_) rfl (by kernel_rfl) (by kernel_rfl) (by kernel_rfl) (fun _ _ _ h => h) (Or.inl ⟨by rfl, ?_⟩) hHeld ?_
  rotate_left
  · (intro w hSw; (try dsimp only at hSw); go_simp; try (with_reducible rfl))
  simp only [Act.put, List.getElem_toArray, List.getElem_cons_succ, List.getElem_cons_zero, List.setIfInBounds_toArray, List.set_cons_zero, List.set_cons_succ]
  refine wpAnyH_ready (rs := [14]) (by kernel_rfl) (by simp) ?_
  refine AllReadyH.cons rfl (fun K hK => ?_) AllReadyH.nil
  go_simp
  have hc3 : Whole (w2.alloc (.cells (hCells ⟨a0, a1, a2, a3, a4, a5, a6, a7⟩ (.slice p2 m2 k2) n) 305)) g _ _ := hc2.alloc _
  have hn3 : Whole (w2.alloc (.cells (hCells ⟨a0, a1, a2, a3, a4, a5, a6, a7⟩ (.slice p2 m2 k2) n) 305)) w2.heap.size _ _ := Whole.fresh w2 _ _
  have hrow3 : BRow (w2.alloc (.cells (hCells ⟨a0, a1, a2, a3, a4, a5, a6, a7⟩ (.slice p2 m2 k2) n) 305)) w.heap.size (.slice p2 m2 k2) (L.drop (64 * j)) := World.ownsRow.alloc hrow _
  have hg3 : w.grownBy (w2.alloc (.cells (hCells ⟨a0, a1, a2, a3, a4, a5, a6, a7⟩ (.slice p2 m2 k2) n) 305)) none := grown_alloc ((grown_drew (grown_refl w none)).trans hgr) _
  have hs2 := hgr.size
  obtain ⟨⟨r0, r1, r2, r3, r4, r5, r6, r7⟩, r8⟩ := h8 a0 a1 a2 a3 a4 a5 a6 a7 hc3
  have r9 : (w2.alloc (.cells (hCells ⟨a0, a1, a2, a3, a4, a5, a6, a7⟩ (.slice p2 m2 k2) n) 305)).cell? ⟨g, 9, none⟩ = some (.int .u64 (n : Int)) := by rw [hc3.cell]; rfl
  refine hK.out _ _ ⟨⟨r0, r1, r2, r3, r4, r5, r6, r7⟩, r8, r9⟩ (fun hHeld => ?_)
  clear hK K
  refine wpAnyH_take (i := 15) (v := ?_) rfl (by kernel_rfl) (by kernel_rfl) (by kernel_rfl) (fun _ _ _ h => h) (Or.inl ⟨by rfl, ?_⟩) hHeld ?_
  rotate_left
  · (intro w hSw; (try dsimp only at hSw); go_simp; try (with_reducible rfl))
  simp only [Act.put, List.getElem_toArray, List.getElem_cons_succ, List.getElem_cons_zero, List.setIfInBounds_toArray, List.set_cons_zero, List.set_cons_succ]
  refine wpAnyH_done (by kernel_rfl) ?_ _
  go_wp2_with fail
  go_ret
  exact ⟨w2.heap.size, _, hs2, rfl, hn3, hrow3, hg3⟩
end Sh
end Go.Proofs.YtoaimjielnempaaGreatDoor
