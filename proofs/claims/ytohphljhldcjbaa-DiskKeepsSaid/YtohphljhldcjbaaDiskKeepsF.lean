/- For every list of texts and every cut: what was synced is there behind a crash, and nothing that was never written is: 'DiskKeeps' returns true, and its arguments read as they read before. No condition. -/
import Derived.Test.YtohphljhldcjbaaDkK
import Derived.Test.YtohphljhldcjbaaLaws
import Derived.SliceStrings
import Derived.SizedLaws
namespace Go.Proofs.Ytohphljhldcjbaa
set_option linter.unusedVariables false
set_option linter.unusedSimpArgs false
open Go.ChangeShapes Go.WideShapes Go.ChangeAt Go.RowKit
namespace KeepsF

theorem cells9 : Try.prog.cellsOf 9 = 1 := by kernel_rfl
theorem cells43 : Try.prog.cellsOf 43 = 3 := by kernel_rfl
theorem cells3 : Try.prog.cellsOf 3 = 1 := by kernel_rfl

theorem mem_weights {H : Type} {P : Program} {e : TypeId} {bytes : List UInt8} : ∀ {l : List (DataW H)}, (.lit (.string bytes) : DataW H) ∈ l → bytes.length ∈ DataW.weightsAll P e l
  | d :: l, h => by
    simp only [DataW.weightsAll, List.mem_append]
    rcases List.mem_cons.1 h with rfl | h
    · exact .inl (by simp [DataW.weights])
    · exact .inr (mem_weights h)
theorem text_sized {H : Type} {ts : List TypeId} {ds : List (DataW H)} (h : (DataW.weightsEach Try.prog ts ds).all (· ≤ reachBytes) = true) {el sp : List (DataW H)} (ht : ts[0]? = some 42) (hd : ds[0]? = some (.slice el sp)) {bytes : List UInt8}
    (hm : (.lit (.string bytes) : DataW H) ∈ el) : bytes.length ≤ reachBytes := by
  have := List.all_eq_true.1 h _ (DataW.weights_mem_each ht hd bytes.length (by
    simp only [DataW.weights, Try.underlying42, List.mem_cons, List.mem_append]
    exact .inr (.inl (mem_weights hm))))
  simpa using this

/-- The texts that came in. -/
theorem texts_open {H : Type} {enc : TypeId × Value → H} {w : World} {v : Value} {d : DataW H} {ps : List MemPlace} (hv : ∃ A len cap, v = .slice A len cap) (h : DataW.Trod enc Try.prog w 0 (fun _ => true) true 42 v d ps) (hk : ∀ el sp, d = .slice el sp → ∀ bytes, (.lit (.string bytes) : DataW H) ∈ el → bytes.length ≤ reachBytes) :
    ∃ A len cap ts, v = .slice A len cap ∧ len ≤ 9223372036854775807 ∧ Dk.Texts w A len ts := by
  obtain ⟨A, len, cap, rfl⟩ := hv
  obtain ⟨fuel, hf⟩ := h
  rcases open_strings Try.underlying42 Try.underlying9 cells9 hf with ⟨h0, _⟩ | ⟨a, len', cap', ss, hcs, _, hl, hmx, hz, hx, hcell, hsz⟩
  · simp [Value.cells] at h0
    obtain ⟨rfl, rfl, rfl⟩ := h0
    exact ⟨none, 0, 0, fun _ => .empty, rfl, by omega, fun h => absurd h (by omega)⟩
  · simp [Value.cells] at hcs
    obtain ⟨rfl, rfl, rfl⟩ := hcs
    unfold maxLen at hmx
    simp only [Prod.mk.injEq] at hx
    simp only [if_true] at hz
    refine ⟨some a, len, cap, fun i => ss.getD i .empty, rfl, by omega, fun hpos => ?_⟩
    obtain ⟨b, off, spot⟩ := a
    have h0 := hcell 0 (by omega)
    have hsp : spot = none := by
      have := World.cell?_spot h0
      simpa [Addr.add] using this
    subst hsp
    have hadd : ∀ k, (⟨b, off, none⟩ : Addr).add k = ⟨b, off + k, none⟩ := by
      intro k
      unfold Addr.add
      split
      · rename_i h; subst h; rfl
      · rfl
    refine ⟨b, off, rfl, ?_, fun i hi => ⟨?_, ?_⟩⟩
    · have := World.block_lt_of_cell? w _ h0
      rw [hadd] at this
      exact this
    · have := hcell i (by omega)
      rwa [hadd] at this
    · have hi' : i < (ss.take len).length := by simp; omega
      have e : ss.getD i .empty = (ss.take len)[i] := by simp [List.getD, List.getElem?_eq_getElem (show i < ss.length by omega)]
      show (ss.getD i .empty).size ≤ _
      rw [e]
      have h1 : (.lit (.string (ss.take len)[i].data.toList) : DataW H) ∈ strs (H := H) (ss.take len) := List.mem_map_of_mem (List.getElem_mem hi')
      have h2 := hk _ _ hx.1 _ h1
      have h3 : (ss.take len)[i].data.toList.length = (ss.take len)[i].size := Array.length_toList
      have h4 : reachBytes = 140737488351232 := rfl
      omega

set_option maxRecDepth 100000 in
theorem cut_open {H : Type} {enc : TypeId × Value → H} {w : World} {v : Value} {d : DataW H} {ps : List MemPlace} (hv : Value.okWide Try.prog w .any 0 43 v) (h : DataW.Trod enc Try.prog w 0 (fun _ => true) true 43 v d ps) :
    ∃ a b c : Int, v = .agg #[.int .i64 a, .int .i64 b, .int .i64 c] := by
  simp only [Value.okWide, Try.underlying43] at hv
  obtain ⟨cs, rfl, hsz, _⟩ := hv
  rw [cells43] at hsz
  obtain ⟨fuel, hf⟩ := h
  obtain ⟨xs, m, _, _, hlen, hxl, hg⟩ := DataW.trod_array Try.underlying43 hf
  rw [cells3] at hg
  obtain ⟨l⟩ := cs
  have hl : l.length = 3 := by simpa using hsz
  have hc : (Value.agg ⟨l⟩).cells.toList = l := rfl
  rw [hc] at hg
  match l, hl with
  | [c0, c1, c2], _ =>
    have one : ∀ (i : Nat) (hi : i < 3) (c : Value), ([c0, c1, c2].drop (i * 1)).take 1 = [c] → ∃ a, c = .int .i64 a := by
      intro i hi c hcc
      have h1 := hg i hi
      rw [hcc, List.getElem?_eq_getElem (by omega)] at h1
      obtain ⟨a, h2, _, _⟩ := DataW.trod_int Try.underlying3 h1
      exact ⟨a, (List.cons.inj h2).1⟩
    obtain ⟨a, rfl⟩ := one 0 (by omega) c0 rfl
    obtain ⟨b, rfl⟩ := one 1 (by omega) c1 rfl
    obtain ⟨c, rfl⟩ := one 2 (by omega) c2 rfl
    exact ⟨a, b, c, rfl⟩

set_option maxRecDepth 100000 in
theorem lifted (os : Os) (started : os.Started) (H : Type) (enc : TypeId × Value → H) :
    ReturnsInHanded {} Try.checked os 5 .any (Rows.diskKeepsSpec.pre6 enc Try.prog Try.f5 Rows.diskKeepsRow.domain false) (Rows.diskKeepsSpec.post enc Try.prog Try.f5 false true false false) := by
  refine returnsInHanded_of_change_sized (C := Try.checked) Law.own started (by kernel_rfl) Try.func5
    (ChangeSpec.witness6 (enc := enc) (C := Try.checked) false ⟨#[], #[.slice none 0 0, .agg #[.int .i64 0, .int .i64 0, .int .i64 0]], []⟩ 8 (by kernel_rfl) (by kernel_rfl) (by kernel_rfl) (by kernel_rfl)) ?_
  intro W base args ds gs before hval0 hW hcnd hsz0 _
  have hval : ∀ (j : Nat) t v, Try.f5.params[j]? = some t → args[j]? = some v → Value.okWide Try.prog W .any base t v := hval0
  have hsz : (DataW.weightsEach Try.prog (Try.f5.params.toList ++ Rows.diskKeepsSpec.plain.varTypes Try.prog) (ds ++ gs)).all (· ≤ reachBytes) = true := hsz0
  have hW' := hW
  obtain ⟨p, q, hA0, hV, rfl, hfz, hnd⟩ := hW
  have hA : DataW.TrodAll enc Try.prog W 0 (fun _ => true) true Try.f5.params.toList args.toList ds p := hA0
  rw [Try.params5] at hA hval hsz
  obtain ⟨rfl, rfl⟩ := trodVars_none hV
  obtain ⟨v0, v1, d0, d1, p0, p1, rfl, rfl, rfl, h0, h1⟩ := trodAll_two hA
  obtain ⟨A, len, cap, ts, rfl, hl, ht⟩ := texts_open (okWide_slice Try.underlying42 (hval 0 42 v0 rfl rfl)) h0 (fun el sp hd bytes hm => text_sized hsz rfl (by rw [hd]; rfl) hm)
  obtain ⟨a, b, c, rfl⟩ := cut_open (hval 1 43 v1 rfl rfl) h1
  clear hA0 hval
  refine (Dk.keeps_any A len cap ts a b c W hl ht).mono fun e W' ⟨he, hb⟩ => ?_
  subst he
  exact ⟨_, rfl, Law.post_true rfl rfl rfl (by kernel_rfl) ⟨rfl, rfl, rfl⟩ hW' hb⟩

theorem keeps_holds : Rows.DiskKeepsSaid :=
  OpenClaim.holds_of_wide 5 Try.f5 rfl rfl rfl rfl rfl rfl rfl ⟨rfl, rfl, rfl, rfl, rfl⟩ rfl rfl rfl rfl rfl (by kernel_rfl) Try.func5 (by kernel_rfl)
    (of_decide_eq_true (by kernel_rfl)) (by unfold Func.isWrapper; first | (rw [if_pos (by decide +kernel)]; kernel_rfl) | (rw [if_neg (by decide +kernel)]; exact ⟨rfl, rfl⟩))
    (fun os started H enc _ => lifted os started H enc)
#print axioms keeps_holds
end KeepsF
end Go.Proofs.Ytohphljhldcjbaa
