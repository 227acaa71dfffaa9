/- For every list of texts and every cut that are together of bulk at most 1048576: what was synced is there behind a crash, and nothing that was never written is: 'DiskKeeps' returns true, and its arguments read as they read before. The condition: the bulk (with a text of some 2 to the 63 bytes the law's own sum of two lengths is no number of Go's int). -/
import Derived.Test.YtohphljhldcjbaaDkK
import Derived.Test.YtohphljhldcjbaaLaws
import Derived.SliceStrings
import Derived.JoinedCond
namespace Go.Proofs.Ytohphljhldcjbaa
set_option linter.unusedVariables false
set_option linter.unusedSimpArgs false
open Go.ChangeShapes Go.WideShapes Go.ChangeAt Go.RowKit
namespace Keeps

theorem cells9 : Try.prog.cellsOf 9 = 1 := by kernel_rfl
theorem cells43 : Try.prog.cellsOf 43 = 3 := by kernel_rfl
theorem cells3 : Try.prog.cellsOf 3 = 1 := by kernel_rfl

theorem strs_bulk {H : Type} (l : List ByteArray) {s : ByteArray} (hs : s ∈ l) : s.size ≤ Rows.uptoBulkAll (strs (H := H) l) := by
  have h1 : (.lit (.string s.data.toList) : DataW H) ∈ strs l := List.mem_map_of_mem hs
  have h2 := Law.bulk_mem h1
  have h3 : Rows.uptoBulk (.lit (.string s.data.toList) : DataW H) = s.data.toList.length + 1 := rfl
  have h4 : s.data.toList.length = s.size := by simp
  omega

/-- The texts that came in. -/
theorem texts_open {H : Type} {enc : TypeId × Value → H} {w : World} {v : Value} {d : DataW H} {ps : List MemPlace} (hv : ∃ A len cap, v = .slice A len cap) (h : DataW.Trod enc Try.prog w 0 (fun _ => true) true 42 v d ps) {ds : List (DataW H)} (hd : d ∈ ds) (hk : Rows.uptoSmall H ds = true) :
    ∃ A len cap ts, v = .slice A len cap ∧ len ≤ 9223372036854775807 ∧ Dk.Texts w A len ts := by
  have hb : Rows.uptoBulkAll ds ≤ 1048576 := of_decide_eq_true hk
  have hm := Law.bulk_mem hd
  obtain ⟨A, len, cap, rfl⟩ := hv
  obtain ⟨fuel, hf⟩ := h
  rcases open_strings Try.underlying42 Try.underlying9 cells9 hf with ⟨h0, _⟩ | ⟨a, len', cap', ss, hcs, _, hl, hmx, hz, hx, hcell, hsz⟩
  · simp [Value.cells] at h0
    obtain ⟨rfl, rfl, rfl⟩ := h0
    exact ⟨none, 0, 0, fun _ => .empty, rfl, by omega, fun h => absurd h (by omega)⟩
  · simp [Value.cells] at hcs
    obtain ⟨rfl, rfl, rfl⟩ := hcs
    unfold maxLen at hmx
    simp only [Prod.mk.injEq] at hx
    simp only [if_true] at hz
    refine ⟨some a, len, cap, fun i => ss.getD i .empty, rfl, by omega, fun hpos => ?_⟩
    obtain ⟨b, off, spot⟩ := a
    have h0 := hcell 0 (by omega)
    have hsp : spot = none := by
      have := World.cell?_spot h0
      simpa [Addr.add] using this
    subst hsp
    have hadd : ∀ k, (⟨b, off, none⟩ : Addr).add k = ⟨b, off + k, none⟩ := by
      intro k
      unfold Addr.add
      split
      · rename_i h; subst h; rfl
      · rfl
    refine ⟨b, off, rfl, ?_, fun i hi => ⟨?_, ?_⟩⟩
    · have := World.block_lt_of_cell? w _ h0
      rw [hadd] at this
      exact this
    · have := hcell i (by omega)
      rwa [hadd] at this
    · have hi' : i < (ss.take len).length := by simp; omega
      have e : ss.getD i .empty = (ss.take len)[i] := by simp [List.getD, List.getElem?_eq_getElem (show i < ss.length by omega)]
      show (ss.getD i .empty).size ≤ _
      rw [e]
      have h1 := strs_bulk (H := H) (ss.take len) (List.getElem_mem hi')
      rw [hx.1] at hm
      simp only [Rows.uptoBulk] at hm
      omega

set_option maxRecDepth 100000 in
theorem cut_open {H : Type} {enc : TypeId × Value → H} {w : World} {v : Value} {d : DataW H} {ps : List MemPlace} (hv : Value.okWide Try.prog w .any 0 43 v) (h : DataW.Trod enc Try.prog w 0 (fun _ => true) true 43 v d ps) :
    ∃ a b c : Int, v = .agg #[.int .i64 a, .int .i64 b, .int .i64 c] := by
  simp only [Value.okWide, Try.underlying43] at hv
  obtain ⟨cs, rfl, hsz, _⟩ := hv
  rw [cells43] at hsz
  obtain ⟨fuel, hf⟩ := h
  obtain ⟨xs, m, _, _, hlen, hxl, hg⟩ := DataW.trod_array Try.underlying43 hf
  rw [cells3] at hg
  obtain ⟨l⟩ := cs
  have hl : l.length = 3 := by simpa using hsz
  have hc : (Value.agg ⟨l⟩).cells.toList = l := rfl
  rw [hc] at hg
  match l, hl with
  | [c0, c1, c2], _ =>
    have one : ∀ (i : Nat) (hi : i < 3) (c : Value), ([c0, c1, c2].drop (i * 1)).take 1 = [c] → ∃ a, c = .int .i64 a := by
      intro i hi c hcc
      have h1 := hg i hi
      rw [hcc, List.getElem?_eq_getElem (by omega)] at h1
      obtain ⟨a, h2, _, _⟩ := DataW.trod_int Try.underlying3 h1
      exact ⟨a, (List.cons.inj h2).1⟩
    obtain ⟨a, rfl⟩ := one 0 (by omega) c0 rfl
    obtain ⟨b, rfl⟩ := one 1 (by omega) c1 rfl
    obtain ⟨c, rfl⟩ := one 2 (by omega) c2 rfl
    exact ⟨a, b, c, rfl⟩

set_option maxRecDepth 100000 in
theorem contract (H : Type) (enc : TypeId × Value → H) (W : World) (base : Nat) (args : Array Value) (ds gs : List (DataW H)) (before : List MemPlace)
    (hval : ∀ (j : Nat) t v, Try.f5.params[j]? = some t → args[j]? = some v → Value.okWide Try.prog W .any base t v)
    (hW : DataW.Whole enc Try.prog Try.f5.params.toList Rows.diskKeepsSpec.vars false W args.toList ds gs before) (hk : Rows.uptoSmall H (ds ++ gs) = true) :
    Calls Try.prog 5 args W fun e W' => ∃ v, e = .returned v ∧ Rows.diskKeepsSpec.post enc Try.prog Try.f5 false true false false W args v W' := by
  have hW' := hW
  obtain ⟨p, q, hA0, hV, rfl, hfz, hnd⟩ := hW
  have hA : DataW.TrodAll enc Try.prog W 0 (fun _ => true) true Try.f5.params.toList args.toList ds p := hA0
  rw [Try.params5] at hA hval
  obtain ⟨rfl, rfl⟩ := trodVars_none hV
  obtain ⟨v0, v1, d0, d1, p0, p1, rfl, rfl, rfl, h0, h1⟩ := trodAll_two hA
  obtain ⟨A, len, cap, ts, rfl, hl, ht⟩ := texts_open (okWide_slice Try.underlying42 (hval 0 42 v0 rfl rfl)) h0 (ds := [d0, d1] ++ []) (by simp) hk
  obtain ⟨a, b, c, rfl⟩ := cut_open (hval 1 43 v1 rfl rfl) h1
  clear hA0 hval
  refine (Dk.keeps_any A len cap ts a b c W hl ht).mono fun e W' ⟨he, hb⟩ => ?_
  subst he
  exact ⟨_, rfl, Law.post_true rfl rfl rfl (by kernel_rfl) ⟨rfl, rfl, rfl⟩ hW' hb⟩

set_option maxRecDepth 100000 in
theorem lifted (os : Os) (started : os.Started) (H : Type) (enc : TypeId × Value → H) (F : Stop.Interp) :
    ReturnsInHanded {} Try.checked os 5 .any ((Rows.OpenSpec.upto Rows.diskKeepsSpec).pre6 enc Try.prog Try.f5 Rows.diskKeepsUptoRow.domain false) (((Rows.OpenSpec.upto Rows.diskKeepsSpec).at F).post enc Try.prog Try.f5 false true false false) := by
  refine returnsInHanded_of_cond (C := Try.checked) (s := Rows.OpenSpec.upto Rows.diskKeepsSpec) (k := Rows.uptoSmall) rfl Law.own started (by kernel_rfl) Try.func5
    (OpenSpec.witness (enc := enc) (C := Try.checked) (s := Rows.OpenSpec.upto Rows.diskKeepsSpec) (k := Rows.uptoSmall) rfl false ⟨#[], #[.slice none 0 0, .agg #[.int .i64 0, .int .i64 0, .int .i64 0]], []⟩ 8 (by kernel_rfl) (by kernel_rfl) (by kernel_rfl)
      (x := ([.nil, .agg [.lit (.int .i64 0), .lit (.int .i64 0), .lit (.int .i64 0)]], [], [])) (by kernel_rfl) rfl (by kernel_rfl)) ?_
  intro W base args ds gs before hval hW _ hk _
  exact contract H enc W base args ds gs before hval hW hk

theorem keeps_holds : Rows.DiskKeepsUptoSaid :=
  OpenClaim.holds_of_cond 5 Try.f5 rfl rfl rfl rfl rfl rfl rfl ⟨rfl, rfl, rfl, rfl, rfl⟩ rfl rfl rfl rfl rfl (by kernel_rfl) Try.func5 (by kernel_rfl)
    (of_decide_eq_true (by kernel_rfl)) (by unfold Func.isWrapper; first | (rw [if_pos (by decide +kernel)]; kernel_rfl) | (rw [if_neg (by decide +kernel)]; exact ⟨rfl, rfl⟩))
    (fun os started H enc _ F => lifted os started H enc F)
#print axioms keeps_holds
end Keeps
end Go.Proofs.Ytohphljhldcjbaa
