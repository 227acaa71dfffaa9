/- For every list of bans and every text: bans as bytes, and any bytes read as bans, are as the document says: 'ScoreBytes' returns true, and its arguments read as they read before. No condition. -/
import Derived.Test.YtohphljhldcjbaaByN
import Derived.Test.YtohphljhldcjbaaLaws
import Derived.SizedLaws
import Derived.ChangeMaps5
namespace Go.Proofs.Ytohphljhldcjbaa
set_option linter.unusedVariables false
set_option linter.unusedSimpArgs false
open Go.ChangeShapes Go.WideShapes Go.ChangeAt Go.RowKit
namespace BytesF

theorem banFields : ∃ f0 f1 : Field, Try.prog.underlying 60 = some (.struct #[f0, f1]) ∧ Try.prog.underlying f0.type = some (.int .u32) ∧ Try.prog.underlying f1.type = some (.int .i64) ∧ Go.Deep.oneCellFields Try.prog #[f0, f1] = true :=
  ⟨_, _, Try.underlying60, by kernel_rfl, by kernel_rfl, by kernel_rfl⟩
theorem banCells : Try.prog.cellsOf 60 = 2 := by kernel_rfl

/-- The bans that came in, as cells. -/
theorem bans_open {H : Type} {enc : TypeId × Value → H} {w : World} {v : Value} {d : DataW H} {ps : List MemPlace} (hv : ∃ A len cap, v = .slice A len cap) (h : DataW.Trod enc Try.prog w 0 (fun _ => true) true 56 v d ps) :
    ∃ A len cap hs us, v = .slice A len cap ∧ (len = 0 ∨ ∃ el rest, d = .slice el rest ∧ el.length = len) ∧ By.Bans w A len hs us := by
  obtain ⟨f0, f1, he, k0, k1, hone⟩ := banFields
  obtain ⟨A, len, cap, rfl, hl, hd, hc⟩ := Law.open_rows banCells Try.underlying56 hv h
  rcases Nat.eq_zero_or_pos len with hpos | hpos
  · exact ⟨A, len, cap, fun _ => 0, fun _ => 0, rfl, hd, fun hp => absurd hp (by omega)⟩
  obtain ⟨a, rfl, hi⟩ := hc hpos
  have all : ∀ i, i < len → ∃ (x : Nat) (y : Int), w.cell? (a.add (i * 2)) = some (.int .u32 (x : Nat)) ∧ w.cell? (a.add (i * 2 + 1)) = some (.int .i64 y) ∧ x < 4294967296 := by
    intro i hil
    obtain ⟨cs, n, y, hlen, hcell, ht⟩ := hi i hil
    obtain ⟨x0, e0, w0⟩ := Law.int_field he hone ht 0 f0 .u32 rfl k0 (by omega)
    obtain ⟨x1, e1, _⟩ := Law.int_field he hone ht 1 f1 .i64 rfl k1 (by omega)
    have hb : 0 ≤ x0 ∧ x0 ≤ 4294967295 := by
      simp [Lit.wf, IntKind.min, IntKind.max, IntKind.signed, IntKind.bits] at w0
      omega
    obtain ⟨x, rfl⟩ := Int.eq_ofNat_of_zero_le hb.1
    exact ⟨x, x1, by simpa [e0] using hcell 0 (by omega), by rw [hcell 1 (by omega), e1], by omega⟩
  obtain ⟨b, off, spot⟩ := a
  have hsp : spot = none := by
    obtain ⟨_, _, h0, _⟩ := all 0 hpos
    have := World.cell?_spot h0
    simpa [Addr.add] using this
  subst hsp
  have hadd : ∀ k, (⟨b, off, none⟩ : Addr).add k = ⟨b, off + k, none⟩ := by
    intro k
    unfold Addr.add
    split
    · rename_i h; subst h; rfl
    · rfl
  have hx : ∀ i, ∃ x : Nat, ∃ y : Int, i < len → w.cell? ⟨b, off + i * 2, none⟩ = some (.int .u32 (x : Nat)) ∧ w.cell? ⟨b, off + i * 2 + 1, none⟩ = some (.int .i64 y) ∧ x < 4294967296 := by
    intro i
    by_cases hil : i < len
    · obtain ⟨x, y, h0, h1, h2⟩ := all i hil
      rw [hadd] at h0 h1
      exact ⟨x, y, fun _ => ⟨h0, by rw [Nat.add_assoc]; exact h1, h2⟩⟩
    · exact ⟨0, 0, fun h => absurd h hil⟩
  refine ⟨_, len, cap, fun i => (hx i).choose, fun i => (hx i).choose_spec.choose, rfl, hd, fun _ => ⟨b, off, rfl, ?_, fun i hil => (hx i).choose_spec.choose_spec hil⟩⟩
  obtain ⟨_, _, h0, _⟩ := all 0 hpos
  have := World.block_lt_of_cell? w _ h0
  rw [hadd] at this
  exact this

theorem banBytes : Try.prog.bytesOf 60 = 16 := by kernel_rfl
set_option maxRecDepth 100000 in
theorem lifted (os : Os) (started : os.Started) (H : Type) (enc : TypeId × Value → H) :
    ReturnsInHanded {} Try.checked os 7 .any (Rows.scoreBytesSpec.pre6 enc Try.prog Try.f7 Rows.scoreBytesRow.domain false) (Rows.scoreBytesSpec.post enc Try.prog Try.f7 false true false false) := by
  refine returnsInHanded_of_change_sized (C := Try.checked) Law.own started (by kernel_rfl) Try.func7
    (ChangeSpec.witness6 (enc := enc) (C := Try.checked) false ⟨#[], #[.slice none 0 0, .string .empty], []⟩ 8 (by kernel_rfl) (by kernel_rfl) (by kernel_rfl) (by kernel_rfl)) ?_
  intro W base args ds gs before hval0 hW hcnd hsz0 _
  have hval : ∀ (j : Nat) t v, Try.f7.params[j]? = some t → args[j]? = some v → Value.okWide Try.prog W .any base t v := hval0
  have hsz : (DataW.weightsEach Try.prog (Try.f7.params.toList ++ Rows.scoreBytesSpec.plain.varTypes Try.prog) (ds ++ gs)).all (· ≤ reachBytes) = true := hsz0
  have hW' := hW
  obtain ⟨p, q, hA0, hV, rfl, hfz, hnd⟩ := hW
  have hA : DataW.TrodAll enc Try.prog W 0 (fun _ => true) true Try.f7.params.toList args.toList ds p := hA0
  rw [Try.params7] at hA hval hsz
  obtain ⟨rfl, rfl⟩ := trodVars_none hV
  obtain ⟨v0, v1, d0, d1, p0, p1, rfl, rfl, rfl, h0, h1⟩ := trodAll_two hA
  obtain ⟨A, len, cap, hs, us, rfl, hd, hb⟩ := bans_open (okWide_slice Try.underlying56 (hval 0 56 v0 rfl rfl)) h0
  have hr : reachBytes = 140737488351232 := rfl
  have hl : len ≤ 8796093021952 := by
    rcases hd with rfl | ⟨el, rest, hd, hel⟩
    · omega
    · have h := sized_slice hsz (j := 0) (t := 56) (e := 60) (elems := el) (spare := rest) rfl (by rw [hd]; rfl) Try.underlying56
      rw [banBytes] at h
      omega
  obtain ⟨s, rfl, rfl, _, _⟩ := Go.ChangeMaps.open_string Try.underlying9 (hval 1 9 v1 rfl rfl) h1
  have hss : s.size ≤ 140737488351232 := by
    have h := sized_string hsz (j := 1) (t := 9) (bytes := s.data.toList) rfl rfl
    have h3 : s.data.toList.length = s.size := Array.length_toList
    omega
  clear hA0 hval
  refine (By.bytes_law A len cap hs us s W hb hl hss).mono fun e W' ⟨he, hb⟩ => ?_
  subst he
  exact ⟨_, rfl, Law.post_true rfl rfl rfl (by kernel_rfl) ⟨rfl, rfl, rfl⟩ hW' hb⟩

theorem bytes_holds : Rows.ScoreBytesSaid :=
  OpenClaim.holds_of_wide 7 Try.f7 rfl rfl rfl rfl rfl rfl rfl ⟨rfl, rfl, rfl, rfl, rfl⟩ rfl rfl rfl rfl rfl (by kernel_rfl) Try.func7 (by kernel_rfl)
    (of_decide_eq_true (by kernel_rfl)) (by unfold Func.isWrapper; first | (rw [if_pos (by decide +kernel)]; kernel_rfl) | (rw [if_neg (by decide +kernel)]; exact ⟨rfl, rfl⟩))
    (fun os started H enc _ => lifted os started H enc)
#print axioms bytes_holds
end BytesF
end Go.Proofs.Ytohphljhldcjbaa
