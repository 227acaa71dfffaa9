/- The row's tie, and the tied card of the law. -/
import Derived.Test.YtbkeeghkpkfeiaaGreatDoorTiA
import Derived.Test.YtbkeeghkpkfeiaaGreatDoorTiH
import Derived.Test.YtbkeeghkpkfeiaaGreatDoorTiI
import Derived.Test.YtbkeeghkpkfeiaaGreatDoorTiJ
import Derived.Test.YtbkeeghkpkfeiaaGreatDoorNodeShakes
import Derived.Test.YtbkeeghkpkfeiaaGreatDoorCards
import Derived.SevenTiedAt
namespace Go.Proofs.YtbkeeghkpkfeiaaGreatDoor
open Go
namespace Ti
set_option maxRecDepth 100000
theorem alone : Tryz.prog.callsLaidAlone 826 vc = true := by
  unfold Program.callsLaidAlone
  rw [u1, u2, u3, u4, u5]
  rfl
theorem g0 : Tryz.prog.globalNamed "strconv.ErrSyntax" = some 1 := by kernel_rfl
theorem g1 : Tryz.prog.globalNamed "strconv.ErrRange" = some 2 := by kernel_rfl
theorem g2 : Tryz.prog.globalNamed "internal/strconv.uint64pow10" = some 5 := by kernel_rfl
theorem g3 : Tryz.prog.globalNamed "math/bits.deBruijn32tab" = some 6 := by kernel_rfl
theorem g4 : Tryz.prog.globalNamed "math/bits.deBruijn64tab" = some 7 := by kernel_rfl
theorem g5 : Tryz.prog.globalNamed "unicode/utf8.acceptRanges" = some 4 := by kernel_rfl
theorem q0 : ((Tryz.prog.globalNamed "strconv.ErrSyntax").any fun v => ([6, 7, 5, 4, 2, 1].contains v == (Tryz.prog.kindBase "strconv.ErrSyntax" != some .zero)) && callsFit vc v (Tryz.prog.kindBase "strconv.ErrSyntax") &&
    ((vc.storedByHandle Tryz.prog).contains v == (Tryz.prog.kindBase "strconv.ErrSyntax" == some .handle)) && ((Rows.laid_strconv_ErrSyntax : DataW Unit).handleName?.isSome == (Tryz.prog.kindBase "strconv.ErrSyntax" == some .handle || Tryz.prog.kindBase "strconv.ErrSyntax" == some .funcs)) &&
    (Tryz.prog.kindBase "strconv.ErrSyntax" != some .handle || handlePair ("strconv.ErrSyntax", Rows.laid_strconv_ErrSyntax)) && ((Rows.laid_strconv_ErrSyntax : DataW Unit).funcsIn?.isSome == (Tryz.prog.kindBase "strconv.ErrSyntax" == some .funcs)) && mapsFit vc v Rows.laid_strconv_ErrSyntax (Tryz.prog.kindBase "strconv.ErrSyntax")) = true := by
  rw [kb0, g0]
  kernel_rfl
theorem q1 : ((Tryz.prog.globalNamed "strconv.ErrRange").any fun v => ([6, 7, 5, 4, 2, 1].contains v == (Tryz.prog.kindBase "strconv.ErrRange" != some .zero)) && callsFit vc v (Tryz.prog.kindBase "strconv.ErrRange") &&
    ((vc.storedByHandle Tryz.prog).contains v == (Tryz.prog.kindBase "strconv.ErrRange" == some .handle)) && ((Rows.laid_strconv_ErrRange : DataW Unit).handleName?.isSome == (Tryz.prog.kindBase "strconv.ErrRange" == some .handle || Tryz.prog.kindBase "strconv.ErrRange" == some .funcs)) &&
    (Tryz.prog.kindBase "strconv.ErrRange" != some .handle || handlePair ("strconv.ErrRange", Rows.laid_strconv_ErrRange)) && ((Rows.laid_strconv_ErrRange : DataW Unit).funcsIn?.isSome == (Tryz.prog.kindBase "strconv.ErrRange" == some .funcs)) && mapsFit vc v Rows.laid_strconv_ErrRange (Tryz.prog.kindBase "strconv.ErrRange")) = true := by
  rw [kb1, g1]
  kernel_rfl
theorem q2 : ((Tryz.prog.globalNamed "internal/strconv.uint64pow10").any fun v => ([6, 7, 5, 4, 2, 1].contains v == (Tryz.prog.kindBase "internal/strconv.uint64pow10" != some .zero)) && callsFit vc v (Tryz.prog.kindBase "internal/strconv.uint64pow10") &&
    ((vc.storedByHandle Tryz.prog).contains v == (Tryz.prog.kindBase "internal/strconv.uint64pow10" == some .handle)) && ((Rows.laid_internal_strconv_uint64pow10 : DataW Unit).handleName?.isSome == (Tryz.prog.kindBase "internal/strconv.uint64pow10" == some .handle || Tryz.prog.kindBase "internal/strconv.uint64pow10" == some .funcs)) &&
    (Tryz.prog.kindBase "internal/strconv.uint64pow10" != some .handle || handlePair ("internal/strconv.uint64pow10", Rows.laid_internal_strconv_uint64pow10)) && ((Rows.laid_internal_strconv_uint64pow10 : DataW Unit).funcsIn?.isSome == (Tryz.prog.kindBase "internal/strconv.uint64pow10" == some .funcs)) && mapsFit vc v Rows.laid_internal_strconv_uint64pow10 (Tryz.prog.kindBase "internal/strconv.uint64pow10")) = true := by
  rw [kb2, g2]
  kernel_rfl
theorem q3 : ((Tryz.prog.globalNamed "math/bits.deBruijn32tab").any fun v => ([6, 7, 5, 4, 2, 1].contains v == (Tryz.prog.kindBase "math/bits.deBruijn32tab" != some .zero)) && callsFit vc v (Tryz.prog.kindBase "math/bits.deBruijn32tab") &&
    ((vc.storedByHandle Tryz.prog).contains v == (Tryz.prog.kindBase "math/bits.deBruijn32tab" == some .handle)) && ((Rows.laid_math_bits_deBruijn32tab : DataW Unit).handleName?.isSome == (Tryz.prog.kindBase "math/bits.deBruijn32tab" == some .handle || Tryz.prog.kindBase "math/bits.deBruijn32tab" == some .funcs)) &&
    (Tryz.prog.kindBase "math/bits.deBruijn32tab" != some .handle || handlePair ("math/bits.deBruijn32tab", Rows.laid_math_bits_deBruijn32tab)) && ((Rows.laid_math_bits_deBruijn32tab : DataW Unit).funcsIn?.isSome == (Tryz.prog.kindBase "math/bits.deBruijn32tab" == some .funcs)) && mapsFit vc v Rows.laid_math_bits_deBruijn32tab (Tryz.prog.kindBase "math/bits.deBruijn32tab")) = true := by
  rw [kb3, g3]
  kernel_rfl
theorem q4 : ((Tryz.prog.globalNamed "math/bits.deBruijn64tab").any fun v => ([6, 7, 5, 4, 2, 1].contains v == (Tryz.prog.kindBase "math/bits.deBruijn64tab" != some .zero)) && callsFit vc v (Tryz.prog.kindBase "math/bits.deBruijn64tab") &&
    ((vc.storedByHandle Tryz.prog).contains v == (Tryz.prog.kindBase "math/bits.deBruijn64tab" == some .handle)) && ((Rows.laid_math_bits_deBruijn64tab : DataW Unit).handleName?.isSome == (Tryz.prog.kindBase "math/bits.deBruijn64tab" == some .handle || Tryz.prog.kindBase "math/bits.deBruijn64tab" == some .funcs)) &&
    (Tryz.prog.kindBase "math/bits.deBruijn64tab" != some .handle || handlePair ("math/bits.deBruijn64tab", Rows.laid_math_bits_deBruijn64tab)) && ((Rows.laid_math_bits_deBruijn64tab : DataW Unit).funcsIn?.isSome == (Tryz.prog.kindBase "math/bits.deBruijn64tab" == some .funcs)) && mapsFit vc v Rows.laid_math_bits_deBruijn64tab (Tryz.prog.kindBase "math/bits.deBruijn64tab")) = true := by
  rw [kb4, g4]
  kernel_rfl
theorem q5 : ((Tryz.prog.globalNamed "unicode/utf8.acceptRanges").any fun v => ([6, 7, 5, 4, 2, 1].contains v == (Tryz.prog.kindBase "unicode/utf8.acceptRanges" != some .zero)) && callsFit vc v (Tryz.prog.kindBase "unicode/utf8.acceptRanges") &&
    ((vc.storedByHandle Tryz.prog).contains v == (Tryz.prog.kindBase "unicode/utf8.acceptRanges" == some .handle)) && ((Rows.laid_unicode_utf8_acceptRanges : DataW Unit).handleName?.isSome == (Tryz.prog.kindBase "unicode/utf8.acceptRanges" == some .handle || Tryz.prog.kindBase "unicode/utf8.acceptRanges" == some .funcs)) &&
    (Tryz.prog.kindBase "unicode/utf8.acceptRanges" != some .handle || handlePair ("unicode/utf8.acceptRanges", Rows.laid_unicode_utf8_acceptRanges)) && ((Rows.laid_unicode_utf8_acceptRanges : DataW Unit).funcsIn?.isSome == (Tryz.prog.kindBase "unicode/utf8.acceptRanges" == some .funcs)) && mapsFit vc v Rows.laid_unicode_utf8_acceptRanges (Tryz.prog.kindBase "unicode/utf8.acceptRanges")) = true := by
  rw [kb5, g5]
  kernel_rfl
theorem dups : (([6, 7, 5, 4, 2, 1] : List Nat).eraseDups.length == [6, 7, 5, 4, 2, 1].length) = true := by kernel_rfl
theorem w6 : varsNamedLaterB Tryz.prog (varsId Tryz.prog) L = true := by
  unfold varsNamedLaterB
  rw [e1, e2]
  simp only [e3, L, List.all_cons, List.all_nil, Bool.and_eq_true]
  exact ⟨⟨dups, alone⟩, q0, q1, q2, q3, q4, q5, trivial⟩
theorem w9 : ∀ os tape, (DataW.laidRun Tryz.prog (varsWorld Tryz.prog 400 (varsId Tryz.prog) os tape).memory 8 (LI.map (·.1))).map (fun x => decide x.2.Nodup && laidRowsB Tryz.prog (varsWorld Tryz.prog 400 (varsId Tryz.prog) os tape).memory x.2) = some true := by
  intro os tape
  have h1 := w9a os tape
  have h2 := w9b os tape
  generalize DataW.laidRun Tryz.prog (varsWorld Tryz.prog 400 (varsId Tryz.prog) os tape).memory 8 (LI.map (·.1)) = r at h1 h2 ⊢
  cases r with
  | none => cases h1
  | some x =>
    simp only [Option.map_some, Option.some.injEq] at h1 h2 ⊢
    rw [h2, Bool.and_true]
    exact decide_eq_true (nodup_of_code h1)
theorem tie : Tryz.prog.laidByTextLater L K true :=
  Program.laidByTextLater_by_run 400 8 w1 w2 w3 w4 w5 w6 w7 w8 w9 w10
theorem fits1 : Tryz.pinned.checked.prog.listedFits Rows.nodeShakesRow.laid = true := by
  unfold Program.listedFits
  rw [show Tryz.pinned.checked.prog.headLifts.contains "ownunsafe" = false from noOwn]
  kernel_rfl
theorem row_tie : Rows.nodeShakesRow.laidByTextAt .later Tryz.pinned [.sentinel, .sentinel, .data, .data, .data, .pinned, .data] true :=
  OpenClaim.laidByTextAt_pinned rfl rfl tie rfl rfl rfl rfl (fun y hy _e => by
    simp only [Rows.nodeShakesRow, List.zip_cons_cons, List.zip_nil_right, List.mem_cons, List.mem_nil_iff, or_false] at hy
    rcases hy with rfl | rfl | rfl | rfl | rfl | rfl | rfl
    · cases _e
    · cases _e
    · cases _e
    · cases _e
    · cases _e
    · exact ⟨pin1, by kernel_rfl⟩
    · cases _e) fits1
end Ti
namespace Shakes
open Go
set_option maxRecDepth 100000 in
theorem cw : Rows.nodeShakesRow.wfByText (OpenSpec.ofChange Rows.nodeShakesSpec) = true := by kernel_rfl
set_option maxRecDepth 100000 in
theorem cm : Tryz.prog.mainIs = some (true, "664a43e4647acb95982df162984d156e49c1534567ff5c8fbb8c9d792617285a".toList) := by kernel_rfl
set_option maxRecDepth 100000 in
theorem cl : true = Tryz.prog.looks [] := by kernel_rfl
set_option maxRecDepth 100000 in
theorem cs : Tryz.f3.params.toList.all (fun t => !Tryz.prog.wantsStandIn t) = true := by kernel_rfl
set_option maxRecDepth 100000 in
theorem go1 : (Tryz.prog.closure 3).any (fun g => (Tryz.prog.funcs[g]?).any Func.goes) = false := by
  rw [Clo.closure_eq]
  kernel_rfl
set_option maxRecDepth 100000 in
theorem go2 : Tryz.prog.funcs.any Func.goes = false := by kernel_rfl
theorem go3 : Tryz.prog.goes 3 = false := by
  unfold Program.goes
  rw [go1, go2, Bool.and_false]
  rfl
theorem go4 : Tryz.prog.goesFrom Rows.nodeShakesRow.func = false := by
  unfold Program.goesFrom
  rw [named, Option.any_some, go3]
theorem cg : false = Rows.nodeShakesRow.goesBy Tryz.prog := by
  unfold OpenClaim.goesBy Program.goesAt
  rw [go4]
  rfl
theorem card_holds : Rows.NodeShakesCardSaid :=
  Claim7.holds_tied_plain_at .later [] [.sentinel, .sentinel, .data, .data, .data, .pinned, .data] true (true, "664a43e4647acb95982df162984d156e49c1534567ff5c8fbb8c9d792617285a") true
    shakes_holds (fun _ h => by cases h) cw (fun _ h => by cases h) Ti.row_tie rfl ⟨rfl, rfl⟩ cm rfl
    (fun f fn hf hfn => by
      obtain rfl : f = 3 := (Option.some.inj (named.symm.trans hf)).symm
      obtain rfl : fn = Tryz.f3 := (Option.some.inj (Tryz.func3.symm.trans hfn)).symm
      exact ⟨cl, fun j t ht => by
        have := List.all_eq_true.1 cs t (List.mem_of_getElem? (by simpa using ht))
        exact (by simpa using this : Tryz.prog.wantsStandIn t = false)⟩)
    cg
#print axioms card_holds
end Shakes
end Go.Proofs.YtbkeeghkpkfeiaaGreatDoor
