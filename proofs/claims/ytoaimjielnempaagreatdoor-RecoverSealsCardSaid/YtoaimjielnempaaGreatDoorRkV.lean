/- A world that the row's witness begins in: the library's variables read as listed. -/
import Derived.Test.YtoaimjielnempaaGreatDoorRows
import Derived.ProofKit
import Derived.LaidMore
import Derived.OpenShut
import Derived.LaidHandle
import Derived.Lib.LaidIn
import Derived.Deep.DeepLaidBlocks
import Derived.KernelRfl
namespace Go.Proofs.YtoaimjielnempaaGreatDoor
set_option linter.unusedVariables false
set_option linter.unusedSimpArgs false
open Go.RowKit
namespace Wit
abbrev synS : ByteArray := { data := #[105, 110, 118, 97, 108, 105, 100, 32, 115, 121, 110, 116, 97, 120] }
abbrev rngS : ByteArray := { data := #[118, 97, 108, 117, 101, 32, 111, 117, 116, 32, 111, 102, 32, 114, 97, 110, 103, 101] }
def err0 : Array Value := #[.iface 488 (.pointer (some ⟨11, 0, none⟩))]
def err1 : Array Value := #[.iface 488 (.pointer (some ⟨12, 0, none⟩))]
def tPow : Array Value := #[.int .u64 1, .int .u64 10, .int .u64 100, .int .u64 1000, .int .u64 10000, .int .u64 100000, .int .u64 1000000, .int .u64 10000000, .int .u64 100000000, .int .u64 1000000000, .int .u64 10000000000, .int .u64 100000000000, .int .u64 1000000000000, .int .u64 10000000000000, .int .u64 100000000000000, .int .u64 1000000000000000, .int .u64 10000000000000000, .int .u64 100000000000000000, .int .u64 1000000000000000000, .int .u64 10000000000000000000]
def tB32 : Array Value := #[.int .u8 0, .int .u8 1, .int .u8 28, .int .u8 2, .int .u8 29, .int .u8 14, .int .u8 24, .int .u8 3, .int .u8 30, .int .u8 22, .int .u8 20, .int .u8 15, .int .u8 25, .int .u8 17, .int .u8 4, .int .u8 8, .int .u8 31, .int .u8 27, .int .u8 13, .int .u8 23, .int .u8 21, .int .u8 19, .int .u8 16, .int .u8 7, .int .u8 26, .int .u8 12, .int .u8 18, .int .u8 6, .int .u8 11, .int .u8 5, .int .u8 10, .int .u8 9]
def tB64 : Array Value := #[.int .u8 0, .int .u8 1, .int .u8 56, .int .u8 2, .int .u8 57, .int .u8 49, .int .u8 28, .int .u8 3, .int .u8 61, .int .u8 58, .int .u8 42, .int .u8 50, .int .u8 38, .int .u8 29, .int .u8 17, .int .u8 4, .int .u8 62, .int .u8 47, .int .u8 59, .int .u8 36, .int .u8 45, .int .u8 43, .int .u8 51, .int .u8 22, .int .u8 53, .int .u8 39, .int .u8 33, .int .u8 30, .int .u8 24, .int .u8 18, .int .u8 12, .int .u8 5, .int .u8 63, .int .u8 55, .int .u8 48, .int .u8 27, .int .u8 60, .int .u8 41, .int .u8 37, .int .u8 16, .int .u8 46, .int .u8 35, .int .u8 44, .int .u8 21, .int .u8 52, .int .u8 32, .int .u8 23, .int .u8 11, .int .u8 54, .int .u8 26, .int .u8 40, .int .u8 15, .int .u8 34, .int .u8 20, .int .u8 31, .int .u8 10, .int .u8 25, .int .u8 14, .int .u8 19, .int .u8 9, .int .u8 13, .int .u8 8, .int .u8 7, .int .u8 6]
def setc (cs : Array Value) : Obj → Obj
  | .cells _ t f => .cells cs t f
  | o => o
noncomputable def laidW (os : Os) : World :=
  let w0 := World.holding Tryz.prog os ⟨#[.cells #[.string synS] 490, .cells #[.string rngS] 490], #[], []⟩
  { w0 with heap := (((((w0.heap.modify 0 (setc err0)).modify 1 (setc err1)).modify 3 (setc tPow)).modify 4 (setc tB32)).modify 5 (setc tB64)) }
/-- What reads so in a small world reads so where the blocks are the same. -/
theorem laidIn_blocks {P : Program} {w w' : World} {l : List (String × DataW Unit)} (fuel : Nat) (B : List Nat) (h : (DataW.laidRun P w fuel (l.map (·.1))).map (·.1) = some l)
    (hn : (DataW.laidRun P w fuel (l.map (·.1))).map (fun x => nodupB (x.2.map MemPlace.codeOf)) = some true)
    (hr : (DataW.laidRun P w fuel (l.map (·.1))).map (fun x => laidRowsB P w x.2) = some true)
    (hin : (DataW.laidRun P w fuel (l.map (·.1))).map (fun x => placesIn B x.2) = some true)
    (hni : (DataW.laidRun P w fuel (l.map (·.1))).map (fun x => noIface w x.2) = some true)
    (hvars : varsIn P B l = true)
    (hB : B.map (fun b => w'.heap[b]?) = B.map (fun b => w.heap[b]?)) : LaidIn P w' l B := by
  have hA := AgreeOn.of_map hB
  cases hx : DataW.laidRun P w fuel (l.map (·.1)) with
  | none => simp [hx] at h
  | some x =>
    rw [hx] at h hn hr hin hni
    simp only [Option.map_some, Option.some.injEq] at h hn hr hin hni
    obtain ⟨x1, ps⟩ := x
    simp only at h hn hr hin hni
    subst h
    have hIn : ∀ p ∈ ps, p.block ∈ B := fun p hp => by simpa using List.all_eq_true.1 hin p hp
    have hVars : ∀ nd ∈ x1, ∀ g, P.globalNamed nd.1 = some g → g ∈ B := fun nd hnd' g hg => by
      have := List.all_eq_true.1 hvars nd hnd'
      rw [hg] at this
      simpa using this
    refine ⟨ps, LaidVars_of_blocks hA (DataW.LaidVars_of_laidRun hx) hIn hVars, nodup_of_code hn, fun b off hp => ?_, hIn⟩
    have hb : b ∈ B := hIn _ hp
    have h1 := List.all_eq_true.1 hr _ hp
    have h2 := List.all_eq_true.1 hni _ hp
    simp only [Bool.and_eq_true] at h1
    refine ⟨?_, fun u v hc => ?_⟩
    · rw [hA b hb]
      have h11 := h1.1
      split at h11
      · rename_i c t hh
        exact ⟨c, t, hh⟩
      · cases h11
    · have hc' : w.cell? ⟨b, off, none⟩ = some (.iface u v) := (World.cell?_of_block (w := w) (w' := w') (a := ⟨b, off, none⟩) (hA b hb)).symm.trans hc
      simp only [hc'] at h2
      cases h2
def bare (t : TypeId) : Obj := .cells #[] t (0, 0)
def smallHeap : Array Obj := #[bare 0, bare 0, bare 0, .cells tPow 492 (0, 0), .cells tB32 23 (0, 0), .cells tB64 113 (0, 0)]
noncomputable def smallW : World := { heap := smallHeap, tape := fun _ _ => 0, drawn := 0, os := default, output := default }
noncomputable def wOf (os : Os) (args : Array Value) : World := ((laidW os).forCall (fun _ _ => 0) ⟨#[], args, []⟩).memory
def tabs : List (String × DataW Unit) := [("math/bits.deBruijn32tab", Rows.laid_math_bits_deBruijn32tab), ("math/bits.deBruijn64tab", Rows.laid_math_bits_deBruijn64tab), ("internal/strconv.uint64pow10", Rows.laid_internal_strconv_uint64pow10)]
def errs : List (String × DataW Unit) := [("strconv.ErrRange", Rows.laid_strconv_ErrRange), ("strconv.ErrSyntax", Rows.laid_strconv_ErrSyntax)]
theorem laid_two : Rows.recoverSealsRow.laid = tabs ++ errs := rfl
theorem tabs_in (os : Os) (args : Array Value) : LaidIn Tryz.prog (wOf os args) tabs [3, 4, 5] :=
  laidIn_blocks (w := smallW) 8 [3, 4, 5] (by kernel_rfl) (by kernel_rfl) (by kernel_rfl) (by kernel_rfl) (by kernel_rfl) (by kernel_rfl) (by kernel_rfl)
theorem errs_in (os : Os) (args : Array Value) : LaidIn Tryz.prog (wOf os args) errs [0, 1, 11, 12] :=
  LaidIn.of_run [0, 1, 11, 12] 8 (by kernel_rfl) (by kernel_rfl) (by kernel_rfl) (by kernel_rfl)
theorem met (os : Os) (args : Array Value) : laidMet Tryz.prog Rows.recoverSealsRow.laid (wOf os args) := by
  rw [laid_two]
  exact ((tabs_in os args).append (errs_in os args) (by decide)).met
end Wit
end Go.Proofs.YtoaimjielnempaaGreatDoor
