/- The row's tie, in pieces: what the variables' door lays. -/
import Derived.Test.YtbkeeghkpkfeiaaGreatDoorRows
import Derived.LaidByTextLater
import Derived.KernelRfl
namespace Go.Proofs.YtbkeeghkpkfeiaaGreatDoor
open Go
namespace Ti
set_option maxRecDepth 100000
noncomputable def vc : Code := (Tryz.f826.body).getD .skip
theorem e1 : varsId Tryz.prog = 826 := by kernel_rfl
theorem e2 : (Tryz.prog.funcs[826]?).bind (·.body) = some vc := by kernel_rfl
theorem e3 : vc.laysInOrder [] = some [6, 7, 5, 4, 2, 1] := by kernel_rfl
theorem kb0 : Tryz.prog.kindBase "strconv.ErrSyntax" = some .sentinel := by kernel_rfl
theorem kb1 : Tryz.prog.kindBase "strconv.ErrRange" = some .sentinel := by kernel_rfl
theorem kb2 : Tryz.prog.kindBase "internal/strconv.uint64pow10" = some .data := by kernel_rfl
theorem kb3 : Tryz.prog.kindBase "math/bits.deBruijn32tab" = some .data := by kernel_rfl
theorem kb4 : Tryz.prog.kindBase "math/bits.deBruijn64tab" = some .data := by kernel_rfl
theorem kb5 : Tryz.prog.kindBase "unicode/utf8.acceptRanges" = some .data := by kernel_rfl
theorem u1 : (!vc.unfollowedBeside Tryz.prog) = true := by kernel_rfl
theorem u2 : (vc.tempsApart 0).isSome = true := by kernel_rfl
theorem u4 : ((vc.storedByHandle Tryz.prog).isEmpty || ((Tryz.prog.funcNamed "(internal/reflectlite.rtype).Elem").any fun h => (Tryz.prog.funcs[h]?).any fun fn => fn.body.isNone && !entryCalls fn)) = true := by kernel_rfl
theorem u5 : ((vc.storedByHandle Tryz.prog).all fun v => Tryz.prog.globalNamed "errors.errorType" == some v) = true := by kernel_rfl
def hd : Code → Code
  | .seq a _ => a
  | c => c
def tl : Code → Code
  | .seq _ b => b
  | _ => .skip
theorem seq_fit (a b : Code) (st : List Nat) : (Code.seq a b).regionsFit Tryz.prog st = (a.regionsFit Tryz.prog st && b.regionsFit Tryz.prog ((a.laysInOrder st).getD st)) := rfl
theorem v0 : vc = .seq (hd vc) (tl vc) := by kernel_rfl
theorem s0 : ((hd vc).laysInOrder []).getD [] = [6] := by kernel_rfl
theorem f0 : (hd vc).regionsFit Tryz.prog [] = true := by kernel_rfl
theorem v1 : (tl vc) = .seq (hd (tl vc)) (tl (tl vc)) := by kernel_rfl
theorem s1 : ((hd (tl vc)).laysInOrder [6]).getD [6] = [6, 7] := by kernel_rfl
theorem f1 : (hd (tl vc)).regionsFit Tryz.prog [6] = true := by kernel_rfl
theorem v2 : (tl (tl vc)) = .seq (hd (tl (tl vc))) (tl (tl (tl vc))) := by kernel_rfl
theorem s2 : ((hd (tl (tl vc))).laysInOrder [6, 7]).getD [6, 7] = [6, 7, 5] := by kernel_rfl
theorem f2 : (hd (tl (tl vc))).regionsFit Tryz.prog [6, 7] = true := by kernel_rfl
theorem v3 : (tl (tl (tl vc))) = .seq (hd (tl (tl (tl vc)))) (tl (tl (tl (tl vc)))) := by kernel_rfl
theorem s3 : ((hd (tl (tl (tl vc)))).laysInOrder [6, 7, 5]).getD [6, 7, 5] = [6, 7, 5, 4] := by kernel_rfl
theorem f3 : (hd (tl (tl (tl vc)))).regionsFit Tryz.prog [6, 7, 5] = true := by kernel_rfl
theorem v4 : (tl (tl (tl (tl vc)))) = .seq (hd (tl (tl (tl (tl vc))))) (tl (tl (tl (tl (tl vc))))) := by kernel_rfl
theorem s4 : ((hd (tl (tl (tl (tl vc))))).laysInOrder [6, 7, 5, 4]).getD [6, 7, 5, 4] = [6, 7, 5, 4, 2] := by kernel_rfl
theorem f4 : (hd (tl (tl (tl (tl vc))))).regionsFit Tryz.prog [6, 7, 5, 4] = true := by kernel_rfl
theorem f5 : (tl (tl (tl (tl (tl vc))))).regionsFit Tryz.prog [6, 7, 5, 4, 2] = true := by kernel_rfl
theorem u3 : vc.regionsFit Tryz.prog [] = true := by
  rw [v0, seq_fit, f0, s0, v1, seq_fit, f1, s1, v2, seq_fit, f2, s2, v3, seq_fit, f3, s3, v4, seq_fit, f4, s4, f5]
  rfl
end Ti
end Go.Proofs.YtbkeeghkpkfeiaaGreatDoor
