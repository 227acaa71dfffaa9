/- SyncNil: chain.New as a template; the run. -/
import Derived.Test.YtfpghnldcbhniaaGreatPlHx
import Derived.Test.YtfpghnldcbhniaaGreatCsSx
import Derived.Test.YtfpghnldcbhniaaGreatCnLx
namespace Go.Proofs.YtfpghnldcbhniaaGreat
set_option linter.unusedVariables false
set_option linter.unusedSimpArgs false
open Go.RowKit Go.Maps
namespace Ev
def chainNewT : Tmpl where
  args := []
  res := .ptr (posOf 30 357) 0
  pos := [(posOf 30 59), (posOf 30 60), (posOf 30 62), (posOf 30 117), (posOf 30 118), (posOf 30 236), (posOf 30 237), (posOf 30 239), (posOf 30 240), (posOf 30 356), (posOf 30 357)]
  objs := [.cells [.int .u8 0, .int .u8 0, .int .u8 0, .int .u8 0, .int .u8 0, .int .u8 0, .int .u8 0, .int .u8 0, .int .u8 0, .int .u8 0, .int .u8 0, .int .u8 0, .int .u8 0, .int .u8 0, .int .u8 0, .int .u8 0, .int .u8 0, .int .u8 0, .int .u8 0, .int .u8 0, .int .u8 0, .int .u8 0, .int .u8 0, .int .u8 0, .int .u8 0, .int .u8 0, .int .u8 0, .int .u8 0, .int .u8 0, .int .u8 0, .int .u8 0, .int .u8 0, .int .u32 4294967295, .str [0, 0, 0, 0, 98, 101, 100, 114, 111, 99, 107], .int .u32 4294967295] 224 0,
    .cells [.int .u64 5000, .str []] 173 0,
    .cells [.int .u32 1, .slice (posOf 30 59) 0 1 none 35, .slice (posOf 30 60) 0 1 none 2, .int .u32 0] 167 0,
    .map 24 [(.agg [.int .u8 241, .int .u8 135, .int .u8 212, .int .u8 169, .int .u8 168, .int .u8 254, .int .u8 156, .int .u8 207, .int .u8 249, .int .u8 187, .int .u8 137, .int .u8 185, .int .u8 194, .int .u8 139, .int .u8 194, .int .u8 134, .int .u8 119, .int .u8 138, .int .u8 238, .int .u8 31, .int .u8 164, .int .u8 82, .int .u8 73, .int .u8 164, .int .u8 143, .int .u8 38, .int .u8 180, .int .u8 66, .int .u8 229, .int .u8 50, .int .u8 163, .int .u8 21], .agg [.int .u32 1, .int .u8 0, .int .u8 0, .int .u8 0, .int .u8 0, .int .u8 0, .int .u8 0, .int .u8 0, .int .u8 0, .int .u8 0, .int .u8 0, .int .u8 0, .int .u8 0, .int .u8 0, .int .u8 0, .int .u8 0, .int .u8 0, .int .u8 0, .int .u8 0, .int .u8 0, .int .u8 0, .int .u8 0, .int .u8 0, .int .u8 0, .int .u8 0, .int .u8 0, .int .u8 0, .int .u8 0, .int .u8 0, .int .u8 0, .int .u8 0, .int .u8 0, .int .u8 0, .int .u8 113, .int .u8 204, .int .u8 51, .int .u8 115, .int .u8 232, .int .u8 45, .int .u8 155, .int .u8 36, .int .u8 155, .int .u8 134, .int .u8 11, .int .u8 93, .int .u8 43, .int .u8 105, .int .u8 61, .int .u8 93, .int .u8 163, .int .u8 17, .int .u8 221, .int .u8 217, .int .u8 44, .int .u8 202, .int .u8 254, .int .u8 63, .int .u8 129, .int .u8 214, .int .u8 200, .int .u8 191, .int .u8 249, .int .u8 149, .int .u8 82, .int .u8 226, .int .u32 1600000000, .int .u32 545259519, .int .u32 1, .slice (posOf 30 62) 0 1 none 4], 0)] 1,
    .map 24 [] 0,
    .map 24 [(.agg [.int .u8 241, .int .u8 135, .int .u8 212, .int .u8 169, .int .u8 168, .int .u8 254, .int .u8 156, .int .u8 207, .int .u8 249, .int .u8 187, .int .u8 137, .int .u8 185, .int .u8 194, .int .u8 139, .int .u8 194, .int .u8 134, .int .u8 119, .int .u8 138, .int .u8 238, .int .u8 31, .int .u8 164, .int .u8 82, .int .u8 73, .int .u8 164, .int .u8 143, .int .u8 38, .int .u8 180, .int .u8 66, .int .u8 229, .int .u8 50, .int .u8 163, .int .u8 21], .int .i64 0, 0)] 1,
    .cells [.slice (posOf 30 239) 0 1 none 113, .map (posOf 30 236), .int .i64 1] 154 0,
    .cells [.int .u8 241, .int .u8 135, .int .u8 212, .int .u8 169, .int .u8 168, .int .u8 254, .int .u8 156, .int .u8 207, .int .u8 249, .int .u8 187, .int .u8 137, .int .u8 185, .int .u8 194, .int .u8 139, .int .u8 194, .int .u8 134, .int .u8 119, .int .u8 138, .int .u8 238, .int .u8 31, .int .u8 164, .int .u8 82, .int .u8 73, .int .u8 164, .int .u8 143, .int .u8 38, .int .u8 180, .int .u8 66, .int .u8 229, .int .u8 50, .int .u8 163, .int .u8 21, .int .u32 1, .int .u8 0, .int .u8 0, .int .u8 0, .int .u8 0, .int .u8 0, .int .u8 0, .int .u8 0, .int .u8 0, .int .u8 0, .int .u8 0, .int .u8 0, .int .u8 0, .int .u8 0, .int .u8 0, .int .u8 0, .int .u8 0, .int .u8 0, .int .u8 0, .int .u8 0, .int .u8 0, .int .u8 0, .int .u8 0, .int .u8 0, .int .u8 0, .int .u8 0, .int .u8 0, .int .u8 0, .int .u8 0, .int .u8 0, .int .u8 0, .int .u8 0, .int .u8 0, .int .u8 113, .int .u8 204, .int .u8 51, .int .u8 115, .int .u8 232, .int .u8 45, .int .u8 155, .int .u8 36, .int .u8 155, .int .u8 134, .int .u8 11, .int .u8 93, .int .u8 43, .int .u8 105, .int .u8 61, .int .u8 93, .int .u8 163, .int .u8 17, .int .u8 221, .int .u8 217, .int .u8 44, .int .u8 202, .int .u8 254, .int .u8 63, .int .u8 129, .int .u8 214, .int .u8 200, .int .u8 191, .int .u8 249, .int .u8 149, .int .u8 82, .int .u8 226, .int .u32 1600000000, .int .u32 545259519, .int .u32 1, .int .i64 0, .int .i64 0, .int .u64 2, .int .u64 0, .int .u64 0, .int .u64 0, .bool true, .bool true, .bool false, .int .i64 1, .int .i64 (-1), .int .i64 0, .nils] 151 0,
    .map 183 [] 0,
    .cells [.map (posOf 30 240), .int .u8 241, .int .u8 135, .int .u8 212, .int .u8 169, .int .u8 168, .int .u8 254, .int .u8 156, .int .u8 207, .int .u8 249, .int .u8 187, .int .u8 137, .int .u8 185, .int .u8 194, .int .u8 139, .int .u8 194, .int .u8 134, .int .u8 119, .int .u8 138, .int .u8 238, .int .u8 31, .int .u8 164, .int .u8 82, .int .u8 73, .int .u8 164, .int .u8 143, .int .u8 38, .int .u8 180, .int .u8 66, .int .u8 229, .int .u8 50, .int .u8 163, .int .u8 21, .int .i64 0] 163 0,
    .cells [.ptr (posOf 30 237) 0, .ptr (posOf 30 356) 0, .map (posOf 30 117), .map (posOf 30 118)] 89 0]

theorem chainNew_run : chkT (run fn plug1 100 26 chainNewT.args H0) chainNewT = true := by kernel_rfl
theorem run1_ok (f : FuncId) : OneOk Tryz.prog f (run fn plug1 100 f) := fun B W ι h w xs vs r h' rel hv e => run_ok env ext_ok mixed fn_ok plug1_ok 100 B W ι h w f xs vs r h' rel hv e
theorem chainNew_ok : OneOk Tryz.prog 26 (memoH chainNewT) := memoH_ok (run1_ok _) chainNewT (good_of (by kernel_rfl) (by kernel_rfl) (by kernel_rfl) chainNew_run)
noncomputable def plug2 : FuncId → Option (List AV → H → E) := fun f => bi (Nat.beq f 26) (some (memoH chainNewT)) (bi (Nat.beq f 74) (some sorted1) (plug1 f))
theorem plug2_ok : ∀ f p, plug2 f = some p → OneOk Tryz.prog f p := fun f p e => by
  unfold plug2 at e
  rcases bi_beq e with ⟨rfl, e⟩ | e
  · cases e; exact chainNew_ok
  rcases bi_beq e with ⟨rfl, e⟩ | e
  · cases e; exact sorted1_ok
  exact plug1_ok f p e
end Ev
end Go.Proofs.YtfpghnldcbhniaaGreat
