/- The laws of a node: block.Genesis as a template; the node's awake. -/
import Derived.Test.YtbkeeghkpkfeiaaGreatDoorNsE
import Derived.Test.YtbkeeghkpkfeiaaGreatDoorNnN
namespace Go.Proofs.YtbkeeghkpkfeiaaGreatDoor
set_option linter.unusedVariables false
set_option linter.unusedSimpArgs false
open Go.RowKit Go.Maps
namespace Ev
def genesisT : Tmpl where
  args := []
  res := .agg [.int .u32 1, .int .u8 0, .int .u8 0, .int .u8 0, .int .u8 0, .int .u8 0, .int .u8 0, .int .u8 0, .int .u8 0, .int .u8 0, .int .u8 0, .int .u8 0, .int .u8 0, .int .u8 0, .int .u8 0, .int .u8 0, .int .u8 0, .int .u8 0, .int .u8 0, .int .u8 0, .int .u8 0, .int .u8 0, .int .u8 0, .int .u8 0, .int .u8 0, .int .u8 0, .int .u8 0, .int .u8 0, .int .u8 0, .int .u8 0, .int .u8 0, .int .u8 0, .int .u8 0, .int .u8 113, .int .u8 204, .int .u8 51, .int .u8 115, .int .u8 232, .int .u8 45, .int .u8 155, .int .u8 36, .int .u8 155, .int .u8 134, .int .u8 11, .int .u8 93, .int .u8 43, .int .u8 105, .int .u8 61, .int .u8 93, .int .u8 163, .int .u8 17, .int .u8 221, .int .u8 217, .int .u8 44, .int .u8 202, .int .u8 254, .int .u8 63, .int .u8 129, .int .u8 214, .int .u8 200, .int .u8 191, .int .u8 249, .int .u8 149, .int .u8 82, .int .u8 226, .int .u32 1600000000, .int .u32 545259519, .int .u32 1, .slice (posOf 30 62) 0 1 none 4]
  pos := [(posOf 30 59), (posOf 30 60), (posOf 30 62)]
  objs := [.cells [.int .u8 0, .int .u8 0, .int .u8 0, .int .u8 0, .int .u8 0, .int .u8 0, .int .u8 0, .int .u8 0, .int .u8 0, .int .u8 0, .int .u8 0, .int .u8 0, .int .u8 0, .int .u8 0, .int .u8 0, .int .u8 0, .int .u8 0, .int .u8 0, .int .u8 0, .int .u8 0, .int .u8 0, .int .u8 0, .int .u8 0, .int .u8 0, .int .u8 0, .int .u8 0, .int .u8 0, .int .u8 0, .int .u8 0, .int .u8 0, .int .u8 0, .int .u8 0, .int .u32 4294967295, .str [0, 0, 0, 0, 98, 101, 100, 114, 111, 99, 107], .int .u32 4294967295] 394 0,
    .cells [.int .u64 5000, .str []] 307 0,
    .cells [.int .u32 1, .slice (posOf 30 59) 0 1 none 35, .slice (posOf 30 60) 0 1 none 2, .int .u32 0] 245 0]

theorem genesis_run : chkT (run fn plug1 100 137 genesisT.args H0) genesisT = true := by kernel_rfl
theorem run1_ok (f : FuncId) : OneOk Tryz.prog f (run fn plug1 100 f) := fun B W fit ι h w xs vs r h' rel hv e => run_ok env ext_ok mixed fn_ok (fun f p e => plug1_ok f p e B W fit) 100 ι h w f xs vs r h' rel hv e
theorem genesis_ok : OneOk Tryz.prog 137 (memoH genesisT) := memoH_ok (run1_ok _) genesisT (good_of (by kernel_rfl) (by kernel_rfl) (by kernel_rfl) genesis_run)
noncomputable def plug2 : FuncId → Option (List AV → H → E) := fun f => bi (Nat.beq f 137) (some (memoH genesisT)) (plug1 f)
theorem plug2_ok : ∀ f p, plug2 f = some p → OneOk Tryz.prog f p := fun f p e => by
  unfold plug2 at e
  rcases bi_beq e with ⟨rfl, e⟩ | e
  · cases e; exact genesis_ok
  exact plug1_ok f p e
end Ev
end Go.Proofs.YtbkeeghkpkfeiaaGreatDoor
