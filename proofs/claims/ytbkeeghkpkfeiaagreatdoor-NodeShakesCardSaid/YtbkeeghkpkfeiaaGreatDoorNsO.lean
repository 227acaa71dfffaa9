/- Messages that the law's run encodes, reckoned. NodeShakes: start as a template. -/
import Derived.Test.YtbkeeghkpkfeiaaGreatDoorNnI1
import Derived.Test.YtbkeeghkpkfeiaaGreatDoorNnI2
import Derived.Test.YtbkeeghkpkfeiaaGreatDoorNnI3
import Derived.Test.YtbkeeghkpkfeiaaGreatDoorNsE
import Derived.Test.YtbkeeghkpkfeiaaGreatDoorNnD
namespace Go.Proofs.YtbkeeghkpkfeiaaGreatDoor
set_option linter.unusedVariables false
set_option linter.unusedSimpArgs false
open Go.RowKit Go.Maps
namespace Ev
def encT : List (List AV × AV) := [enc0, enc1, enc2, enc3, enc4, enc5, enc6, enc7, enc8, enc9, enc10, enc11, enc12, enc13, enc14, enc15, enc16, enc17, enc18, enc19, enc20]
theorem encT_ok : ∀ e ∈ encT, EntryN (run fnT plug2 100 39) e := fun e he => by
  simp only [encT, List.mem_cons, List.not_mem_nil, or_false] at he
  rcases he with rfl | rfl | rfl | rfl | rfl | rfl | rfl | rfl | rfl | rfl | rfl | rfl | rfl | rfl | rfl | rfl | rfl | rfl | rfl | rfl | rfl
  · exact ⟨by kernel_rfl, by kernel_rfl, isE_ok enc0_run⟩
  · exact ⟨by kernel_rfl, by kernel_rfl, isE_ok enc1_run⟩
  · exact ⟨by kernel_rfl, by kernel_rfl, isE_ok enc2_run⟩
  · exact ⟨by kernel_rfl, by kernel_rfl, isE_ok enc3_run⟩
  · exact ⟨by kernel_rfl, by kernel_rfl, isE_ok enc4_run⟩
  · exact ⟨by kernel_rfl, by kernel_rfl, isE_ok enc5_run⟩
  · exact ⟨by kernel_rfl, by kernel_rfl, isE_ok enc6_run⟩
  · exact ⟨by kernel_rfl, by kernel_rfl, isE_ok enc7_run⟩
  · exact ⟨by kernel_rfl, by kernel_rfl, isE_ok enc8_run⟩
  · exact ⟨by kernel_rfl, by kernel_rfl, isE_ok enc9_run⟩
  · exact ⟨by kernel_rfl, by kernel_rfl, isE_ok enc10_run⟩
  · exact ⟨by kernel_rfl, by kernel_rfl, isE_ok enc11_run⟩
  · exact ⟨by kernel_rfl, by kernel_rfl, isE_ok enc12_run⟩
  · exact ⟨by kernel_rfl, by kernel_rfl, isE_ok enc13_run⟩
  · exact ⟨by kernel_rfl, by kernel_rfl, isE_ok enc14_run⟩
  · exact ⟨by kernel_rfl, by kernel_rfl, isE_ok enc15_run⟩
  · exact ⟨by kernel_rfl, by kernel_rfl, isE_ok enc16_run⟩
  · exact ⟨by kernel_rfl, by kernel_rfl, isE_ok enc17_run⟩
  · exact ⟨by kernel_rfl, by kernel_rfl, isE_ok enc18_run⟩
  · exact ⟨by kernel_rfl, by kernel_rfl, isE_ok enc19_run⟩
  · exact ⟨by kernel_rfl, by kernel_rfl, isE_ok enc20_run⟩
end Ev
end Go.Proofs.YtbkeeghkpkfeiaaGreatDoor
namespace Go.Proofs.YtbkeeghkpkfeiaaGreatDoor
set_option linter.unusedVariables false
set_option linter.unusedSimpArgs false
open Go.RowKit Go.Maps
namespace Ev
def startT : Tmpl where
  args := [.int .i64 0]
  res := .tuple [.ptr (posOf 30 190) 0, .bool true]
  pos := [(posOf 30 1), (posOf 30 2), (posOf 30 3), (posOf 30 35), (posOf 30 42), (posOf 30 43), (posOf 30 52), (posOf 30 56), (posOf 30 57), (posOf 30 58), (posOf 30 60), (posOf 30 61), (posOf 30 68), (posOf 30 69), (posOf 30 71), (posOf 30 72), (posOf 30 77), (posOf 30 78), (posOf 30 79), (posOf 30 132), (posOf 30 134), (posOf 30 136), (posOf 30 140), (posOf 30 174), (posOf 30 175), (posOf 30 177), (posOf 30 178), (posOf 30 179), (posOf 30 180), (posOf 30 181), (posOf 30 182), (posOf 30 183), (posOf 30 184), (posOf 30 185), (posOf 30 186), (posOf 30 187), (posOf 30 188), (posOf 30 189), (posOf 30 190)]
  objs := [.map 9 [(.str [105, 110, 100, 101, 120], .str [98, 101, 100, 114, 111, 99, 107, 106, 0, 0, 0, 0, 0, 0, 0, 0, 84, 183, 221, 29], 0)] 1,
    .map 9 [(.str [105, 110, 100, 101, 120], .str [98, 101, 100, 114, 111, 99, 107, 106, 0, 0, 0, 0, 0, 0, 0, 0, 84, 183, 221, 29, 97, 0, 0, 0, 0, 0, 0, 0, 0, 0, 0, 0, 1, 0, 0, 0, 0, 0, 0, 0, 0, 0, 0, 0, 0, 0, 0, 0, 0, 0, 0, 0, 0, 0, 0, 0, 0, 0, 0, 0, 0, 0, 0, 0, 0, 0, 0, 0, 113, 204, 51, 115, 232, 45, 155, 36, 155, 134, 11, 93, 43, 105, 61, 93, 163, 17, 221, 217, 44, 202, 254, 63, 129, 214, 200, 191, 249, 149, 82, 226, 0, 16, 94, 95, 255, 255, 127, 32, 1, 0, 0, 0, 0, 0, 0, 0, 1, 0, 0, 0, 0, 0, 0, 0, 0, 0, 0, 0, 0, 108, 114, 179, 4], 0)] 1,
    .cells [.map (posOf 30 1), .map (posOf 30 2), .slice (posOf 30 132) 0 1 none 5, .int .i64 2, .nils, .bool false] 164 0,
    .cells [.ptr (posOf 30 3) 0, .str [105, 110, 100, 101, 120], .int .u64 0, .slice (posOf 30 134) 0 1 none 1, .slice (posOf 30 136) 0 1 none 1, .int .i64 0, .bool false] 633 0,
    .map 51 [(.agg [.int .u8 241, .int .u8 135, .int .u8 212, .int .u8 169, .int .u8 168, .int .u8 254, .int .u8 156, .int .u8 207, .int .u8 249, .int .u8 187, .int .u8 137, .int .u8 185, .int .u8 194, .int .u8 139, .int .u8 194, .int .u8 134, .int .u8 119, .int .u8 138, .int .u8 238, .int .u8 31, .int .u8 164, .int .u8 82, .int .u8 73, .int .u8 164, .int .u8 143, .int .u8 38, .int .u8 180, .int .u8 66, .int .u8 229, .int .u8 50, .int .u8 163, .int .u8 21], .int .i64 0, 0)] 1,
    .cells [.ptr (posOf 30 35) 0, .map (posOf 30 42), .slice (posOf 30 140) 0 1 none 73, .int .i64 1] 464 0,
    .cells [.ptr (posOf 30 3) 0, .str [98, 108, 107], .int .i64 65536, .int .i64 0] 472 0,
    .cells [.int .u8 0, .int .u8 0, .int .u8 0, .int .u8 0, .int .u8 0, .int .u8 0, .int .u8 0, .int .u8 0, .int .u8 0, .int .u8 0, .int .u8 0, .int .u8 0, .int .u8 0, .int .u8 0, .int .u8 0, .int .u8 0, .int .u8 0, .int .u8 0, .int .u8 0, .int .u8 0, .int .u8 0, .int .u8 0, .int .u8 0, .int .u8 0, .int .u8 0, .int .u8 0, .int .u8 0, .int .u8 0, .int .u8 0, .int .u8 0, .int .u8 0, .int .u8 0, .int .u32 4294967295, .str [0, 0, 0, 0, 98, 101, 100, 114, 111, 99, 107], .int .u32 4294967295] 394 0,
    .cells [.int .u64 5000, .str []] 307 0,
    .cells [.int .u32 1, .slice (posOf 30 56) 0 1 none 35, .slice (posOf 30 57) 0 1 none 2, .int .u32 0] 245 0,
    .map 51 [(.agg [.int .u8 241, .int .u8 135, .int .u8 212, .int .u8 169, .int .u8 168, .int .u8 254, .int .u8 156, .int .u8 207, .int .u8 249, .int .u8 187, .int .u8 137, .int .u8 185, .int .u8 194, .int .u8 139, .int .u8 194, .int .u8 134, .int .u8 119, .int .u8 138, .int .u8 238, .int .u8 31, .int .u8 164, .int .u8 82, .int .u8 73, .int .u8 164, .int .u8 143, .int .u8 38, .int .u8 180, .int .u8 66, .int .u8 229, .int .u8 50, .int .u8 163, .int .u8 21], .agg [.int .u32 1, .int .u8 0, .int .u8 0, .int .u8 0, .int .u8 0, .int .u8 0, .int .u8 0, .int .u8 0, .int .u8 0, .int .u8 0, .int .u8 0, .int .u8 0, .int .u8 0, .int .u8 0, .int .u8 0, .int .u8 0, .int .u8 0, .int .u8 0, .int .u8 0, .int .u8 0, .int .u8 0, .int .u8 0, .int .u8 0, .int .u8 0, .int .u8 0, .int .u8 0, .int .u8 0, .int .u8 0, .int .u8 0, .int .u8 0, .int .u8 0, .int .u8 0, .int .u8 0, .int .u8 113, .int .u8 204, .int .u8 51, .int .u8 115, .int .u8 232, .int .u8 45, .int .u8 155, .int .u8 36, .int .u8 155, .int .u8 134, .int .u8 11, .int .u8 93, .int .u8 43, .int .u8 105, .int .u8 61, .int .u8 93, .int .u8 163, .int .u8 17, .int .u8 221, .int .u8 217, .int .u8 44, .int .u8 202, .int .u8 254, .int .u8 63, .int .u8 129, .int .u8 214, .int .u8 200, .int .u8 191, .int .u8 249, .int .u8 149, .int .u8 82, .int .u8 226, .int .u32 1600000000, .int .u32 545259519, .int .u32 1, .slice (posOf 30 58) 0 1 none 4], 0)] 1,
    .map 51 [] 0,
    .map 51 [(.agg [.int .u8 241, .int .u8 135, .int .u8 212, .int .u8 169, .int .u8 168, .int .u8 254, .int .u8 156, .int .u8 207, .int .u8 249, .int .u8 187, .int .u8 137, .int .u8 185, .int .u8 194, .int .u8 139, .int .u8 194, .int .u8 134, .int .u8 119, .int .u8 138, .int .u8 238, .int .u8 31, .int .u8 164, .int .u8 82, .int .u8 73, .int .u8 164, .int .u8 143, .int .u8 38, .int .u8 180, .int .u8 66, .int .u8 229, .int .u8 50, .int .u8 163, .int .u8 21], .int .i64 0, 0)] 1,
    .cells [.slice (posOf 30 71) 0 1 none 113, .map (posOf 30 68), .int .i64 1] 262 0,
    .cells [.int .u8 241, .int .u8 135, .int .u8 212, .int .u8 169, .int .u8 168, .int .u8 254, .int .u8 156, .int .u8 207, .int .u8 249, .int .u8 187, .int .u8 137, .int .u8 185, .int .u8 194, .int .u8 139, .int .u8 194, .int .u8 134, .int .u8 119, .int .u8 138, .int .u8 238, .int .u8 31, .int .u8 164, .int .u8 82, .int .u8 73, .int .u8 164, .int .u8 143, .int .u8 38, .int .u8 180, .int .u8 66, .int .u8 229, .int .u8 50, .int .u8 163, .int .u8 21, .int .u32 1, .int .u8 0, .int .u8 0, .int .u8 0, .int .u8 0, .int .u8 0, .int .u8 0, .int .u8 0, .int .u8 0, .int .u8 0, .int .u8 0, .int .u8 0, .int .u8 0, .int .u8 0, .int .u8 0, .int .u8 0, .int .u8 0, .int .u8 0, .int .u8 0, .int .u8 0, .int .u8 0, .int .u8 0, .int .u8 0, .int .u8 0, .int .u8 0, .int .u8 0, .int .u8 0, .int .u8 0, .int .u8 0, .int .u8 0, .int .u8 0, .int .u8 0, .int .u8 0, .int .u8 113, .int .u8 204, .int .u8 51, .int .u8 115, .int .u8 232, .int .u8 45, .int .u8 155, .int .u8 36, .int .u8 155, .int .u8 134, .int .u8 11, .int .u8 93, .int .u8 43, .int .u8 105, .int .u8 61, .int .u8 93, .int .u8 163, .int .u8 17, .int .u8 221, .int .u8 217, .int .u8 44, .int .u8 202, .int .u8 254, .int .u8 63, .int .u8 129, .int .u8 214, .int .u8 200, .int .u8 191, .int .u8 249, .int .u8 149, .int .u8 82, .int .u8 226, .int .u32 1600000000, .int .u32 545259519, .int .u32 1, .int .i64 0, .int .i64 0, .int .u64 2, .int .u64 0, .int .u64 0, .int .u64 0, .bool true, .bool true, .bool false, .int .i64 1, .int .i64 (-1), .int .i64 0, .nils] 258 0,
    .map 392 [] 0,
    .cells [.map (posOf 30 72), .int .u8 241, .int .u8 135, .int .u8 212, .int .u8 169, .int .u8 168, .int .u8 254, .int .u8 156, .int .u8 207, .int .u8 249, .int .u8 187, .int .u8 137, .int .u8 185, .int .u8 194, .int .u8 139, .int .u8 194, .int .u8 134, .int .u8 119, .int .u8 138, .int .u8 238, .int .u8 31, .int .u8 164, .int .u8 82, .int .u8 73, .int .u8 164, .int .u8 143, .int .u8 38, .int .u8 180, .int .u8 66, .int .u8 229, .int .u8 50, .int .u8 163, .int .u8 21, .int .i64 0] 446 0,
    .cells [.ptr (posOf 30 69) 0, .ptr (posOf 30 77) 0, .map (posOf 30 60), .map (posOf 30 61)] 236 0,
    .cells [.ptr (posOf 30 3) 0, .ptr (posOf 30 43) 0, .ptr (posOf 30 52) 0, .ptr (posOf 30 78) 0, .bool false] 231 0,
    .cells [.int .i64 0, .str [105, 110, 100, 101, 120], .str [], .int .i64 20, .str [97, 0, 0, 0, 0, 0, 0, 0, 0, 0, 0, 0, 1, 0, 0, 0, 0, 0, 0, 0, 0, 0, 0, 0, 0, 0, 0, 0, 0, 0, 0, 0, 0, 0, 0, 0, 0, 0, 0, 0, 0, 0, 0, 0, 0, 0, 0, 0, 113, 204, 51, 115, 232, 45, 155, 36, 155, 134, 11, 93, 43, 105, 61, 93, 163, 17, 221, 217, 44, 202, 254, 63, 129, 214, 200, 191, 249, 149, 82, 226, 0, 16, 94, 95, 255, 255, 127, 32, 1, 0, 0, 0, 0, 0, 0, 0, 1, 0, 0, 0, 0, 0, 0, 0, 0, 0, 0, 0, 0, 108, 114, 179, 4]] 628 0,
    .cells [.str [1, 0, 0, 0, 0, 0, 0, 0, 0, 0, 0, 0, 0, 0, 0, 0, 0, 0, 0, 0, 0, 0, 0, 0, 0, 0, 0, 0, 0, 0, 0, 0, 0, 0, 0, 0, 113, 204, 51, 115, 232, 45, 155, 36, 155, 134, 11, 93, 43, 105, 61, 93, 163, 17, 221, 217, 44, 202, 254, 63, 129, 214, 200, 191, 249, 149, 82, 226, 0, 16, 94, 95, 255, 255, 127, 32, 1, 0, 0, 0, 0, 0, 0, 0, 1, 0, 0, 0, 0, 0, 0, 0, 0, 0, 0, 0, 0]] 9 0,
    .cells [.int .i64 133] 3 0,
    .cells [.int .u32 1, .int .u8 0, .int .u8 0, .int .u8 0, .int .u8 0, .int .u8 0, .int .u8 0, .int .u8 0, .int .u8 0, .int .u8 0, .int .u8 0, .int .u8 0, .int .u8 0, .int .u8 0, .int .u8 0, .int .u8 0, .int .u8 0, .int .u8 0, .int .u8 0, .int .u8 0, .int .u8 0, .int .u8 0, .int .u8 0, .int .u8 0, .int .u8 0, .int .u8 0, .int .u8 0, .int .u8 0, .int .u8 0, .int .u8 0, .int .u8 0, .int .u8 0, .int .u8 0, .int .u8 113, .int .u8 204, .int .u8 51, .int .u8 115, .int .u8 232, .int .u8 45, .int .u8 155, .int .u8 36, .int .u8 155, .int .u8 134, .int .u8 11, .int .u8 93, .int .u8 43, .int .u8 105, .int .u8 61, .int .u8 93, .int .u8 163, .int .u8 17, .int .u8 221, .int .u8 217, .int .u8 44, .int .u8 202, .int .u8 254, .int .u8 63, .int .u8 129, .int .u8 214, .int .u8 200, .int .u8 191, .int .u8 249, .int .u8 149, .int .u8 82, .int .u8 226, .int .u32 1600000000, .int .u32 545259519, .int .u32 1, .int .i64 0, .int .i64 1, .int .i64 0, .int .i64 0, .int .i64 0] 279 0,
    .map 3 [] 0,
    .map 9 [] 0,
    .map 518 [] 0,
    .cells [.int .u64 3, .int .u64 4, .nilp, .nilp, .nilp, .nilp, .nilp, .nilp, .nilp, .nilp, .nilp, .nilp, .nilp, .nilp, .nilp, .nilp, .nilp, .nilp, .nilp, .nilp, .nilp, .nilp, .nilp, .nilp, .nilp, .nilp, .nilp, .nilp, .nilp, .nilp, .nilp, .nilp, .nilp, .nilp, .nilp, .nilp, .nilp, .nilp, .nilp, .nilp, .nilp, .nilp, .nilp, .nilp, .nilp, .nilp, .nilp, .nilp, .nilp, .nilp, .nilp, .nilp, .nilp, .nilp, .nilp, .nilp, .nilp, .nilp, .nilp, .nilp, .nilp, .nilp, .nilp, .nilp, .nilp, .nilp, .nilp, .nilp, .nilp, .nilp, .nilp, .nilp, .nilp, .nilp, .nilp, .nilp, .nilp, .nilp, .nilp, .nilp, .nilp, .nilp, .nilp, .nilp, .nilp, .nilp, .nilp, .nilp, .nilp, .nilp, .nilp, .nilp, .nilp, .nilp, .nilp, .nilp, .nilp, .nilp, .nilp, .nilp, .nilp, .nilp, .nilp, .nilp, .nilp, .nilp, .nilp, .nilp, .nilp, .nilp, .nilp, .nilp, .nilp, .nilp, .nilp, .nilp, .nilp, .nilp, .nilp, .nilp, .nilp, .nilp, .nilp, .nilp, .nilp, .nilp, .nilp, .nilp, .nilp, .nilp, .nilp, .nilp, .nilp, .nilp, .nilp, .nilp, .nilp, .nilp, .nilp, .nilp, .nilp, .nilp, .nilp, .nilp, .nilp, .nilp, .nilp, .nilp, .nilp, .nilp, .nilp, .nilp, .nilp, .nilp, .nilp, .nilp, .nilp, .nilp, .nilp, .nilp, .nilp, .nilp, .nilp, .nilp, .nilp, .nilp, .nilp, .nilp, .nilp, .nilp, .nilp, .nilp, .nilp, .nilp, .nilp, .nilp, .nilp, .nilp, .nilp, .nilp, .nilp, .nilp, .nilp, .nilp, .nilp, .nilp, .nilp, .nilp, .nilp, .nilp, .nilp, .nilp, .nilp, .nilp, .map (posOf 30 177)] 287 0,
    .map 3 [] 0,
    .map 35 [] 0,
    .cells [.map (posOf 30 179), .map (posOf 30 180)] 179 0,
    .map 3 [] 0,
    .cells [.map (posOf 30 182)] 290 0,
    .map 3 [] 0,
    .map 51 [] 0,
    .cells [.map (posOf 30 184), .map (posOf 30 185), .nils] 294 0,
    .map 51 [] 0,
    .map 392 [] 0,
    .cells [.map (posOf 30 187), .map (posOf 30 188), .nils, .int .i64 0] 241 0,
    .cells [.int .u32 3652501241, .int .u64 3, .int .u64 4, .int .u64 77, .str [117, 115], .int .i64 0, .ptr (posOf 30 79) 0, .ptr (posOf 30 178) 0, .ptr (posOf 30 181) 0, .ptr (posOf 30 183) 0, .ptr (posOf 30 186) 0, .ptr (posOf 30 189) 0, .map (posOf 30 174), .map (posOf 30 175), .int .i64 1600000000, .int .i64 0, .bool false, .nils, .nils, .nils, .bool false] 93 0]

theorem start_runT : chkT (run fnT plug2 100 4 startT.args H0) startT = true := by kernel_rfl
theorem run2T_ok (f : FuncId) : OneOk Tryz.prog f (run fnT plug2 100 f) := fun B W fit ι h w xs vs r h' rel hv e => by
  rw [fnT_eq] at e
  exact run_ok env ext_ok mixed fn_ok (fun f p e => plug2_ok f p e B W fit) 100 ι h w f xs vs r h' rel hv e
theorem start_ok : OneOk Tryz.prog 4 (memoH startT) := memoH_ok (run2T_ok _) startT (good_of (by kernel_rfl) (by kernel_rfl) (by kernel_rfl) start_runT)
end Ev
end Go.Proofs.YtbkeeghkpkfeiaaGreatDoor
