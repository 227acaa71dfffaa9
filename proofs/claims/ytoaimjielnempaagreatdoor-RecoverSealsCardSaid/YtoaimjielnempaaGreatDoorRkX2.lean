/- The functions that the law reaches, by tables. -/
import Derived.Test.YtoaimjielnempaaGreatDoorRows
import Derived.JoinedOf
import Derived.KernelRfl
namespace Go.Proofs.YtoaimjielnempaaGreatDoor
set_option linter.unusedVariables false
set_option linter.unusedSimpArgs false
namespace Clo
open Go
def tabOf (lits : List (List (List Nat))) (g : Nat) : List Nat := (lits.getD (g / 50) []).getD (g % 50) []
/-- The walk over the tables, with what was seen as bits. -/
def cv (tab : Nat → List Nat) : Nat → List Nat → Nat → List Nat → List Nat
  | 0, _, _, acc => acc.reverse
  | _, [], _, acc => acc.reverse
  | n + 1, f :: todo, b, acc => bif Nat.testBit b f then cv tab n todo b acc else cv tab n (tab f ++ todo) (b ||| (1 <<< f)) (f :: acc)
theorem closure_cv {P : Program} {tab : Nat → List Nat} (ht : ∀ g, (P.funcs[g]?).elim [] P.leadsTo = tab g) : ∀ (n : Nat) (todo : List Nat) (b : Nat) (seen : List Nat), (∀ f, Nat.testBit b f = seen.contains f) → P.closureVia n todo seen = cv tab n todo b seen
  | 0, _, _, _, _ => rfl
  | n + 1, [], _, _, _ => rfl
  | n + 1, f :: todo, b, seen, h => by
    unfold Program.closureVia cv
    rw [h f, ht f]
    cases hc : seen.contains f with
    | true =>
      simp only [if_true, cond_true]
      exact closure_cv ht n todo b seen h
    | false =>
      simp only [Bool.false_eq_true, if_false, cond_false]
      refine closure_cv ht n (tab f ++ todo) (b ||| (1 <<< f)) (f :: seen) (fun x => ?_)
      rw [Nat.testBit_or, h x, List.contains_cons, Nat.one_shiftLeft, Nat.testBit_two_pow, Bool.or_comm]
      congr 1
      by_cases e : f = x
      · subst e; simp
      · have e' : ¬ x = f := fun h => e h.symm
        simp [e, e']
def l0 : List (List Nat) := [[], [], [1], [4, 5, 6, 6, 4, 7, 8, 9, 10, 11, 12, 13, 14, 15, 16, 17, 18], [19, 19], [20], [5], [21, 8, 22, 10, 13, 18], [23, 24, 25, 26, 27, 29, 28, 30], [17, 31, 32], [17, 33, 34, 35, 32, 36, 37, 38, 39, 41, 40, 42], [17, 43, 44, 45, 40, 46, 42], [17, 47, 48, 39, 6], [49], [17, 50, 39, 52, 53, 51], [17, 47, 51], [], [], [54, 55], [56, 57, 58, 59], [60, 60], [], [61, 29, 33, 45, 62, 64, 63, 65], [66], [67, 68, 69, 70, 71, 72, 73, 74], [21, 75, 76, 77, 78, 48, 79, 78, 80, 50], [29, 61, 81, 33], [82], [83, 84, 85, 71], [62, 63], [86, 82, 31, 44, 87, 88, 33, 43, 89, 90, 49], [65], [33, 91, 40, 92], [93, 20], [94, 90], [44, 45], [44, 33, 45, 91, 40, 95], [96, 93, 97, 98, 99, 97, 100, 101], [102, 77, 78, 55, 78, 103], [], [33, 91, 44, 45, 28, 39], [], [44, 45, 40, 104], [105, 90], [106], [107], [], [], [108], [109]]
def l1 : List (List Nat) := [[76, 110, 111], [23, 39, 5, 75, 39, 50, 39, 112, 39, 50, 39], [113], [96, 114, 115, 98, 116, 114, 115, 117, 101], [119, 118], [108], [], [], [120, 121, 121, 121, 121, 121, 121, 121, 121, 121, 121], [], [122, 123, 124], [29, 125, 33], [96, 115, 97, 101], [126, 127, 37, 128], [107, 129], [33, 107, 107, 130, 129, 131, 125, 132, 134, 133], [108, 135], [136, 48, 137, 66, 138, 137, 139, 80, 50], [140], [141, 142, 143, 144, 143, 143, 143, 145], [33], [33], [], [146, 80, 147], [146, 50, 147], [148, 135], [], [54, 149, 150, 151, 152], [151], [153], [108, 135], [29, 33], [154], [145, 33], [145, 96, 93, 97, 115, 155, 115, 115, 115, 101], [146, 156, 103, 147, 157], [], [], [154, 158, 159, 160, 161, 164, 165, 94], [48, 6, 166, 109, 44, 45, 81, 167, 168, 169, 170, 170], [109, 171, 172, 173, 174], [], [], [96, 115, 114, 114, 115, 115, 115, 101], [33, 175, 176, 65, 45, 177, 105, 178, 179], [], [], [180], [181, 97], [182, 96, 115, 98, 114, 115, 183, 115, 98, 184, 183, 115, 101]]
def l2 : List (List Nat) := [[185], [186], [96, 115, 101, 20], [148, 75], [], [107], [187, 188, 189], [], [148], [], [191, 190, 192], [], [148, 108, 135], [193], [97], [194, 97], [196, 195, 197], [115, 199, 184, 183], [200, 201], [202], [], [], [203], [204], [122, 124, 205, 206, 123], [207, 208, 132, 210, 209, 208, 132], [211, 212], [], [130], [133, 213], [33, 214], [215], [216], [], [217, 217, 217], [110, 111], [21, 75], [142, 218, 219, 142, 143, 218, 220, 220, 221, 156, 222, 222], [48, 223, 219], [], [], [142, 143, 224, 224, 143, 143, 143, 221, 221], [], [220, 225], [220, 225], [226], [227], [], [76, 228], [229]]
def l3 : List (List Nat) := [[230, 231], [232], [234, 233], [142, 220, 143, 220, 220, 102, 221, 222], [], [194, 97], [96, 115, 184, 97, 101, 236, 235], [], [237], [], [234, 238], [163, 163, 162], [], [239, 239], [240, 153], [141, 142, 241, 222, 221, 221, 242], [142, 224, 143, 243, 241, 221, 224, 143, 198, 243, 244, 245], [107, 246, 247], [176, 178], [248, 249, 250, 33], [53, 20], [251], [252, 253, 254, 253], [109, 255], [109, 169, 105], [126], [], [256, 126, 257, 258, 257, 259, 260], [], [107, 247], [261], [262, 194, 194, 194, 194, 194, 194, 194], [262, 262, 263, 263], [98, 97], [194, 97], [], [], [], [264], [], [], [], [111, 111, 265], [264], [], [266, 267], [268], [198, 198], [269, 270, 162], [155, 155]]
def l4 : List (List Nat) := [[271], [234, 272], [], [], [273, 274, 275, 275, 275, 275, 275, 275], [], [], [276, 277, 279, 278], [], [277, 280, 281, 280, 278, 282], [], [99, 20], [283], [207, 208, 284, 285, 279, 278, 279, 277, 208, 286], [207, 287, 278], [234, 288], [], [], [220, 225], [236, 235], [221, 289], [], [], [55, 80, 219, 75, 50], [220], [], [290, 291], [], [], [292], [293], [294, 295, 296, 297], [298], [299, 300, 301, 302, 303, 304, 305, 306, 307, 233, 233], [308, 309], [20], [96, 184, 101], [], [310, 311, 312, 313, 314, 315, 316, 317, 238, 238], [], [76, 77, 318, 78, 48], [221, 319], [320, 321, 322, 320, 323, 320, 321, 322, 142, 218, 323, 320], [], [143, 243, 324, 218, 243, 325], [221, 289, 221], [], [], [], [177, 326, 327, 328, 329]]
def l5 : List (List Nat) := [[], [330], [107, 107, 133, 133], [45, 254], [], [33, 331, 332], [262, 182], [333], [334], [334, 335], [99, 328, 257, 333], [336], [], [262], [], [264], [337], [234, 338], [], [339], [340, 340], [], [341, 342, 343, 344, 345, 346, 347, 348, 349, 272, 272], [275, 275, 275, 275], [], [350], [208, 351, 277, 352, 351], [], [353, 353, 354], [276], [], [355, 277, 352], [356], [357, 358], [359, 216, 216], [208, 209, 277, 210, 360], [352, 351, 360], [], [361, 362, 363, 364, 365, 366, 367, 368, 369, 288, 288], [], [370], [], [], [371], [372], [372], [372, 151, 373], [372, 151, 373], [374, 375, 376, 377], [305]]
def l6 : List (List Nat) := [[378, 378], [379, 380], [381, 381, 381, 382], [], [305, 305, 305], [239, 239], [305, 305], [305, 305, 305, 305], [], [], [], [383, 383], [379, 380], [384, 384, 384, 385], [], [], [], [], [386], [225, 262], [322, 142, 143], [322, 319], [], [321, 322], [221, 144], [221, 241, 220], [387, 142, 143, 221], [211, 388, 389, 390, 257, 391, 328], [], [], [278], [211, 389, 257, 257, 392], [393, 394], [], [], [260], [], [], [395, 396, 397, 398, 399, 400, 401, 402, 338, 338], [], [], [347], [403, 403], [379, 380], [404, 404, 404, 405], [], [347, 347, 347], [406, 406], [347, 347], [347, 347, 347, 347]]
def l7 : List (List Nat) := [[], [355, 281], [309], [], [407], [281], [], [], [408], [], [208], [367], [409, 409], [379, 380], [410, 410, 410, 411], [], [367, 367, 367], [340, 340], [367, 367], [367, 367, 367, 367], [], [412, 412, 412, 412, 412, 412, 413], [], [], [], [309, 414, 415], [], [416, 417], [305, 305], [234], [], [382], [418, 418, 418], [], [385], [419, 419, 419], [], [], [], [], [], [390, 420], [], [], [421], [], [422, 422], [379, 380], [423, 423, 423, 424], []]
def l8 : List (List Nat) := [[], [], [], [347, 347], [405], [425, 425, 425], [], [426, 426], [20], [367, 367], [411], [427, 427, 427], [], [412, 412, 412, 412, 412, 412], [], [], [], [428, 429], [305], [], [20], [], [], [424], [430, 430, 430], [347], [], [367], [], [], [], [], [], [], [], [], [], [], [], [], [], [], [], [], [], [], [], [], [], []]
def l9 : List (List Nat) := [[], [], [], [], [], [], [], [], [], [], [], [], [], [373, 373]]
set_option maxRecDepth 100000 in
theorem e0 : ((List.range 50).map fun i => ((Tryz.prog.funcs[0 + i]?).elim [] Tryz.prog.leadsTo)) = l0 := by kernel_rfl
set_option maxRecDepth 100000 in
theorem e1 : ((List.range 50).map fun i => ((Tryz.prog.funcs[50 + i]?).elim [] Tryz.prog.leadsTo)) = l1 := by kernel_rfl
set_option maxRecDepth 100000 in
theorem e2 : ((List.range 50).map fun i => ((Tryz.prog.funcs[100 + i]?).elim [] Tryz.prog.leadsTo)) = l2 := by kernel_rfl
set_option maxRecDepth 100000 in
theorem e3 : ((List.range 50).map fun i => ((Tryz.prog.funcs[150 + i]?).elim [] Tryz.prog.leadsTo)) = l3 := by kernel_rfl
set_option maxRecDepth 100000 in
theorem e4 : ((List.range 50).map fun i => ((Tryz.prog.funcs[200 + i]?).elim [] Tryz.prog.leadsTo)) = l4 := by kernel_rfl
set_option maxRecDepth 100000 in
theorem e5 : ((List.range 50).map fun i => ((Tryz.prog.funcs[250 + i]?).elim [] Tryz.prog.leadsTo)) = l5 := by kernel_rfl
set_option maxRecDepth 100000 in
theorem e6 : ((List.range 50).map fun i => ((Tryz.prog.funcs[300 + i]?).elim [] Tryz.prog.leadsTo)) = l6 := by kernel_rfl
set_option maxRecDepth 100000 in
theorem e7 : ((List.range 50).map fun i => ((Tryz.prog.funcs[350 + i]?).elim [] Tryz.prog.leadsTo)) = l7 := by kernel_rfl
set_option maxRecDepth 100000 in
theorem e8 : ((List.range 50).map fun i => ((Tryz.prog.funcs[400 + i]?).elim [] Tryz.prog.leadsTo)) = l8 := by kernel_rfl
set_option maxRecDepth 100000 in
theorem e9 : ((List.range 14).map fun i => ((Tryz.prog.funcs[450 + i]?).elim [] Tryz.prog.leadsTo)) = l9 := by kernel_rfl
def lits : List (List (List Nat)) := [l0, l1, l2, l3, l4, l5, l6, l7, l8, l9]
theorem many : Tryz.prog.funcs.size = 464 := by kernel_rfl
theorem at_ {k n : Nat} {l : List (List Nat)} (e : ((List.range n).map fun i => ((Tryz.prog.funcs[k + i]?).elim [] Tryz.prog.leadsTo)) = l) {g : Nat} (h1 : k ≤ g) (h2 : g < k + n) : (Tryz.prog.funcs[g]?).elim [] Tryz.prog.leadsTo = l.getD (g - k) [] := by
  subst e
  have h3 : g - k < n := by omega
  have h4 : k + (g - k) = g := by omega
  rw [List.getD_eq_getElem?_getD, List.getElem?_map, List.getElem?_range h3]
  simp only [Option.map_some, Option.getD_some, h4]
theorem tab_ok (g : Nat) : (Tryz.prog.funcs[g]?).elim [] Tryz.prog.leadsTo = tabOf lits g := by
  have hm := many
  unfold tabOf
  by_cases h0 : g < 50
  · have hq : g / 50 = 0 := by omega
    have hr : g % 50 = g - 0 := by omega
    rw [hq, hr]
    exact at_ e0 (by omega) (by omega)
  by_cases h1 : g < 100
  · have hq : g / 50 = 1 := by omega
    have hr : g % 50 = g - 50 := by omega
    rw [hq, hr]
    exact at_ e1 (by omega) (by omega)
  by_cases h2 : g < 150
  · have hq : g / 50 = 2 := by omega
    have hr : g % 50 = g - 100 := by omega
    rw [hq, hr]
    exact at_ e2 (by omega) (by omega)
  by_cases h3 : g < 200
  · have hq : g / 50 = 3 := by omega
    have hr : g % 50 = g - 150 := by omega
    rw [hq, hr]
    exact at_ e3 (by omega) (by omega)
  by_cases h4 : g < 250
  · have hq : g / 50 = 4 := by omega
    have hr : g % 50 = g - 200 := by omega
    rw [hq, hr]
    exact at_ e4 (by omega) (by omega)
  by_cases h5 : g < 300
  · have hq : g / 50 = 5 := by omega
    have hr : g % 50 = g - 250 := by omega
    rw [hq, hr]
    exact at_ e5 (by omega) (by omega)
  by_cases h6 : g < 350
  · have hq : g / 50 = 6 := by omega
    have hr : g % 50 = g - 300 := by omega
    rw [hq, hr]
    exact at_ e6 (by omega) (by omega)
  by_cases h7 : g < 400
  · have hq : g / 50 = 7 := by omega
    have hr : g % 50 = g - 350 := by omega
    rw [hq, hr]
    exact at_ e7 (by omega) (by omega)
  by_cases h8 : g < 450
  · have hq : g / 50 = 8 := by omega
    have hr : g % 50 = g - 400 := by omega
    rw [hq, hr]
    exact at_ e8 (by omega) (by omega)
  by_cases h9 : g < 464
  · have hq : g / 50 = 9 := by omega
    have hr : g % 50 = g - 450 := by omega
    rw [hq, hr]
    exact at_ e9 (by omega) (by omega)
  · rw [Array.getElem?_eq_none (by omega)]
    show [] = _
    by_cases h : g / 50 = 9
    · rw [h]
      show [] = l9.getD (g % 50) []
      have hl : l9.length = 14 := by decide
      rw [List.getD_eq_getElem?_getD, List.getElem?_eq_none (by omega)]
      rfl
    · have hl : lits.length = 10 := by decide
      have : lits.getD (g / 50) [] = [] := by
        rw [List.getD_eq_getElem?_getD, List.getElem?_eq_none (by omega)]
        rfl
      rw [this]
      simp
theorem map_range {α β : Type} (A : Array α) (d : β) (h : α → β) : A.toList.map h = (List.range A.size).map fun i => (A[i]?).elim d h := by
  apply List.ext_getElem
  · simp
  · intro i h1 h2
    simp at h1 h2
    simp [h1]
theorem fuel_eq : 1 + (Tryz.prog.funcs.toList.map fun g => (Tryz.prog.leadsTo g).length + 1).sum = 1436 := by
  have h : (Tryz.prog.funcs.toList.map fun g => (Tryz.prog.leadsTo g).length + 1) = (List.range 464).map fun i => (tabOf lits i).length + 1 := by
    rw [map_range Tryz.prog.funcs 1 (fun g => (Tryz.prog.leadsTo g).length + 1), many]
    apply List.map_congr_left
    intro i hi
    have hi' : i < Tryz.prog.funcs.size := by rw [many]; exact List.mem_range.1 hi
    rw [← tab_ok i, Array.getElem?_eq_getElem hi']
    rfl
  rw [h]
  decide +kernel
def reached : List Nat := [3, 4, 19, 56, 57, 58, 120, 121, 59, 5, 20, 60, 122, 203, 123, 204, 273, 275, 350, 274, 124, 205, 206, 6, 7, 21, 8, 23, 66, 108, 148, 76, 228, 135, 110, 191, 190, 192, 111, 265, 264, 24, 67, 136, 75, 48, 137, 142, 218, 220, 221, 289, 225, 219, 236, 96, 184, 194, 97, 180, 261, 336, 101, 186, 235, 143, 156, 115, 222, 138, 223, 55, 80, 50, 139, 68, 140, 69, 141, 224, 144, 145, 226, 290, 370, 291, 70, 33, 93, 114, 71, 72, 73, 146, 227, 147, 74, 25, 77, 54, 119, 202, 118, 200, 271, 201, 234, 308, 309, 272, 341, 347, 406, 342, 403, 343, 379, 380, 344, 404, 405, 425, 345, 346, 348, 349, 149, 229, 292, 150, 230, 293, 371, 412, 413, 231, 294, 372, 295, 296, 151, 232, 298, 374, 375, 414, 415, 376, 377, 416, 417, 428, 429, 373, 297, 152, 233, 299, 305, 239, 300, 378, 301, 302, 381, 382, 418, 303, 304, 306, 307, 78, 79, 153, 102, 26, 29, 62, 63, 126, 211, 99, 182, 262, 263, 98, 181, 183, 212, 283, 357, 358, 408, 127, 37, 100, 185, 128, 130, 214, 207, 276, 208, 351, 355, 281, 277, 352, 279, 278, 353, 354, 407, 426, 287, 61, 125, 132, 216, 210, 209, 280, 282, 356, 81, 27, 82, 154, 28, 83, 84, 155, 85, 103, 157, 30, 86, 31, 65, 107, 129, 133, 213, 284, 359, 285, 360, 286, 131, 215, 288, 361, 367, 340, 362, 409, 363, 364, 410, 411, 427, 365, 366, 368, 369, 134, 217, 44, 106, 187, 188, 189, 87, 88, 158, 237, 159, 160, 238, 310, 311, 383, 312, 313, 384, 385, 419, 314, 315, 316, 317, 161, 163, 162, 164, 240, 318, 386, 165, 241, 319, 242, 320, 322, 321, 323, 94, 175, 176, 45, 177, 256, 257, 333, 258, 334, 259, 335, 260, 328, 105, 178, 179, 247, 43, 90, 109, 171, 251, 330, 172, 252, 253, 254, 173, 255, 331, 389, 392, 332, 393, 394, 421, 174, 169, 248, 249, 326, 387, 327, 388, 390, 391, 420, 329, 250, 89, 166, 243, 198, 269, 339, 270, 244, 324, 325, 245, 167, 246, 168, 170, 53, 116, 196, 268, 195, 266, 337, 267, 338, 395, 396, 422, 397, 398, 423, 424, 430, 399, 400, 401, 402, 197, 117, 199, 49, 22, 64, 10, 17, 34, 35, 32, 91, 40, 39, 92, 36, 95, 38, 41, 42, 104, 13, 18, 9, 11, 46, 12, 47, 14, 52, 113, 193, 51, 112, 15, 16]
set_option maxRecDepth 100000 in
theorem closure_eq : Tryz.prog.closure 3 = reached := by
  unfold Program.closure
  rw [fuel_eq, closure_cv tab_ok _ _ 0 [] (fun f => by simp)]
  decide +kernel
set_option maxRecDepth 100000 in
theorem k9 : (Rows.recoverSealsRow.inPlace == Tryz.prog.inPlace 3) = true := by
  unfold Program.inPlace
  rw [closure_eq]
  kernel_rfl
theorem unf : Tryz.prog.unfollowed 3 = true := by
  unfold Program.unfollowed
  rw [closure_eq]
  kernel_rfl
theorem k10 : (Rows.recoverSealsRow.unfollowed == Tryz.prog.unfollowed 3) = true := by
  rw [unf]
  rfl
theorem k11 : (Rows.recoverSealsRow.recurses == Tryz.prog.recurses 3) = true := by
  unfold Program.recurses
  rw [unf, Bool.true_or]
  rfl
set_option maxRecDepth 100000 in
theorem k12 : (Rows.recoverSealsRow.named == Tryz.prog.varsNamed 3) = true := by
  unfold Program.varsNamed
  rw [closure_eq]
  kernel_rfl
end Clo
end Go.Proofs.YtoaimjielnempaaGreatDoor
