/- Functions compiled with given orders: part 4. -/
import Derived.Test.YtbkeeghkpkfeiaaGreatDoorNsI
import Derived.Test.YtbkeeghkpkfeiaaGreatDoorNsK
namespace Go.Proofs.YtbkeeghkpkfeiaaGreatDoor
set_option linter.unusedVariables false
set_option linter.unusedSimpArgs false
open Go.RowKit Go.Maps
namespace Ev
theorem fnU_of4 {n : Nat} {F : Func} {hp : HintT} (h1 : Tryz.prog.funcs[n]? = some F) (h2 : chkF inf und keyOk ext hp F = true) : cFnU inf und keyOk ext 100000 hp F = fn n := by
  unfold fn; rw [h1]; exact cFnU_eq h2
noncomputable def fu10 : Bf := cFnU inf und keyOk ext 100000 [] Tryz.f10
theorem q10 : fu10 = fn 10 := fnU_of4 (by kernel_rfl) (by kernel_rfl)
noncomputable def fu14 : Bf := cFnU inf und keyOk ext 100000 [] Tryz.f14
theorem q14 : fu14 = fn 14 := fnU_of4 (by kernel_rfl) (by kernel_rfl)
noncomputable def fu22 : Bf := cFnU inf und keyOk ext 100000 [] Tryz.f22
theorem q22 : fu22 = fn 22 := fnU_of4 (by kernel_rfl) (by kernel_rfl)
def hn31 : HintT := [(11, [⟨[0, 1, 2, 3, 4, 5], [0, 1, 2, 3, 4, 5], some 6⟩, ⟨[7, 8], [1, 2, 3, 4, 5, 7, 8], none⟩])]
noncomputable def fu31 : Bf := cFnU inf und keyOk ext 100000 hn31 Tryz.f31
theorem q31 : fu31 = fn 31 := fnU_of4 (by kernel_rfl) (by kernel_rfl)
noncomputable def fu32 : Bf := cFnU inf und keyOk ext 100000 [] Tryz.f32
theorem q32 : fu32 = fn 32 := fnU_of4 (by kernel_rfl) (by kernel_rfl)
noncomputable def fu44 : Bf := cFnU inf und keyOk ext 100000 [] Tryz.f44
theorem q44 : fu44 = fn 44 := fnU_of4 (by kernel_rfl) (by kernel_rfl)
noncomputable def fu50 : Bf := cFnU inf und keyOk ext 100000 [] Tryz.f50
theorem q50 : fu50 = fn 50 := fnU_of4 (by kernel_rfl) (by kernel_rfl)
noncomputable def fu58 : Bf := cFnU inf und keyOk ext 100000 [] Tryz.f58
theorem q58 : fu58 = fn 58 := fnU_of4 (by kernel_rfl) (by kernel_rfl)
def hn62 : HintT := [(17, [⟨[0, 1, 2, 3, 4, 7], [0, 1, 2, 3, 4, 7], some 5⟩, ⟨[6, 8], [0, 1, 2, 7, 6, 8], some 9⟩, ⟨[10], [10], none⟩])]
noncomputable def fu62 : Bf := cFnU inf und keyOk ext 100000 hn62 Tryz.f62
theorem q62 : fu62 = fn 62 := fnU_of4 (by kernel_rfl) (by kernel_rfl)
noncomputable def fu66 : Bf := cFnU inf und keyOk ext 100000 [] Tryz.f66
theorem q66 : fu66 = fn 66 := fnU_of4 (by kernel_rfl) (by kernel_rfl)
noncomputable def fu73 : Bf := cFnU inf und keyOk ext 100000 [] Tryz.f73
theorem q73 : fu73 = fn 73 := fnU_of4 (by kernel_rfl) (by kernel_rfl)
noncomputable def fu81 : Bf := cFnU inf und keyOk ext 100000 [] Tryz.f81
theorem q81 : fu81 = fn 81 := fnU_of4 (by kernel_rfl) (by kernel_rfl)
noncomputable def fu90 : Bf := cFnU inf und keyOk ext 100000 [] Tryz.f90
theorem q90 : fu90 = fn 90 := fnU_of4 (by kernel_rfl) (by kernel_rfl)
def hn93 : HintT := [(0, [⟨[0, 1, 2, 3, 4, 5, 6, 7, 9, 10, 11, 12, 13], [0, 1, 2, 3, 4, 5, 6, 7, 9, 10, 11, 12, 13], some 8⟩, ⟨[], [0, 1, 2, 3, 9, 10, 11, 12, 13], some 14⟩, ⟨[15, 16, 17, 18, 19, 20, 21], [15, 16, 17, 18, 19, 20, 21], none⟩])]
noncomputable def fu93 : Bf := cFnU inf und keyOk ext 100000 hn93 Tryz.f93
theorem q93 : fu93 = fn 93 := fnU_of4 (by kernel_rfl) (by kernel_rfl)
def hn102 : HintT := [(2, [⟨[0, 1, 2, 3, 4, 5], [0, 1, 2, 3, 4, 5], some 6⟩, ⟨[], [], none⟩]), (3, [⟨[0, 1, 2, 3, 4], [0, 1, 2, 3, 4], some 5⟩, ⟨[], [], none⟩]), (5, [⟨[0, 1, 2, 3, 4, 5], [0, 1, 2, 3, 4, 5], some 6⟩, ⟨[], [0, 1, 2, 3, 4], some 7⟩, ⟨[8, 9, 10, 11, 12], [8, 9, 10, 11, 12], none⟩]), (12, [⟨[0, 1, 2, 3, 4, 5, 6, 7, 9, 10], [0, 1, 2, 3, 4, 5, 6, 7, 9, 10], some 8⟩, ⟨[], [0, 1, 2, 3, 9, 10], some 11⟩, ⟨[], [], none⟩])]
noncomputable def fu102 : Bf := cFnU inf und keyOk ext 100000 hn102 Tryz.f102
theorem q102 : fu102 = fn 102 := fnU_of4 (by kernel_rfl) (by kernel_rfl)
noncomputable def fu114 : Bf := cFnU inf und keyOk ext 100000 [] Tryz.f114
theorem q114 : fu114 = fn 114 := fnU_of4 (by kernel_rfl) (by kernel_rfl)
def hn124 : HintT := [(7, [⟨[0, 1, 2, 3, 4, 5, 6, 7, 8, 9, 10, 11, 12, 13, 14, 15, 16, 17, 18, 19, 20, 21, 22], [0, 1, 2, 3, 4, 5, 6, 7, 8, 9, 10, 11, 12, 13, 14, 15, 16, 17, 18, 19, 20, 21, 22], some 23⟩, ⟨[24], [24], none⟩])]
noncomputable def fu124 : Bf := cFnU inf und keyOk ext 100000 hn124 Tryz.f124
theorem q124 : fu124 = fn 124 := fnU_of4 (by kernel_rfl) (by kernel_rfl)
noncomputable def fu129 : Bf := cFnU inf und keyOk ext 100000 [] Tryz.f129
theorem q129 : fu129 = fn 129 := fnU_of4 (by kernel_rfl) (by kernel_rfl)
def hn133 : HintT := [(18, [⟨[0, 1, 2, 4, 5, 6, 7, 8, 9, 10], [0, 1, 2, 4, 5, 6, 7, 8, 9, 10], some 3⟩, ⟨[], [0, 4, 5, 6, 7, 8, 9, 10], some 11⟩, ⟨[12], [12], none⟩])]
noncomputable def fu133 : Bf := cFnU inf und keyOk ext 100000 hn133 Tryz.f133
theorem q133 : fu133 = fn 133 := fnU_of4 (by kernel_rfl) (by kernel_rfl)
noncomputable def fu139 : Bf := cFnU inf und keyOk ext 100000 [] Tryz.f139
theorem q139 : fu139 = fn 139 := fnU_of4 (by kernel_rfl) (by kernel_rfl)
noncomputable def fu149 : Bf := cFnU inf und keyOk ext 100000 [] Tryz.f149
theorem q149 : fu149 = fn 149 := fnU_of4 (by kernel_rfl) (by kernel_rfl)
def hn153 : HintT := [(15, [⟨[0, 1, 2, 3, 4, 5, 6, 7, 8], [0, 1, 2, 3, 4, 5, 6, 7, 8], some 9⟩, ⟨[10, 11], [0, 10, 11], some 12⟩, ⟨[], [], none⟩])]
noncomputable def fu153 : Bf := cFnU inf und keyOk ext 100000 hn153 Tryz.f153
theorem q153 : fu153 = fn 153 := fnU_of4 (by kernel_rfl) (by kernel_rfl)
def hn158 : HintT := [(10, [⟨[0, 1, 2, 3, 4, 5, 6, 7, 8, 9, 10, 11, 12, 13, 14, 15], [0, 1, 2, 3, 4, 5, 6, 7, 8, 9, 10, 11, 12, 13, 14, 15], none⟩])]
noncomputable def fu158 : Bf := cFnU inf und keyOk ext 100000 hn158 Tryz.f158
theorem q158 : fu158 = fn 158 := fnU_of4 (by kernel_rfl) (by kernel_rfl)
noncomputable def fu161 : Bf := cFnU inf und keyOk ext 100000 [] Tryz.f161
theorem q161 : fu161 = fn 161 := fnU_of4 (by kernel_rfl) (by kernel_rfl)
noncomputable def fu169 : Bf := cFnU inf und keyOk ext 100000 [] Tryz.f169
theorem q169 : fu169 = fn 169 := fnU_of4 (by kernel_rfl) (by kernel_rfl)
noncomputable def fu181 : Bf := cFnU inf und keyOk ext 100000 [] Tryz.f181
theorem q181 : fu181 = fn 181 := fnU_of4 (by kernel_rfl) (by kernel_rfl)
def hn196 : HintT := [(2, [⟨[0, 1, 2, 3, 4, 5, 6, 7, 8, 9], [0, 1, 2, 3, 4, 5, 6, 7, 8, 9], none⟩])]
noncomputable def fu196 : Bf := cFnU inf und keyOk ext 100000 hn196 Tryz.f196
theorem q196 : fu196 = fn 196 := fnU_of4 (by kernel_rfl) (by kernel_rfl)
noncomputable def fu202 : Bf := cFnU inf und keyOk ext 100000 [] Tryz.f202
theorem q202 : fu202 = fn 202 := fnU_of4 (by kernel_rfl) (by kernel_rfl)
noncomputable def fu238 : Bf := cFnU inf und keyOk ext 100000 [] Tryz.f238
theorem q238 : fu238 = fn 238 := fnU_of4 (by kernel_rfl) (by kernel_rfl)
noncomputable def fu244 : Bf := cFnU inf und keyOk ext 100000 [] Tryz.f244
theorem q244 : fu244 = fn 244 := fnU_of4 (by kernel_rfl) (by kernel_rfl)
noncomputable def fu254 : Bf := cFnU inf und keyOk ext 100000 [] Tryz.f254
theorem q254 : fu254 = fn 254 := fnU_of4 (by kernel_rfl) (by kernel_rfl)
noncomputable def fu263 : Bf := cFnU inf und keyOk ext 100000 [] Tryz.f263
theorem q263 : fu263 = fn 263 := fnU_of4 (by kernel_rfl) (by kernel_rfl)
noncomputable def fu271 : Bf := cFnU inf und keyOk ext 100000 [] Tryz.f271
theorem q271 : fu271 = fn 271 := fnU_of4 (by kernel_rfl) (by kernel_rfl)
noncomputable def fu287 : Bf := cFnU inf und keyOk ext 100000 [] Tryz.f287
theorem q287 : fu287 = fn 287 := fnU_of4 (by kernel_rfl) (by kernel_rfl)
def hn291 : HintT := [(4, [⟨[0, 1, 2, 3, 4, 5, 6, 7, 8, 9, 10], [0, 1, 2, 3, 4, 5, 6, 7, 8, 9, 10], some 11⟩, ⟨[12, 13, 14, 15, 16], [12, 13, 14, 15, 16], none⟩]), (7, [⟨[0, 1, 2, 3, 4, 5, 6, 7, 8, 9], [0, 1, 2, 3, 4, 5, 6, 7, 8, 9], some 10⟩, ⟨[], [0], some 11⟩, ⟨[12], [12], none⟩]), (10, [⟨[0, 1, 2, 3, 4, 5, 6, 7, 9, 10, 11, 12, 13, 15, 16], [0, 1, 2, 3, 4, 5, 6, 7, 9, 10, 11, 12, 13, 15, 16], some 8⟩, ⟨[], [0, 1, 9, 10, 11, 12, 13, 15, 16], some 14⟩, ⟨[17, 18], [0, 1, 9, 10, 11, 12, 15, 16, 17, 18], some 19⟩, ⟨[20, 21], [0, 1, 20, 21], some 22⟩, ⟨[23, 24], [1, 23, 24], some 25⟩, ⟨[], [], none⟩])]
noncomputable def fu291 : Bf := cFnU inf und keyOk ext 100000 hn291 Tryz.f291
theorem q291 : fu291 = fn 291 := fnU_of4 (by kernel_rfl) (by kernel_rfl)
def hn294 : HintT := [(3, [⟨[0, 1, 2, 3, 4, 5], [0, 1, 2, 3, 4, 5], some 6⟩, ⟨[7, 8, 9, 10], [7, 8, 9, 10], none⟩])]
noncomputable def fu294 : Bf := cFnU inf und keyOk ext 100000 hn294 Tryz.f294
theorem q294 : fu294 = fn 294 := fnU_of4 (by kernel_rfl) (by kernel_rfl)
def hn296 : HintT := [(7, [⟨[0, 1, 2, 3, 4, 5, 6, 7, 8, 9, 10], [0, 1, 2, 3, 4, 5, 6, 7, 8, 9, 10], some 11⟩, ⟨[12, 13, 14, 15, 16], [12, 13, 14, 15, 16], none⟩]), (12, [⟨[0, 1, 2, 3, 4], [0, 1, 2, 3, 4], some 5⟩, ⟨[6], [6], none⟩])]
noncomputable def fu296 : Bf := cFnU inf und keyOk ext 100000 hn296 Tryz.f296
theorem q296 : fu296 = fn 296 := fnU_of4 (by kernel_rfl) (by kernel_rfl)
noncomputable def fu301 : Bf := cFnU inf und keyOk ext 100000 [] Tryz.f301
theorem q301 : fu301 = fn 301 := fnU_of4 (by kernel_rfl) (by kernel_rfl)
noncomputable def fu310 : Bf := cFnU inf und keyOk ext 100000 [] Tryz.f310
theorem q310 : fu310 = fn 310 := fnU_of4 (by kernel_rfl) (by kernel_rfl)
def hn320 : HintT := [(6, [⟨[0, 1, 2, 3, 4, 5, 6, 7], [0, 1, 2, 3, 4, 5, 6, 7], some 8⟩, ⟨[9, 10, 11, 12, 13], [9, 10, 11, 12, 13], none⟩])]
noncomputable def fu320 : Bf := cFnU inf und keyOk ext 100000 hn320 Tryz.f320
theorem q320 : fu320 = fn 320 := fnU_of4 (by kernel_rfl) (by kernel_rfl)
noncomputable def fu323 : Bf := cFnU inf und keyOk ext 100000 [] Tryz.f323
theorem q323 : fu323 = fn 323 := fnU_of4 (by kernel_rfl) (by kernel_rfl)
def hn332 : HintT := [(1, [⟨[0, 1, 2, 3, 4], [0, 1, 2, 3, 4], some 5⟩, ⟨[6, 7], [1, 2, 6, 7], some 8⟩, ⟨[], [], none⟩]), (9, [⟨[0, 1, 2, 3, 4, 5, 6, 7, 8, 9, 10, 11, 12, 13, 14], [0, 1, 2, 3, 4, 5, 6, 7, 8, 9, 10, 11, 12, 13, 14], none⟩])]
noncomputable def fu332 : Bf := cFnU inf und keyOk ext 100000 hn332 Tryz.f332
theorem q332 : fu332 = fn 332 := fnU_of4 (by kernel_rfl) (by kernel_rfl)
noncomputable def fu335 : Bf := cFnU inf und keyOk ext 100000 [] Tryz.f335
theorem q335 : fu335 = fn 335 := fnU_of4 (by kernel_rfl) (by kernel_rfl)
noncomputable def fu358 : Bf := cFnU inf und keyOk ext 100000 [] Tryz.f358
theorem q358 : fu358 = fn 358 := fnU_of4 (by kernel_rfl) (by kernel_rfl)
noncomputable def fu386 : Bf := cFnU inf und keyOk ext 100000 [] Tryz.f386
theorem q386 : fu386 = fn 386 := fnU_of4 (by kernel_rfl) (by kernel_rfl)
def hn404 : HintT := [(6, [⟨[0, 1, 2, 3, 4, 5, 6, 7, 8], [0, 1, 2, 3, 4, 5, 6, 7, 8], none⟩])]
noncomputable def fu404 : Bf := cFnU inf und keyOk ext 100000 hn404 Tryz.f404
theorem q404 : fu404 = fn 404 := fnU_of4 (by kernel_rfl) (by kernel_rfl)
def hn410 : HintT := [(6, [⟨[0, 1, 2, 3, 4, 5, 6, 7, 8], [0, 1, 2, 3, 4, 5, 6, 7, 8], none⟩])]
noncomputable def fu410 : Bf := cFnU inf und keyOk ext 100000 hn410 Tryz.f410
theorem q410 : fu410 = fn 410 := fnU_of4 (by kernel_rfl) (by kernel_rfl)
noncomputable def fu416 : Bf := cFnU inf und keyOk ext 100000 [] Tryz.f416
theorem q416 : fu416 = fn 416 := fnU_of4 (by kernel_rfl) (by kernel_rfl)
def hn417 : HintT := [(4, [⟨[0, 1, 2, 3, 4, 5, 6, 7, 8, 9, 10, 11, 12], [0, 1, 2, 3, 4, 5, 6, 7, 8, 9, 10, 11, 12], some 13⟩, ⟨[14], [14], none⟩]), (6, [⟨[0, 1, 2, 3, 4, 5, 6, 7, 8, 9, 10, 11, 12, 13, 14], [0, 1, 2, 3, 4, 5, 6, 7, 8, 9, 10, 11, 12, 13, 14], some 15⟩, ⟨[16], [2, 3, 4, 16], some 17⟩, ⟨[], [], none⟩])]
noncomputable def fu417 : Bf := cFnU inf und keyOk ext 100000 hn417 Tryz.f417
theorem q417 : fu417 = fn 417 := fnU_of4 (by kernel_rfl) (by kernel_rfl)
def hn438 : HintT := [(4, [⟨[0, 1, 2], [0, 1, 2], some 3⟩, ⟨[4], [0, 1, 4], none⟩])]
noncomputable def fu438 : Bf := cFnU inf und keyOk ext 100000 hn438 Tryz.f438
theorem q438 : fu438 = fn 438 := fnU_of4 (by kernel_rfl) (by kernel_rfl)
noncomputable def fu440 : Bf := cFnU inf und keyOk ext 100000 [] Tryz.f440
theorem q440 : fu440 = fn 440 := fnU_of4 (by kernel_rfl) (by kernel_rfl)
noncomputable def fu446 : Bf := cFnU inf und keyOk ext 100000 [] Tryz.f446
theorem q446 : fu446 = fn 446 := fnU_of4 (by kernel_rfl) (by kernel_rfl)
noncomputable def fu457 : Bf := cFnU inf und keyOk ext 100000 [] Tryz.f457
theorem q457 : fu457 = fn 457 := fnU_of4 (by kernel_rfl) (by kernel_rfl)
noncomputable def fu482 : Bf := cFnU inf und keyOk ext 100000 [] Tryz.f482
theorem q482 : fu482 = fn 482 := fnU_of4 (by kernel_rfl) (by kernel_rfl)
def hn486 : HintT := [(5, [⟨[0, 1, 2, 3, 4, 5, 6, 7, 8, 9, 10, 11], [0, 1, 2, 3, 4, 5, 6, 7, 8, 9, 10, 11], some 12⟩, ⟨[], [], none⟩])]
noncomputable def fu486 : Bf := cFnU inf und keyOk ext 100000 hn486 Tryz.f486
theorem q486 : fu486 = fn 486 := fnU_of4 (by kernel_rfl) (by kernel_rfl)
noncomputable def fu501 : Bf := cFnU inf und keyOk ext 100000 [] Tryz.f501
theorem q501 : fu501 = fn 501 := fnU_of4 (by kernel_rfl) (by kernel_rfl)
noncomputable def fu527 : Bf := cFnU inf und keyOk ext 100000 [] Tryz.f527
theorem q527 : fu527 = fn 527 := fnU_of4 (by kernel_rfl) (by kernel_rfl)
noncomputable def fu540 : Bf := cFnU inf und keyOk ext 100000 [] Tryz.f540
theorem q540 : fu540 = fn 540 := fnU_of4 (by kernel_rfl) (by kernel_rfl)
def hn569 : HintT := [(3, [⟨[0, 1, 2, 3, 4, 5, 6, 7, 8, 9, 10, 11, 12], [0, 1, 2, 3, 4, 5, 6, 7, 8, 9, 10, 11, 12], some 13⟩, ⟨[14], [2, 3, 14], some 15⟩, ⟨[], [], none⟩])]
noncomputable def fu569 : Bf := cFnU inf und keyOk ext 100000 hn569 Tryz.f569
theorem q569 : fu569 = fn 569 := fnU_of4 (by kernel_rfl) (by kernel_rfl)
noncomputable def fu573 : Bf := cFnU inf und keyOk ext 100000 [] Tryz.f573
theorem q573 : fu573 = fn 573 := fnU_of4 (by kernel_rfl) (by kernel_rfl)
noncomputable def fu580 : Bf := cFnU inf und keyOk ext 100000 [] Tryz.f580
theorem q580 : fu580 = fn 580 := fnU_of4 (by kernel_rfl) (by kernel_rfl)
def hn587 : HintT := [(5, [⟨[0, 1, 2, 3, 4, 5, 6, 7, 8, 9, 10, 11, 12], [0, 1, 2, 3, 4, 5, 6, 7, 8, 9, 10, 11, 12], some 13⟩, ⟨[14], [11, 14], none⟩])]
noncomputable def fu587 : Bf := cFnU inf und keyOk ext 100000 hn587 Tryz.f587
theorem q587 : fu587 = fn 587 := fnU_of4 (by kernel_rfl) (by kernel_rfl)
noncomputable def fu594 : Bf := cFnU inf und keyOk ext 100000 [] Tryz.f594
theorem q594 : fu594 = fn 594 := fnU_of4 (by kernel_rfl) (by kernel_rfl)
def hn603 : HintT := [(2, [⟨[0, 1, 2, 3, 4, 5, 6, 7, 8, 9, 10, 11, 12, 13, 14, 15, 16, 17, 18, 19, 20, 21, 22, 23, 24, 25], [0, 1, 2, 3, 4, 5, 6, 7, 8, 9, 10, 11, 12, 13, 14, 15, 16, 17, 18, 19, 20, 21, 22, 23, 24, 25], none⟩]), (18, [⟨[0, 1, 2, 3, 4, 6, 7, 8, 9], [0, 1, 2, 3, 4, 6, 7, 8, 9], some 5⟩, ⟨[10, 11], [0, 6, 7, 8, 9, 10, 11], none⟩])]
noncomputable def fu603 : Bf := cFnU inf und keyOk ext 100000 hn603 Tryz.f603
theorem q603 : fu603 = fn 603 := fnU_of4 (by kernel_rfl) (by kernel_rfl)
noncomputable def fu614 : Bf := cFnU inf und keyOk ext 100000 [] Tryz.f614
theorem q614 : fu614 = fn 614 := fnU_of4 (by kernel_rfl) (by kernel_rfl)
noncomputable def fu640 : Bf := cFnU inf und keyOk ext 100000 [] Tryz.f640
theorem q640 : fu640 = fn 640 := fnU_of4 (by kernel_rfl) (by kernel_rfl)
noncomputable def fu662 : Bf := cFnU inf und keyOk ext 100000 [] Tryz.f662
theorem q662 : fu662 = fn 662 := fnU_of4 (by kernel_rfl) (by kernel_rfl)
noncomputable def fu719 : Bf := cFnU inf und keyOk ext 100000 [] Tryz.f719
theorem q719 : fu719 = fn 719 := fnU_of4 (by kernel_rfl) (by kernel_rfl)
end Ev
end Go.Proofs.YtbkeeghkpkfeiaaGreatDoor
