/- Functions compiled with given orders: part 2. -/
import Derived.Test.YtbkeeghkpkfeiaaGreatDoorNsI
import Derived.Test.YtbkeeghkpkfeiaaGreatDoorNsK
namespace Go.Proofs.YtbkeeghkpkfeiaaGreatDoor
set_option linter.unusedVariables false
set_option linter.unusedSimpArgs false
open Go.RowKit Go.Maps
namespace Ev
theorem fnU_of2 {n : Nat} {F : Func} {hp : HintT} (h1 : Tryz.prog.funcs[n]? = some F) (h2 : chkF inf und keyOk ext hp F = true) : cFnU inf und keyOk ext 100000 hp F = fn n := by
  unfold fn; rw [h1]; exact cFnU_eq h2
noncomputable def fu5 : Bf := cFnU inf und keyOk ext 100000 [] Tryz.f5
theorem q5 : fu5 = fn 5 := fnU_of2 (by kernel_rfl) (by kernel_rfl)
noncomputable def fu12 : Bf := cFnU inf und keyOk ext 100000 [] Tryz.f12
theorem q12 : fu12 = fn 12 := fnU_of2 (by kernel_rfl) (by kernel_rfl)
noncomputable def fu20 : Bf := cFnU inf und keyOk ext 100000 [] Tryz.f20
theorem q20 : fu20 = fn 20 := fnU_of2 (by kernel_rfl) (by kernel_rfl)
noncomputable def fu28 : Bf := cFnU inf und keyOk ext 100000 [] Tryz.f28
theorem q28 : fu28 = fn 28 := fnU_of2 (by kernel_rfl) (by kernel_rfl)
noncomputable def fu41 : Bf := cFnU inf und keyOk ext 100000 [] Tryz.f41
theorem q41 : fu41 = fn 41 := fnU_of2 (by kernel_rfl) (by kernel_rfl)
noncomputable def fu48 : Bf := cFnU inf und keyOk ext 100000 [] Tryz.f48
theorem q48 : fu48 = fn 48 := fnU_of2 (by kernel_rfl) (by kernel_rfl)
noncomputable def fu56 : Bf := cFnU inf und keyOk ext 100000 [] Tryz.f56
theorem q56 : fu56 = fn 56 := fnU_of2 (by kernel_rfl) (by kernel_rfl)
noncomputable def fu64 : Bf := cFnU inf und keyOk ext 100000 [] Tryz.f64
theorem q64 : fu64 = fn 64 := fnU_of2 (by kernel_rfl) (by kernel_rfl)
noncomputable def fu70 : Bf := cFnU inf und keyOk ext 100000 [] Tryz.f70
theorem q70 : fu70 = fn 70 := fnU_of2 (by kernel_rfl) (by kernel_rfl)
def hn74 : HintT := [(0, [⟨[0, 1, 2, 3, 4, 5, 6, 7, 8, 10, 11, 12, 13], [0, 1, 2, 3, 4, 5, 6, 7, 8, 10, 11, 12, 13], some 9⟩, ⟨[], [0, 1, 2, 3, 4, 10, 11, 12, 13], some 14⟩, ⟨[], [0], some 15⟩, ⟨[], [], none⟩]), (1, [⟨[0, 1, 2, 3, 4, 5, 6, 7, 8], [0, 1, 2, 3, 4, 5, 6, 7, 8], some 9⟩, ⟨[], [0], some 10⟩, ⟨[], [], none⟩])]
noncomputable def fu74 : Bf := cFnU inf und keyOk ext 100000 hn74 Tryz.f74
theorem q74 : fu74 = fn 74 := fnU_of2 (by kernel_rfl) (by kernel_rfl)
noncomputable def fu78 : Bf := cFnU inf und keyOk ext 100000 [] Tryz.f78
theorem q78 : fu78 = fn 78 := fnU_of2 (by kernel_rfl) (by kernel_rfl)
def hn79 : HintT := [(13, [⟨[0, 1, 2, 3, 4, 5, 6], [0, 1, 2, 3, 4, 5, 6], some 7⟩, ⟨[8, 9], [0, 8, 9], some 10⟩, ⟨[], [], none⟩]), (21, [⟨[0, 1, 2, 3, 4, 5, 6], [0, 1, 2, 3, 4, 5, 6], some 7⟩, ⟨[8, 9], [0, 1, 2, 3, 4, 5, 8, 9], some 10⟩, ⟨[11, 12], [0, 11, 12], some 13⟩, ⟨[], [], none⟩]), (27, [⟨[0, 1, 2, 3, 4, 5], [0, 1, 2, 3, 4, 5], some 6⟩, ⟨[7], [0, 1, 2, 3, 4, 7], some 8⟩, ⟨[9, 10], [0, 9, 10], some 11⟩, ⟨[], [], none⟩]), (52, [⟨[0, 1, 2, 3, 4, 5], [0, 1, 2, 3, 4, 5], some 6⟩, ⟨[7], [0, 1, 2, 3, 4, 7], some 8⟩, ⟨[9, 10], [0, 9, 10], some 11⟩, ⟨[], [], none⟩])]
noncomputable def fu79 : Bf := cFnU inf und keyOk ext 100000 hn79 Tryz.f79
theorem q79 : fu79 = fn 79 := fnU_of2 (by kernel_rfl) (by kernel_rfl)
def hn83 : HintT := [(4, [⟨[0, 1, 2, 3, 4, 5, 6, 7, 8, 9], [0, 1, 2, 3, 4, 5, 6, 7, 8, 9], some 10⟩, ⟨[], [], none⟩])]
noncomputable def fu83 : Bf := cFnU inf und keyOk ext 100000 hn83 Tryz.f83
theorem q83 : fu83 = fn 83 := fnU_of2 (by kernel_rfl) (by kernel_rfl)
noncomputable def fu88 : Bf := cFnU inf und keyOk ext 100000 [] Tryz.f88
theorem q88 : fu88 = fn 88 := fnU_of2 (by kernel_rfl) (by kernel_rfl)
noncomputable def fu112 : Bf := cFnU inf und keyOk ext 100000 [] Tryz.f112
theorem q112 : fu112 = fn 112 := fnU_of2 (by kernel_rfl) (by kernel_rfl)
noncomputable def fu126 : Bf := cFnU inf und keyOk ext 100000 [] Tryz.f126
theorem q126 : fu126 = fn 126 := fnU_of2 (by kernel_rfl) (by kernel_rfl)
noncomputable def fu136 : Bf := cFnU inf und keyOk ext 100000 [] Tryz.f136
theorem q136 : fu136 = fn 136 := fnU_of2 (by kernel_rfl) (by kernel_rfl)
def hn138 : HintT := [(6, [⟨[0, 1, 2, 3, 4, 5], [0, 1, 2, 3, 4, 5], some 6⟩, ⟨[], [], none⟩]), (17, [⟨[0, 1, 2, 3, 4, 5], [0, 1, 2, 3, 4, 5], some 6⟩, ⟨[], [0, 1, 2, 3], some 7⟩, ⟨[8, 9, 10, 11, 12], [8, 9, 10, 11, 12], none⟩])]
noncomputable def fu138 : Bf := cFnU inf und keyOk ext 100000 hn138 Tryz.f138
theorem q138 : fu138 = fn 138 := fnU_of2 (by kernel_rfl) (by kernel_rfl)
def hn140 : HintT := [(15, [⟨[0, 1, 2, 3, 4, 5, 6, 7], [0, 1, 2, 3, 4, 5, 6, 7], none⟩])]
noncomputable def fu140 : Bf := cFnU inf und keyOk ext 100000 hn140 Tryz.f140
theorem q140 : fu140 = fn 140 := fnU_of2 (by kernel_rfl) (by kernel_rfl)
noncomputable def fu146 : Bf := cFnU inf und keyOk ext 100000 [] Tryz.f146
theorem q146 : fu146 = fn 146 := fnU_of2 (by kernel_rfl) (by kernel_rfl)
def hn156 : HintT := [(4, [⟨[0, 1, 2, 3, 5], [0, 1, 2, 3, 5], some 4⟩, ⟨[6, 7, 8], [0, 1, 2, 5, 6, 7, 8], none⟩])]
noncomputable def fu156 : Bf := cFnU inf und keyOk ext 100000 hn156 Tryz.f156
theorem q156 : fu156 = fn 156 := fnU_of2 (by kernel_rfl) (by kernel_rfl)
noncomputable def fu159 : Bf := cFnU inf und keyOk ext 100000 [] Tryz.f159
theorem q159 : fu159 = fn 159 := fnU_of2 (by kernel_rfl) (by kernel_rfl)
noncomputable def fu165 : Bf := cFnU inf und keyOk ext 100000 [] Tryz.f165
theorem q165 : fu165 = fn 165 := fnU_of2 (by kernel_rfl) (by kernel_rfl)
noncomputable def fu176 : Bf := cFnU inf und keyOk ext 100000 [] Tryz.f176
theorem q176 : fu176 = fn 176 := fnU_of2 (by kernel_rfl) (by kernel_rfl)
def hn177 : HintT := [(4, [⟨[0, 1, 2, 3, 4], [0, 1, 2, 3, 4], some 5⟩, ⟨[6, 7], [1, 2, 3, 4, 6, 7], none⟩]), (5, [⟨[0, 1, 2, 3, 4, 5, 6, 7, 13], [0, 1, 2, 3, 4, 5, 6, 7, 13], some 8⟩, ⟨[9, 10, 11, 12], [13, 9, 10, 11, 12], some 14⟩, ⟨[15, 16], [11, 12, 15, 16], none⟩]), (14, [⟨[0, 1, 2, 3, 4, 5, 6, 7, 12], [0, 1, 2, 3, 4, 5, 6, 7, 12], some 8⟩, ⟨[9, 10, 11], [12, 9, 10, 11], some 13⟩, ⟨[14], [11, 14], none⟩]), (15, [⟨[0, 1, 2, 3, 4, 5, 6, 7, 8, 9, 10], [0, 1, 2, 3, 4, 5, 6, 7, 8, 9, 10], some 11⟩, ⟨[], [], none⟩])]
noncomputable def fu177 : Bf := cFnU inf und keyOk ext 100000 hn177 Tryz.f177
theorem q177 : fu177 = fn 177 := fnU_of2 (by kernel_rfl) (by kernel_rfl)
noncomputable def fu189 : Bf := cFnU inf und keyOk ext 100000 [] Tryz.f189
theorem q189 : fu189 = fn 189 := fnU_of2 (by kernel_rfl) (by kernel_rfl)
noncomputable def fu215 : Bf := cFnU inf und keyOk ext 100000 [] Tryz.f215
theorem q215 : fu215 = fn 215 := fnU_of2 (by kernel_rfl) (by kernel_rfl)
def hn220 : HintT := [(3, [⟨[0, 1, 2, 3, 4, 5, 6, 7, 8, 9], [0, 1, 2, 3, 4, 5, 6, 7, 8, 9], some 10⟩, ⟨[11], [8, 11], none⟩])]
noncomputable def fu220 : Bf := cFnU inf und keyOk ext 100000 hn220 Tryz.f220
theorem q220 : fu220 = fn 220 := fnU_of2 (by kernel_rfl) (by kernel_rfl)
noncomputable def fu242 : Bf := cFnU inf und keyOk ext 100000 [] Tryz.f242
theorem q242 : fu242 = fn 242 := fnU_of2 (by kernel_rfl) (by kernel_rfl)
noncomputable def fu249 : Bf := cFnU inf und keyOk ext 100000 [] Tryz.f249
theorem q249 : fu249 = fn 249 := fnU_of2 (by kernel_rfl) (by kernel_rfl)
noncomputable def fu261 : Bf := cFnU inf und keyOk ext 100000 [] Tryz.f261
theorem q261 : fu261 = fn 261 := fnU_of2 (by kernel_rfl) (by kernel_rfl)
noncomputable def fu269 : Bf := cFnU inf und keyOk ext 100000 [] Tryz.f269
theorem q269 : fu269 = fn 269 := fnU_of2 (by kernel_rfl) (by kernel_rfl)
noncomputable def fu280 : Bf := cFnU inf und keyOk ext 100000 [] Tryz.f280
theorem q280 : fu280 = fn 280 := fnU_of2 (by kernel_rfl) (by kernel_rfl)
def hn285 : HintT := [(6, [⟨[0, 1, 2, 3, 4], [0, 1, 2, 3, 4], some 5⟩, ⟨[], [], none⟩])]
noncomputable def fu285 : Bf := cFnU inf und keyOk ext 100000 hn285 Tryz.f285
theorem q285 : fu285 = fn 285 := fnU_of2 (by kernel_rfl) (by kernel_rfl)
def hn286 : HintT := [(4, [⟨[0, 1, 2, 3, 4, 5, 7, 8], [0, 1, 2, 3, 4, 5, 7, 8], some 6⟩, ⟨[9, 10, 11], [0, 1, 2, 3, 4, 7, 8, 9, 10, 11], some 12⟩, ⟨[13, 14], [0, 13, 14], some 15⟩, ⟨[], [], none⟩]), (5, [⟨[0, 1, 2, 3, 4, 5, 6, 7, 8, 9, 10, 11], [0, 1, 2, 3, 4, 5, 6, 7, 8, 9, 10, 11], some 12⟩, ⟨[], [], none⟩])]
noncomputable def fu286 : Bf := cFnU inf und keyOk ext 100000 hn286 Tryz.f286
theorem q286 : fu286 = fn 286 := fnU_of2 (by kernel_rfl) (by kernel_rfl)
noncomputable def fu295 : Bf := cFnU inf und keyOk ext 100000 [] Tryz.f295
theorem q295 : fu295 = fn 295 := fnU_of2 (by kernel_rfl) (by kernel_rfl)
noncomputable def fu308 : Bf := cFnU inf und keyOk ext 100000 [] Tryz.f308
theorem q308 : fu308 = fn 308 := fnU_of2 (by kernel_rfl) (by kernel_rfl)
def hn312 : HintT := [(9, [⟨[0, 1, 2, 3, 4, 5, 6, 7, 8, 9, 10, 11, 12, 13], [0, 1, 2, 3, 4, 5, 6, 7, 8, 9, 10, 11, 12, 13], none⟩])]
noncomputable def fu312 : Bf := cFnU inf und keyOk ext 100000 hn312 Tryz.f312
theorem q312 : fu312 = fn 312 := fnU_of2 (by kernel_rfl) (by kernel_rfl)
def hn314 : HintT := [(2, [⟨[0, 1, 2, 3, 5], [0, 1, 2, 3, 5], some 4⟩, ⟨[], [5], some 6⟩, ⟨[7, 8, 9], [7, 8, 9], none⟩])]
noncomputable def fu314 : Bf := cFnU inf und keyOk ext 100000 hn314 Tryz.f314
theorem q314 : fu314 = fn 314 := fnU_of2 (by kernel_rfl) (by kernel_rfl)
noncomputable def fu319 : Bf := cFnU inf und keyOk ext 100000 [] Tryz.f319
theorem q319 : fu319 = fn 319 := fnU_of2 (by kernel_rfl) (by kernel_rfl)
noncomputable def fu331 : Bf := cFnU inf und keyOk ext 100000 [] Tryz.f331
theorem q331 : fu331 = fn 331 := fnU_of2 (by kernel_rfl) (by kernel_rfl)
def hn340 : HintT := [(4, [⟨[0, 1, 2, 3, 4, 5, 6], [0, 1, 2, 3, 4, 5, 6], some 7⟩, ⟨[8, 9], [0, 8, 9], some 10⟩, ⟨[], [], none⟩])]
noncomputable def fu340 : Bf := cFnU inf und keyOk ext 100000 hn340 Tryz.f340
theorem q340 : fu340 = fn 340 := fnU_of2 (by kernel_rfl) (by kernel_rfl)
noncomputable def fu348 : Bf := cFnU inf und keyOk ext 100000 [] Tryz.f348
theorem q348 : fu348 = fn 348 := fnU_of2 (by kernel_rfl) (by kernel_rfl)
noncomputable def fu371 : Bf := cFnU inf und keyOk ext 100000 [] Tryz.f371
theorem q371 : fu371 = fn 371 := fnU_of2 (by kernel_rfl) (by kernel_rfl)
def hn382 : HintT := [(10, [⟨[0, 1, 2, 3, 4, 5, 6], [0, 1, 2, 3, 4, 5, 6], some 7⟩, ⟨[], [0, 1, 2, 3], some 8⟩, ⟨[9, 10, 11, 12, 13], [9, 10, 11, 12, 13], none⟩]), (18, [⟨[0, 1, 2, 3, 4, 5, 6, 8], [0, 1, 2, 3, 4, 5, 6, 8], some 7⟩, ⟨[], [0, 1, 2, 3, 8], some 9⟩, ⟨[10], [10], none⟩])]
noncomputable def fu382 : Bf := cFnU inf und keyOk ext 100000 hn382 Tryz.f382
theorem q382 : fu382 = fn 382 := fnU_of2 (by kernel_rfl) (by kernel_rfl)
def hn405 : HintT := [(6, [⟨[0, 1, 2, 3, 4, 5, 6, 7, 8], [0, 1, 2, 3, 4, 5, 6, 7, 8], none⟩])]
noncomputable def fu405 : Bf := cFnU inf und keyOk ext 100000 hn405 Tryz.f405
theorem q405 : fu405 = fn 405 := fnU_of2 (by kernel_rfl) (by kernel_rfl)
noncomputable def fu414 : Bf := cFnU inf und keyOk ext 100000 [] Tryz.f414
theorem q414 : fu414 = fn 414 := fnU_of2 (by kernel_rfl) (by kernel_rfl)
noncomputable def fu437 : Bf := cFnU inf und keyOk ext 100000 [] Tryz.f437
theorem q437 : fu437 = fn 437 := fnU_of2 (by kernel_rfl) (by kernel_rfl)
noncomputable def fu444 : Bf := cFnU inf und keyOk ext 100000 [] Tryz.f444
theorem q444 : fu444 = fn 444 := fnU_of2 (by kernel_rfl) (by kernel_rfl)
noncomputable def fu455 : Bf := cFnU inf und keyOk ext 100000 [] Tryz.f455
theorem q455 : fu455 = fn 455 := fnU_of2 (by kernel_rfl) (by kernel_rfl)
def hn458 : HintT := [(5, [⟨[0, 1, 2, 3, 4, 5, 6, 7, 8, 9, 10, 11, 12], [0, 1, 2, 3, 4, 5, 6, 7, 8, 9, 10, 11, 12], none⟩])]
noncomputable def fu458 : Bf := cFnU inf und keyOk ext 100000 hn458 Tryz.f458
theorem q458 : fu458 = fn 458 := fnU_of2 (by kernel_rfl) (by kernel_rfl)
def hn460 : HintT := [(13, [⟨[0, 1, 2, 3], [0, 1, 2, 3], some 4⟩, ⟨[5, 6], [0, 1, 5, 6], none⟩]), (15, [⟨[0, 1, 2, 3], [0, 1, 2, 3], some 4⟩, ⟨[5, 6], [0, 1, 5, 6], none⟩]), (22, [⟨[0, 1, 2, 3, 4, 5, 6, 7, 8, 9, 14], [0, 1, 2, 3, 4, 5, 6, 7, 8, 9, 14], some 10⟩, ⟨[11, 12, 13], [14, 11, 12, 13], some 15⟩, ⟨[16], [13, 16], none⟩]), (23, [⟨[0, 1, 2, 3, 4, 5, 6, 7, 8, 9, 10, 11, 12, 13, 14, 15, 16, 17, 18, 19, 20, 21], [0, 1, 2, 3, 4, 5, 6, 7, 8, 9, 10, 11, 12, 13, 14, 15, 16, 17, 18, 19, 20, 21], some 22⟩, ⟨[], [], none⟩]), (25, [⟨[0, 1, 2, 3, 4, 5, 6, 7, 8, 9], [0, 1, 2, 3, 4, 5, 6, 7, 8, 9], some 10⟩, ⟨[], [], none⟩]), (26, [⟨[0, 1, 2, 3, 4, 5, 6, 7, 8, 9, 10, 11, 12, 13, 14, 15, 16, 17, 18], [0, 1, 2, 3, 4, 5, 6, 7, 8, 9, 10, 11, 12, 13, 14, 15, 16, 17, 18], some 19⟩, ⟨[20, 21], [0, 1, 2, 3, 4, 20, 21], some 22⟩, ⟨[], [], none⟩]), (27, [⟨[0, 1, 2, 3, 4, 5, 6], [0, 1, 2, 3, 4, 5, 6], some 7⟩, ⟨[8, 9], [0, 8, 9], some 10⟩, ⟨[], [], none⟩])]
noncomputable def fu460 : Bf := cFnU inf und keyOk ext 100000 hn460 Tryz.f460
theorem q460 : fu460 = fn 460 := fnU_of2 (by kernel_rfl) (by kernel_rfl)
def hn468 : HintT := [(8, [⟨[0, 1, 2, 3, 4, 5, 6], [0, 1, 2, 3, 4, 5, 6], some 7⟩, ⟨[8, 9, 10, 11, 12], [8, 9, 10, 11, 12], none⟩]), (11, [⟨[0, 1, 2, 3, 4, 9], [0, 1, 2, 3, 4, 9], some 5⟩, ⟨[6, 7, 8], [9, 6, 7, 8], some 10⟩, ⟨[11], [8, 11], none⟩]), (16, [⟨[0, 1, 2, 3, 4], [0, 1, 2, 3, 4], some 5⟩, ⟨[], [], none⟩]), (18, [⟨[0, 1, 2, 3, 4, 5], [0, 1, 2, 3, 4, 5], some 6⟩, ⟨[], [0, 1, 2, 3, 4], some 7⟩, ⟨[], [], none⟩]), (19, [⟨[0, 1, 2, 3, 4], [0, 1, 2, 3, 4], some 5⟩, ⟨[6, 7, 8, 9, 10], [6, 7, 8, 9, 10], none⟩])]
noncomputable def fu468 : Bf := cFnU inf und keyOk ext 100000 hn468 Tryz.f468
theorem q468 : fu468 = fn 468 := fnU_of2 (by kernel_rfl) (by kernel_rfl)
noncomputable def fu474 : Bf := cFnU inf und keyOk ext 100000 [] Tryz.f474
theorem q474 : fu474 = fn 474 := fnU_of2 (by kernel_rfl) (by kernel_rfl)
noncomputable def fu492 : Bf := cFnU inf und keyOk ext 100000 [] Tryz.f492
theorem q492 : fu492 = fn 492 := fnU_of2 (by kernel_rfl) (by kernel_rfl)
def hn509 : HintT := [(1, [⟨[0, 1, 2, 3, 6, 7, 8, 9], [0, 1, 2, 3, 6, 7, 8, 9], some 4⟩, ⟨[5], [6, 7, 8, 9, 5], some 10⟩, ⟨[11, 12, 13], [5, 11, 12, 13], none⟩])]
noncomputable def fu509 : Bf := cFnU inf und keyOk ext 100000 hn509 Tryz.f509
theorem q509 : fu509 = fn 509 := fnU_of2 (by kernel_rfl) (by kernel_rfl)
noncomputable def fu511 : Bf := cFnU inf und keyOk ext 100000 [] Tryz.f511
theorem q511 : fu511 = fn 511 := fnU_of2 (by kernel_rfl) (by kernel_rfl)
noncomputable def fu538 : Bf := cFnU inf und keyOk ext 100000 [] Tryz.f538
theorem q538 : fu538 = fn 538 := fnU_of2 (by kernel_rfl) (by kernel_rfl)
noncomputable def fu552 : Bf := cFnU inf und keyOk ext 100000 [] Tryz.f552
theorem q552 : fu552 = fn 552 := fnU_of2 (by kernel_rfl) (by kernel_rfl)
noncomputable def fu577 : Bf := cFnU inf und keyOk ext 100000 [] Tryz.f577
theorem q577 : fu577 = fn 577 := fnU_of2 (by kernel_rfl) (by kernel_rfl)
noncomputable def fu592 : Bf := cFnU inf und keyOk ext 100000 [] Tryz.f592
theorem q592 : fu592 = fn 592 := fnU_of2 (by kernel_rfl) (by kernel_rfl)
def hn595 : HintT := [(17, [⟨[0, 1, 2, 3, 4, 5, 6, 7, 8, 9, 10, 11, 12], [0, 1, 2, 3, 4, 5, 6, 7, 8, 9, 10, 11, 12], some 13⟩, ⟨[14, 15, 16], [14, 15, 16], none⟩])]
noncomputable def fu595 : Bf := cFnU inf und keyOk ext 100000 hn595 Tryz.f595
theorem q595 : fu595 = fn 595 := fnU_of2 (by kernel_rfl) (by kernel_rfl)
noncomputable def fu607 : Bf := cFnU inf und keyOk ext 100000 [] Tryz.f607
theorem q607 : fu607 = fn 607 := fnU_of2 (by kernel_rfl) (by kernel_rfl)
def hn608 : HintT := [(3, [⟨[0, 1, 2, 3, 4, 5, 6, 7, 8, 9, 10, 11, 12], [0, 1, 2, 3, 4, 5, 6, 7, 8, 9, 10, 11, 12], some 13⟩, ⟨[14], [2, 3, 14], some 15⟩, ⟨[], [], none⟩])]
noncomputable def fu608 : Bf := cFnU inf und keyOk ext 100000 hn608 Tryz.f608
theorem q608 : fu608 = fn 608 := fnU_of2 (by kernel_rfl) (by kernel_rfl)
noncomputable def fu627 : Bf := cFnU inf und keyOk ext 100000 [] Tryz.f627
theorem q627 : fu627 = fn 627 := fnU_of2 (by kernel_rfl) (by kernel_rfl)
noncomputable def fu652 : Bf := cFnU inf und keyOk ext 100000 [] Tryz.f652
theorem q652 : fu652 = fn 652 := fnU_of2 (by kernel_rfl) (by kernel_rfl)
noncomputable def fu702 : Bf := cFnU inf und keyOk ext 100000 [] Tryz.f702
theorem q702 : fu702 = fn 702 := fnU_of2 (by kernel_rfl) (by kernel_rfl)
end Ev
end Go.Proofs.YtbkeeghkpkfeiaaGreatDoor
