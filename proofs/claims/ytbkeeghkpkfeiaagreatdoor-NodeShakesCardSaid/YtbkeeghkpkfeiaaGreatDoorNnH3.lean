/- Functions compiled with given orders: part 3. -/
import Derived.Test.YtbkeeghkpkfeiaaGreatDoorNsI
import Derived.Test.YtbkeeghkpkfeiaaGreatDoorNsK
namespace Go.Proofs.YtbkeeghkpkfeiaaGreatDoor
set_option linter.unusedVariables false
set_option linter.unusedSimpArgs false
open Go.RowKit Go.Maps
namespace Ev
theorem fnU_of3 {n : Nat} {F : Func} {hp : HintT} (h1 : Tryz.prog.funcs[n]? = some F) (h2 : chkF inf und keyOk ext hp F = true) : cFnU inf und keyOk ext 100000 hp F = fn n := by
  unfold fn; rw [h1]; exact cFnU_eq h2
noncomputable def fu7 : Bf := cFnU inf und keyOk ext 100000 [] Tryz.f7
theorem q7 : fu7 = fn 7 := fnU_of3 (by kernel_rfl) (by kernel_rfl)
def hn9 : HintT := [(6, [⟨[0, 1, 2, 3, 4, 5, 6, 7, 8], [0, 1, 2, 3, 4, 5, 6, 7, 8], none⟩])]
noncomputable def fu9 : Bf := cFnU inf und keyOk ext 100000 hn9 Tryz.f9
theorem q9 : fu9 = fn 9 := fnU_of3 (by kernel_rfl) (by kernel_rfl)
noncomputable def fu13 : Bf := cFnU inf und keyOk ext 100000 [] Tryz.f13
theorem q13 : fu13 = fn 13 := fnU_of3 (by kernel_rfl) (by kernel_rfl)
def hn17 : HintT := [(8, [⟨[0, 1, 2, 3, 9, 10, 11], [0, 1, 2, 3, 9, 10, 11], some 4⟩, ⟨[], [0, 1, 9, 10, 11], some 5⟩, ⟨[], [0, 1, 9, 10, 11], some 6⟩, ⟨[], [0, 1, 9, 10, 11], some 7⟩, ⟨[], [0, 1, 9, 10, 11], some 8⟩, ⟨[12, 13, 14], [0, 1, 9, 10, 11, 12, 13, 14], none⟩]), (12, [⟨[0, 1, 2], [0, 1, 2], some 3⟩, ⟨[4], [4], none⟩])]
noncomputable def fu17 : Bf := cFnU inf und keyOk ext 100000 hn17 Tryz.f17
theorem q17 : fu17 = fn 17 := fnU_of3 (by kernel_rfl) (by kernel_rfl)
noncomputable def fu21 : Bf := cFnU inf und keyOk ext 100000 [] Tryz.f21
theorem q21 : fu21 = fn 21 := fnU_of3 (by kernel_rfl) (by kernel_rfl)
noncomputable def fu29 : Bf := cFnU inf und keyOk ext 100000 [] Tryz.f29
theorem q29 : fu29 = fn 29 := fnU_of3 (by kernel_rfl) (by kernel_rfl)
noncomputable def fu43 : Bf := cFnU inf und keyOk ext 100000 [] Tryz.f43
theorem q43 : fu43 = fn 43 := fnU_of3 (by kernel_rfl) (by kernel_rfl)
noncomputable def fu49 : Bf := cFnU inf und keyOk ext 100000 [] Tryz.f49
theorem q49 : fu49 = fn 49 := fnU_of3 (by kernel_rfl) (by kernel_rfl)
def hn53 : HintT := [(7, [⟨[0, 1, 2, 3, 4, 5, 6, 7, 8], [0, 1, 2, 3, 4, 5, 6, 7, 8], some 9⟩, ⟨[], [0, 1, 2, 3, 4, 5, 6, 7], some 10⟩, ⟨[], [], none⟩])]
noncomputable def fu53 : Bf := cFnU inf und keyOk ext 100000 hn53 Tryz.f53
theorem q53 : fu53 = fn 53 := fnU_of3 (by kernel_rfl) (by kernel_rfl)
noncomputable def fu57 : Bf := cFnU inf und keyOk ext 100000 [] Tryz.f57
theorem q57 : fu57 = fn 57 := fnU_of3 (by kernel_rfl) (by kernel_rfl)
noncomputable def fu65 : Bf := cFnU inf und keyOk ext 100000 [] Tryz.f65
theorem q65 : fu65 = fn 65 := fnU_of3 (by kernel_rfl) (by kernel_rfl)
noncomputable def fu71 : Bf := cFnU inf und keyOk ext 100000 [] Tryz.f71
theorem q71 : fu71 = fn 71 := fnU_of3 (by kernel_rfl) (by kernel_rfl)
noncomputable def fu80 : Bf := cFnU inf und keyOk ext 100000 [] Tryz.f80
theorem q80 : fu80 = fn 80 := fnU_of3 (by kernel_rfl) (by kernel_rfl)
noncomputable def fu89 : Bf := cFnU inf und keyOk ext 100000 [] Tryz.f89
theorem q89 : fu89 = fn 89 := fnU_of3 (by kernel_rfl) (by kernel_rfl)
def hn110 : HintT := [(4, [⟨[0, 1, 2, 3, 4, 5, 6, 7, 8], [0, 1, 2, 3, 4, 5, 6, 7, 8], some 9⟩, ⟨[10], [2, 3, 4, 5, 6, 7, 10], some 11⟩, ⟨[12], [4, 5, 6, 7, 12], some 13⟩, ⟨[14], [6, 7, 14], some 15⟩, ⟨[], [], none⟩]), (5, [⟨[0, 1, 2, 3, 4, 5, 6, 7, 8, 9, 10], [0, 1, 2, 3, 4, 5, 6, 7, 8, 9, 10], some 11⟩, ⟨[12], [2, 3, 4, 5, 6, 7, 8, 9, 12], some 13⟩, ⟨[14], [4, 5, 6, 7, 8, 9, 14], some 15⟩, ⟨[16], [6, 7, 8, 9, 16], some 17⟩, ⟨[18], [8, 9, 18], some 19⟩, ⟨[], [], none⟩]), (17, [⟨[0, 1, 2, 3, 4, 5, 6], [0, 1, 2, 3, 4, 5, 6], some 7⟩, ⟨[8], [2, 3, 4, 5, 8], some 9⟩, ⟨[10], [4, 5, 10], some 11⟩, ⟨[], [], none⟩]), (24, [⟨[0, 1, 2, 3, 4], [0, 1, 2, 3, 4], some 5⟩, ⟨[6], [2, 3, 6], some 7⟩, ⟨[], [], none⟩]), (26, [⟨[0, 1, 2, 3, 4, 5, 6, 7, 8], [0, 1, 2, 3, 4, 5, 6, 7, 8], some 9⟩, ⟨[10], [2, 3, 4, 5, 6, 7, 10], some 11⟩, ⟨[12], [4, 5, 6, 7, 12], some 13⟩, ⟨[14], [6, 7, 14], some 15⟩, ⟨[], [], none⟩]), (28, [⟨[0, 1, 2, 3, 4], [0, 1, 2, 3, 4], some 5⟩, ⟨[6], [2, 3, 6], some 7⟩, ⟨[], [], none⟩]), (30, [⟨[0, 1, 2, 3, 4], [0, 1, 2, 3, 4], some 5⟩, ⟨[6], [2, 3, 6], some 7⟩, ⟨[], [], none⟩])]
noncomputable def fu110 : Bf := cFnU inf und keyOk ext 100000 hn110 Tryz.f110
theorem q110 : fu110 = fn 110 := fnU_of3 (by kernel_rfl) (by kernel_rfl)
noncomputable def fu113 : Bf := cFnU inf und keyOk ext 100000 [] Tryz.f113
theorem q113 : fu113 = fn 113 := fnU_of3 (by kernel_rfl) (by kernel_rfl)
def hn123 : HintT := [(3, [⟨[0, 1, 2, 3, 4, 5, 6, 7], [0, 1, 2, 3, 4, 5, 6, 7], some 8⟩, ⟨[9], [4, 5, 6, 7, 9], none⟩])]
noncomputable def fu123 : Bf := cFnU inf und keyOk ext 100000 hn123 Tryz.f123
theorem q123 : fu123 = fn 123 := fnU_of3 (by kernel_rfl) (by kernel_rfl)
noncomputable def fu127 : Bf := cFnU inf und keyOk ext 100000 [] Tryz.f127
theorem q127 : fu127 = fn 127 := fnU_of3 (by kernel_rfl) (by kernel_rfl)
def hn128 : HintT := [(6, [⟨[0, 1, 2, 3, 4, 5, 6, 7, 8], [0, 1, 2, 3, 4, 5, 6, 7, 8], some 9⟩, ⟨[], [], none⟩]), (12, [⟨[0, 1, 2, 3, 4, 5, 6, 7, 8, 9], [0, 1, 2, 3, 4, 5, 6, 7, 8, 9], some 10⟩, ⟨[], [], none⟩])]
noncomputable def fu128 : Bf := cFnU inf und keyOk ext 100000 hn128 Tryz.f128
theorem q128 : fu128 = fn 128 := fnU_of3 (by kernel_rfl) (by kernel_rfl)
noncomputable def fu137 : Bf := cFnU inf und keyOk ext 100000 [] Tryz.f137
theorem q137 : fu137 = fn 137 := fnU_of3 (by kernel_rfl) (by kernel_rfl)
noncomputable def fu147 : Bf := cFnU inf und keyOk ext 100000 [] Tryz.f147
theorem q147 : fu147 = fn 147 := fnU_of3 (by kernel_rfl) (by kernel_rfl)
noncomputable def fu160 : Bf := cFnU inf und keyOk ext 100000 [] Tryz.f160
theorem q160 : fu160 = fn 160 := fnU_of3 (by kernel_rfl) (by kernel_rfl)
def hn166 : HintT := [(2, [⟨[0, 1, 2], [0, 1, 2], some 3⟩, ⟨[], [0, 1], some 4⟩, ⟨[], [], none⟩])]
noncomputable def fu166 : Bf := cFnU inf und keyOk ext 100000 hn166 Tryz.f166
theorem q166 : fu166 = fn 166 := fnU_of3 (by kernel_rfl) (by kernel_rfl)
noncomputable def fu167 : Bf := cFnU inf und keyOk ext 100000 [] Tryz.f167
theorem q167 : fu167 = fn 167 := fnU_of3 (by kernel_rfl) (by kernel_rfl)
def hn170 : HintT := [(3, [⟨[0, 1, 2, 3, 4, 5, 6, 7, 8, 9, 10], [0, 1, 2, 3, 4, 5, 6, 7, 8, 9, 10], none⟩])]
noncomputable def fu170 : Bf := cFnU inf und keyOk ext 100000 hn170 Tryz.f170
theorem q170 : fu170 = fn 170 := fnU_of3 (by kernel_rfl) (by kernel_rfl)
noncomputable def fu180 : Bf := cFnU inf und keyOk ext 100000 [] Tryz.f180
theorem q180 : fu180 = fn 180 := fnU_of3 (by kernel_rfl) (by kernel_rfl)
noncomputable def fu199 : Bf := cFnU inf und keyOk ext 100000 [] Tryz.f199
theorem q199 : fu199 = fn 199 := fnU_of3 (by kernel_rfl) (by kernel_rfl)
def hn213 : HintT := [(3, [⟨[0, 1, 2, 3, 4, 5, 6, 7], [0, 1, 2, 3, 4, 5, 6, 7], some 8⟩, ⟨[9, 10, 11, 12, 13, 14, 15], [9, 10, 11, 12, 13, 14, 15], none⟩])]
noncomputable def fu213 : Bf := cFnU inf und keyOk ext 100000 hn213 Tryz.f213
theorem q213 : fu213 = fn 213 := fnU_of3 (by kernel_rfl) (by kernel_rfl)
def hn216 : HintT := [(4, [⟨[0, 1, 2, 3, 4, 5], [0, 1, 2, 3, 4, 5], some 6⟩, ⟨[7, 8, 9, 10, 11], [7, 8, 9, 10, 11], none⟩])]
noncomputable def fu216 : Bf := cFnU inf und keyOk ext 100000 hn216 Tryz.f216
theorem q216 : fu216 = fn 216 := fnU_of3 (by kernel_rfl) (by kernel_rfl)
noncomputable def fu237 : Bf := cFnU inf und keyOk ext 100000 [] Tryz.f237
theorem q237 : fu237 = fn 237 := fnU_of3 (by kernel_rfl) (by kernel_rfl)
noncomputable def fu243 : Bf := cFnU inf und keyOk ext 100000 [] Tryz.f243
theorem q243 : fu243 = fn 243 := fnU_of3 (by kernel_rfl) (by kernel_rfl)
noncomputable def fu251 : Bf := cFnU inf und keyOk ext 100000 [] Tryz.f251
theorem q251 : fu251 = fn 251 := fnU_of3 (by kernel_rfl) (by kernel_rfl)
noncomputable def fu262 : Bf := cFnU inf und keyOk ext 100000 [] Tryz.f262
theorem q262 : fu262 = fn 262 := fnU_of3 (by kernel_rfl) (by kernel_rfl)
noncomputable def fu270 : Bf := cFnU inf und keyOk ext 100000 [] Tryz.f270
theorem q270 : fu270 = fn 270 := fnU_of3 (by kernel_rfl) (by kernel_rfl)
noncomputable def fu281 : Bf := cFnU inf und keyOk ext 100000 [] Tryz.f281
theorem q281 : fu281 = fn 281 := fnU_of3 (by kernel_rfl) (by kernel_rfl)
def hn299 : HintT := [(8, [⟨[0, 1, 2, 3, 4, 5], [0, 1, 2, 3, 4, 5], some 6⟩, ⟨[7, 8, 9, 10, 11, 12, 13], [7, 8, 9, 10, 11, 12, 13], none⟩])]
noncomputable def fu299 : Bf := cFnU inf und keyOk ext 100000 hn299 Tryz.f299
theorem q299 : fu299 = fn 299 := fnU_of3 (by kernel_rfl) (by kernel_rfl)
noncomputable def fu300 : Bf := cFnU inf und keyOk ext 100000 [] Tryz.f300
theorem q300 : fu300 = fn 300 := fnU_of3 (by kernel_rfl) (by kernel_rfl)
noncomputable def fu309 : Bf := cFnU inf und keyOk ext 100000 [] Tryz.f309
theorem q309 : fu309 = fn 309 := fnU_of3 (by kernel_rfl) (by kernel_rfl)
noncomputable def fu322 : Bf := cFnU inf und keyOk ext 100000 [] Tryz.f322
theorem q322 : fu322 = fn 322 := fnU_of3 (by kernel_rfl) (by kernel_rfl)
noncomputable def fu333 : Bf := cFnU inf und keyOk ext 100000 [] Tryz.f333
theorem q333 : fu333 = fn 333 := fnU_of3 (by kernel_rfl) (by kernel_rfl)
noncomputable def fu355 : Bf := cFnU inf und keyOk ext 100000 [] Tryz.f355
theorem q355 : fu355 = fn 355 := fnU_of3 (by kernel_rfl) (by kernel_rfl)
def hn376 : HintT := [(3, [⟨[0, 2], [0, 2], some 1⟩, ⟨[3, 4, 5, 6, 7, 8], [2, 3, 4, 5, 6, 7, 8], none⟩])]
noncomputable def fu376 : Bf := cFnU inf und keyOk ext 100000 hn376 Tryz.f376
theorem q376 : fu376 = fn 376 := fnU_of3 (by kernel_rfl) (by kernel_rfl)
noncomputable def fu379 : Bf := cFnU inf und keyOk ext 100000 [] Tryz.f379
theorem q379 : fu379 = fn 379 := fnU_of3 (by kernel_rfl) (by kernel_rfl)
def hn383 : HintT := [(2, [⟨[0, 1, 2, 3, 4, 9], [0, 1, 2, 3, 4, 9], some 5⟩, ⟨[6, 7, 8], [9, 6, 7, 8], some 10⟩, ⟨[11], [8, 11], none⟩]), (4, [⟨[0, 1, 2, 3, 5, 10], [0, 1, 2, 3, 5, 10], some 4⟩, ⟨[], [5, 10], some 6⟩, ⟨[7, 8, 9], [10, 7, 8, 9], some 11⟩, ⟨[12], [9, 12], none⟩]), (7, [⟨[0, 1, 2, 3, 4, 5], [0, 1, 2, 3, 4, 5], some 6⟩, ⟨[], [0], some 7⟩, ⟨[8], [8], none⟩])]
noncomputable def fu383 : Bf := cFnU inf und keyOk ext 100000 hn383 Tryz.f383
theorem q383 : fu383 = fn 383 := fnU_of3 (by kernel_rfl) (by kernel_rfl)
def hn384 : HintT := [(1, [⟨[0, 1, 2, 3, 4, 5, 6, 7, 8, 9, 10], [0, 1, 2, 3, 4, 5, 6, 7, 8, 9, 10], some 11⟩, ⟨[12, 13], [1, 2, 5, 6, 7, 8, 12, 13], some 14⟩, ⟨[15, 16], [2, 7, 8, 15, 16], some 17⟩, ⟨[], [], none⟩])]
noncomputable def fu384 : Bf := cFnU inf und keyOk ext 100000 hn384 Tryz.f384
theorem q384 : fu384 = fn 384 := fnU_of3 (by kernel_rfl) (by kernel_rfl)
def hn385 : HintT := [(5, [⟨[0, 1, 2, 3, 5, 6, 11], [0, 1, 2, 3, 5, 6, 11], some 4⟩, ⟨[], [5, 6, 11], some 7⟩, ⟨[8, 9, 10], [11, 8, 9, 10], some 12⟩, ⟨[13], [10, 13], none⟩])]
noncomputable def fu385 : Bf := cFnU inf und keyOk ext 100000 hn385 Tryz.f385
theorem q385 : fu385 = fn 385 := fnU_of3 (by kernel_rfl) (by kernel_rfl)
def hn409 : HintT := [(6, [⟨[0, 1, 2, 3, 4, 5, 6, 7, 8], [0, 1, 2, 3, 4, 5, 6, 7, 8], none⟩])]
noncomputable def fu409 : Bf := cFnU inf und keyOk ext 100000 hn409 Tryz.f409
theorem q409 : fu409 = fn 409 := fnU_of3 (by kernel_rfl) (by kernel_rfl)
noncomputable def fu415 : Bf := cFnU inf und keyOk ext 100000 [] Tryz.f415
theorem q415 : fu415 = fn 415 := fnU_of3 (by kernel_rfl) (by kernel_rfl)
noncomputable def fu439 : Bf := cFnU inf und keyOk ext 100000 [] Tryz.f439
theorem q439 : fu439 = fn 439 := fnU_of3 (by kernel_rfl) (by kernel_rfl)
noncomputable def fu445 : Bf := cFnU inf und keyOk ext 100000 [] Tryz.f445
theorem q445 : fu445 = fn 445 := fnU_of3 (by kernel_rfl) (by kernel_rfl)
def hn452 : HintT := [(4, [⟨[0, 1, 2, 3, 4, 5, 6, 7, 8, 9, 10, 11, 12], [0, 1, 2, 3, 4, 5, 6, 7, 8, 9, 10, 11, 12], none⟩])]
noncomputable def fu452 : Bf := cFnU inf und keyOk ext 100000 hn452 Tryz.f452
theorem q452 : fu452 = fn 452 := fnU_of3 (by kernel_rfl) (by kernel_rfl)
def hn454 : HintT := [(4, [⟨[0, 6], [0, 6], some 1⟩, ⟨[], [0, 6], some 2⟩, ⟨[3, 4, 5], [6, 3, 4, 5], some 7⟩, ⟨[8], [5, 8], none⟩]), (5, [⟨[0, 2, 8, 9], [0, 2, 8, 9], some 1⟩, ⟨[], [2, 8, 9], some 3⟩, ⟨[4, 5, 6, 7], [8, 9, 4, 5, 6, 7], some 10⟩, ⟨[], [6, 7], some 11⟩, ⟨[12], [7, 12], none⟩]), (6, [⟨[0], [0], some 1⟩, ⟨[], [0], some 2⟩, ⟨[3, 4, 5], [3, 4, 5], some 6⟩, ⟨[], [5], none⟩])]
noncomputable def fu454 : Bf := cFnU inf und keyOk ext 100000 hn454 Tryz.f454
theorem q454 : fu454 = fn 454 := fnU_of3 (by kernel_rfl) (by kernel_rfl)
noncomputable def fu456 : Bf := cFnU inf und keyOk ext 100000 [] Tryz.f456
theorem q456 : fu456 = fn 456 := fnU_of3 (by kernel_rfl) (by kernel_rfl)
noncomputable def fu475 : Bf := cFnU inf und keyOk ext 100000 [] Tryz.f475
theorem q475 : fu475 = fn 475 := fnU_of3 (by kernel_rfl) (by kernel_rfl)
def hn477 : HintT := [(2, [⟨[0, 1, 2, 3, 4, 5, 6, 7, 8, 9, 10, 11, 16], [0, 1, 2, 3, 4, 5, 6, 7, 8, 9, 10, 11, 16], some 12⟩, ⟨[13, 14, 15], [16, 13, 14, 15], some 17⟩, ⟨[18], [15, 18], none⟩]), (4, [⟨[0, 1, 2, 3, 4], [0, 1, 2, 3, 4], some 5⟩, ⟨[], [], none⟩]), (6, [⟨[0, 1, 2, 3, 4, 5], [0, 1, 2, 3, 4, 5], some 6⟩, ⟨[], [], none⟩])]
noncomputable def fu477 : Bf := cFnU inf und keyOk ext 100000 hn477 Tryz.f477
theorem q477 : fu477 = fn 477 := fnU_of3 (by kernel_rfl) (by kernel_rfl)
noncomputable def fu499 : Bf := cFnU inf und keyOk ext 100000 [] Tryz.f499
theorem q499 : fu499 = fn 499 := fnU_of3 (by kernel_rfl) (by kernel_rfl)
noncomputable def fu526 : Bf := cFnU inf und keyOk ext 100000 [] Tryz.f526
theorem q526 : fu526 = fn 526 := fnU_of3 (by kernel_rfl) (by kernel_rfl)
noncomputable def fu539 : Bf := cFnU inf und keyOk ext 100000 [] Tryz.f539
theorem q539 : fu539 = fn 539 := fnU_of3 (by kernel_rfl) (by kernel_rfl)
def hn560 : HintT := [(4, [⟨[0, 1, 2, 3, 4, 5, 6, 7, 8, 9, 10, 11, 12], [0, 1, 2, 3, 4, 5, 6, 7, 8, 9, 10, 11, 12], some 13⟩, ⟨[14], [14], none⟩]), (6, [⟨[0, 1, 2, 3, 4, 5, 6, 7, 8, 9, 10, 11, 12, 13, 14], [0, 1, 2, 3, 4, 5, 6, 7, 8, 9, 10, 11, 12, 13, 14], some 15⟩, ⟨[16], [2, 3, 4, 16], some 17⟩, ⟨[], [], none⟩])]
noncomputable def fu560 : Bf := cFnU inf und keyOk ext 100000 hn560 Tryz.f560
theorem q560 : fu560 = fn 560 := fnU_of3 (by kernel_rfl) (by kernel_rfl)
noncomputable def fu570 : Bf := cFnU inf und keyOk ext 100000 [] Tryz.f570
theorem q570 : fu570 = fn 570 := fnU_of3 (by kernel_rfl) (by kernel_rfl)
noncomputable def fu579 : Bf := cFnU inf und keyOk ext 100000 [] Tryz.f579
theorem q579 : fu579 = fn 579 := fnU_of3 (by kernel_rfl) (by kernel_rfl)
noncomputable def fu593 : Bf := cFnU inf und keyOk ext 100000 [] Tryz.f593
theorem q593 : fu593 = fn 593 := fnU_of3 (by kernel_rfl) (by kernel_rfl)
def hn606 : HintT := [(1, [⟨[0, 1, 3, 4], [0, 1, 3, 4], some 2⟩, ⟨[], [3, 4], some 5⟩, ⟨[6, 7], [6, 7], none⟩]), (4, [⟨[0, 1, 2, 3, 4, 5, 6, 7, 8, 9, 10, 11, 12, 13, 14, 15, 16, 17, 18, 19], [0, 1, 2, 3, 4, 5, 6, 7, 8, 9, 10, 11, 12, 13, 14, 15, 16, 17, 18, 19], none⟩]), (7, [⟨[0, 1, 2, 3, 4, 5, 6, 7, 8, 9, 10, 11, 12, 13, 14, 15, 16, 17], [0, 1, 2, 3, 4, 5, 6, 7, 8, 9, 10, 11, 12, 13, 14, 15, 16, 17], none⟩])]
noncomputable def fu606 : Bf := cFnU inf und keyOk ext 100000 hn606 Tryz.f606
theorem q606 : fu606 = fn 606 := fnU_of3 (by kernel_rfl) (by kernel_rfl)
noncomputable def fu613 : Bf := cFnU inf und keyOk ext 100000 [] Tryz.f613
theorem q613 : fu613 = fn 613 := fnU_of3 (by kernel_rfl) (by kernel_rfl)
noncomputable def fu639 : Bf := cFnU inf und keyOk ext 100000 [] Tryz.f639
theorem q639 : fu639 = fn 639 := fnU_of3 (by kernel_rfl) (by kernel_rfl)
noncomputable def fu653 : Bf := cFnU inf und keyOk ext 100000 [] Tryz.f653
theorem q653 : fu653 = fn 653 := fnU_of3 (by kernel_rfl) (by kernel_rfl)
def hn669 : HintT := [(4, [⟨[0, 1, 2, 3, 4, 5, 6, 7, 8, 9, 10, 11, 12, 13], [0, 1, 2, 3, 4, 5, 6, 7, 8, 9, 10, 11, 12, 13], some 14⟩, ⟨[15, 16], [15, 16], none⟩]), (6, [⟨[0, 1, 2, 3, 4, 5, 6, 7, 8, 9, 10, 11, 12, 13, 14], [0, 1, 2, 3, 4, 5, 6, 7, 8, 9, 10, 11, 12, 13, 14], some 15⟩, ⟨[16], [2, 3, 4, 16], some 17⟩, ⟨[], [], none⟩])]
noncomputable def fu669 : Bf := cFnU inf und keyOk ext 100000 hn669 Tryz.f669
theorem q669 : fu669 = fn 669 := fnU_of3 (by kernel_rfl) (by kernel_rfl)
noncomputable def fu714 : Bf := cFnU inf und keyOk ext 100000 [] Tryz.f714
theorem q714 : fu714 = fn 714 := fnU_of3 (by kernel_rfl) (by kernel_rfl)
end Ev
end Go.Proofs.YtbkeeghkpkfeiaaGreatDoor
