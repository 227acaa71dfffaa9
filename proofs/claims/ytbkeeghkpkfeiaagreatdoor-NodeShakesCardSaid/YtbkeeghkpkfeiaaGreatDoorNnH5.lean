/- Functions compiled with given orders: part 5. -/
import Derived.Test.YtbkeeghkpkfeiaaGreatDoorNsI
import Derived.Test.YtbkeeghkpkfeiaaGreatDoorNsK
namespace Go.Proofs.YtbkeeghkpkfeiaaGreatDoor
set_option linter.unusedVariables false
set_option linter.unusedSimpArgs false
open Go.RowKit Go.Maps
namespace Ev
theorem fnU_of5 {n : Nat} {F : Func} {hp : HintT} (h1 : Tryz.prog.funcs[n]? = some F) (h2 : chkF inf und keyOk ext hp F = true) : cFnU inf und keyOk ext 100000 hp F = fn n := by
  unfold fn; rw [h1]; exact cFnU_eq h2
def hn6 : HintT := [(8, [⟨[0, 1, 2, 3, 4], [0, 1, 2, 3, 4], some 5⟩, ⟨[], [0, 1, 2, 3], some 6⟩, ⟨[], [], none⟩]), (9, [⟨[0, 1, 2, 3, 4, 5, 6, 7, 8, 9, 10, 11, 12, 13, 14, 15, 16, 17, 18, 19, 20, 22], [0, 1, 2, 3, 4, 5, 6, 7, 8, 9, 10, 11, 12, 13, 14, 15, 16, 17, 18, 19, 20, 22], some 21⟩, ⟨[], [16, 17, 18, 19, 22], some 23⟩, ⟨[24], [24], none⟩]), (11, [⟨[0, 1, 2, 3, 4, 5, 6, 7, 9], [0, 1, 2, 3, 4, 5, 6, 7, 9], some 8⟩, ⟨[], [0, 1, 2, 3, 4, 5, 9], some 10⟩, ⟨[11, 12, 13, 14, 15], [11, 12, 13, 14, 15], none⟩]), (14, [⟨[0, 1, 2, 3, 4, 5, 6, 7, 8, 9], [0, 1, 2, 3, 4, 5, 6, 7, 8, 9], some 10⟩, ⟨[], [], none⟩])]
noncomputable def fu6 : Bf := cFnU inf und keyOk ext 100000 hn6 Tryz.f6
theorem q6 : fu6 = fn 6 := fnU_of5 (by kernel_rfl) (by kernel_rfl)
noncomputable def fu16 : Bf := cFnU inf und keyOk ext 100000 [] Tryz.f16
theorem q16 : fu16 = fn 16 := fnU_of5 (by kernel_rfl) (by kernel_rfl)
noncomputable def fu23 : Bf := cFnU inf und keyOk ext 100000 [] Tryz.f23
theorem q23 : fu23 = fn 23 := fnU_of5 (by kernel_rfl) (by kernel_rfl)
def hn27 : HintT := [(3, [⟨[0, 1, 2, 3, 4, 5, 6, 7, 8, 9, 10, 11, 12, 13, 14, 15, 16, 17], [0, 1, 2, 3, 4, 5, 6, 7, 8, 9, 10, 11, 12, 13, 14, 15, 16, 17], some 18⟩, ⟨[], [], none⟩])]
noncomputable def fu27 : Bf := cFnU inf und keyOk ext 100000 hn27 Tryz.f27
theorem q27 : fu27 = fn 27 := fnU_of5 (by kernel_rfl) (by kernel_rfl)
noncomputable def fu33 : Bf := cFnU inf und keyOk ext 100000 [] Tryz.f33
theorem q33 : fu33 = fn 33 := fnU_of5 (by kernel_rfl) (by kernel_rfl)
noncomputable def fu45 : Bf := cFnU inf und keyOk ext 100000 [] Tryz.f45
theorem q45 : fu45 = fn 45 := fnU_of5 (by kernel_rfl) (by kernel_rfl)
noncomputable def fu51 : Bf := cFnU inf und keyOk ext 100000 [] Tryz.f51
theorem q51 : fu51 = fn 51 := fnU_of5 (by kernel_rfl) (by kernel_rfl)
noncomputable def fu59 : Bf := cFnU inf und keyOk ext 100000 [] Tryz.f59
theorem q59 : fu59 = fn 59 := fnU_of5 (by kernel_rfl) (by kernel_rfl)
noncomputable def fu67 : Bf := cFnU inf und keyOk ext 100000 [] Tryz.f67
theorem q67 : fu67 = fn 67 := fnU_of5 (by kernel_rfl) (by kernel_rfl)
noncomputable def fu75 : Bf := cFnU inf und keyOk ext 100000 [] Tryz.f75
theorem q75 : fu75 = fn 75 := fnU_of5 (by kernel_rfl) (by kernel_rfl)
noncomputable def fu82 : Bf := cFnU inf und keyOk ext 100000 [] Tryz.f82
theorem q82 : fu82 = fn 82 := fnU_of5 (by kernel_rfl) (by kernel_rfl)
def hn85 : HintT := [(1, [⟨[0, 1, 2, 3, 4], [0, 1, 2, 3, 4], some 5⟩, ⟨[], [], none⟩])]
noncomputable def fu85 : Bf := cFnU inf und keyOk ext 100000 hn85 Tryz.f85
theorem q85 : fu85 = fn 85 := fnU_of5 (by kernel_rfl) (by kernel_rfl)
def hn87 : HintT := [(8, [⟨[0, 1, 2, 3, 4, 5, 6, 7, 8, 10], [0, 1, 2, 3, 4, 5, 6, 7, 8, 10], some 9⟩, ⟨[], [10], some 11⟩, ⟨[], [], none⟩]), (12, [⟨[0, 1, 2, 3, 4, 5, 6, 7, 8, 9, 11], [0, 1, 2, 3, 4, 5, 6, 7, 8, 9, 11], some 10⟩, ⟨[], [0, 11], some 12⟩, ⟨[], [], none⟩])]
noncomputable def fu87 : Bf := cFnU inf und keyOk ext 100000 hn87 Tryz.f87
theorem q87 : fu87 = fn 87 := fnU_of5 (by kernel_rfl) (by kernel_rfl)
noncomputable def fu91 : Bf := cFnU inf und keyOk ext 100000 [] Tryz.f91
theorem q91 : fu91 = fn 91 := fnU_of5 (by kernel_rfl) (by kernel_rfl)
noncomputable def fu115 : Bf := cFnU inf und keyOk ext 100000 [] Tryz.f115
theorem q115 : fu115 = fn 115 := fnU_of5 (by kernel_rfl) (by kernel_rfl)
noncomputable def fu131 : Bf := cFnU inf und keyOk ext 100000 [] Tryz.f131
theorem q131 : fu131 = fn 131 := fnU_of5 (by kernel_rfl) (by kernel_rfl)
def hn134 : HintT := [(2, [⟨[2, 3, 4, 6, 9], [2, 3, 4, 6, 9], some 0⟩, ⟨[], [2, 3, 4, 6, 9], some 1⟩, ⟨[], [2, 3, 4, 6, 9], some 5⟩, ⟨[], [2, 6, 9], some 7⟩, ⟨[8, 10, 11, 12], [9, 8, 10, 11, 12], none⟩])]
noncomputable def fu134 : Bf := cFnU inf und keyOk ext 100000 hn134 Tryz.f134
theorem q134 : fu134 = fn 134 := fnU_of5 (by kernel_rfl) (by kernel_rfl)
noncomputable def fu141 : Bf := cFnU inf und keyOk ext 100000 [] Tryz.f141
theorem q141 : fu141 = fn 141 := fnU_of5 (by kernel_rfl) (by kernel_rfl)
def hn142 : HintT := [(7, [⟨[0, 1, 2], [0, 1, 2], some 3⟩, ⟨[4], [0, 1, 4], some 5⟩, ⟨[6], [6], none⟩])]
noncomputable def fu142 : Bf := cFnU inf und keyOk ext 100000 hn142 Tryz.f142
theorem q142 : fu142 = fn 142 := fnU_of5 (by kernel_rfl) (by kernel_rfl)
noncomputable def fu150 : Bf := cFnU inf und keyOk ext 100000 [] Tryz.f150
theorem q150 : fu150 = fn 150 := fnU_of5 (by kernel_rfl) (by kernel_rfl)
noncomputable def fu162 : Bf := cFnU inf und keyOk ext 100000 [] Tryz.f162
theorem q162 : fu162 = fn 162 := fnU_of5 (by kernel_rfl) (by kernel_rfl)
noncomputable def fu171 : Bf := cFnU inf und keyOk ext 100000 [] Tryz.f171
theorem q171 : fu171 = fn 171 := fnU_of5 (by kernel_rfl) (by kernel_rfl)
def hn179 : HintT := [(8, [⟨[0, 1, 2, 3, 4, 5, 6], [0, 1, 2, 3, 4, 5, 6], some 7⟩, ⟨[8, 9], [0, 8, 9], some 10⟩, ⟨[], [], none⟩]), (13, [⟨[0, 1, 2, 3, 4, 5, 6, 7, 8, 9, 10, 11, 12], [0, 1, 2, 3, 4, 5, 6, 7, 8, 9, 10, 11, 12], none⟩]), (14, [⟨[0, 1, 2, 3, 4, 5, 6, 7, 8, 9, 10, 11, 12, 13], [0, 1, 2, 3, 4, 5, 6, 7, 8, 9, 10, 11, 12, 13], some 14⟩, ⟨[15, 16], [1, 2, 11, 15, 16], some 17⟩, ⟨[18, 19], [2, 11, 18, 19], some 20⟩, ⟨[], [], none⟩]), (19, [⟨[0, 1, 2, 3, 4, 5], [0, 1, 2, 3, 4, 5], some 6⟩, ⟨[7, 8], [1, 2, 3, 7, 8], some 9⟩, ⟨[], [], none⟩])]
noncomputable def fu179 : Bf := cFnU inf und keyOk ext 100000 hn179 Tryz.f179
theorem q179 : fu179 = fn 179 := fnU_of5 (by kernel_rfl) (by kernel_rfl)
noncomputable def fu186 : Bf := cFnU inf und keyOk ext 100000 [] Tryz.f186
theorem q186 : fu186 = fn 186 := fnU_of5 (by kernel_rfl) (by kernel_rfl)
def hn190 : HintT := [(3, [⟨[0, 1, 2, 3, 4, 10], [0, 1, 2, 3, 4, 10], some 5⟩, ⟨[6, 7, 8, 9], [0, 1, 2, 3, 10, 6, 7, 8, 9], some 11⟩, ⟨[12], [9, 12], none⟩])]
noncomputable def fu190 : Bf := cFnU inf und keyOk ext 100000 hn190 Tryz.f190
theorem q190 : fu190 = fn 190 := fnU_of5 (by kernel_rfl) (by kernel_rfl)
noncomputable def fu206 : Bf := cFnU inf und keyOk ext 100000 [] Tryz.f206
theorem q206 : fu206 = fn 206 := fnU_of5 (by kernel_rfl) (by kernel_rfl)
def hn219 : HintT := [(1, [⟨[0, 1, 2, 3, 5, 10], [0, 1, 2, 3, 5, 10], some 4⟩, ⟨[], [5, 10], some 6⟩, ⟨[7, 8, 9], [10, 7, 8, 9], some 11⟩, ⟨[12], [9, 12], none⟩]), (9, [⟨[0, 1, 2, 3, 4, 5, 6, 7], [0, 1, 2, 3, 4, 5, 6, 7], some 8⟩, ⟨[], [], none⟩]), (12, [⟨[0, 1, 2, 3, 4, 5, 6, 7, 8, 10, 11, 12], [0, 1, 2, 3, 4, 5, 6, 7, 8, 10, 11, 12], some 9⟩, ⟨[], [0, 1, 2, 3, 4, 10, 11, 12], some 13⟩, ⟨[], [0, 1, 2, 3, 4], some 14⟩, ⟨[], [0, 1], some 15⟩, ⟨[], [], none⟩]), (13, [⟨[0, 1, 2, 3, 4, 5], [0, 1, 2, 3, 4, 5], some 6⟩, ⟨[], [], none⟩])]
noncomputable def fu219 : Bf := cFnU inf und keyOk ext 100000 hn219 Tryz.f219
theorem q219 : fu219 = fn 219 := fnU_of5 (by kernel_rfl) (by kernel_rfl)
noncomputable def fu239 : Bf := cFnU inf und keyOk ext 100000 [] Tryz.f239
theorem q239 : fu239 = fn 239 := fnU_of5 (by kernel_rfl) (by kernel_rfl)
noncomputable def fu246 : Bf := cFnU inf und keyOk ext 100000 [] Tryz.f246
theorem q246 : fu246 = fn 246 := fnU_of5 (by kernel_rfl) (by kernel_rfl)
def hn253 : HintT := [(17, [⟨[0, 1, 2, 3, 4, 5, 6, 7, 8, 9, 10, 11], [0, 1, 2, 3, 4, 5, 6, 7, 8, 9, 10, 11], some 12⟩, ⟨[13, 14], [13, 14], none⟩])]
noncomputable def fu253 : Bf := cFnU inf und keyOk ext 100000 hn253 Tryz.f253
theorem q253 : fu253 = fn 253 := fnU_of5 (by kernel_rfl) (by kernel_rfl)
noncomputable def fu255 : Bf := cFnU inf und keyOk ext 100000 [] Tryz.f255
theorem q255 : fu255 = fn 255 := fnU_of5 (by kernel_rfl) (by kernel_rfl)
noncomputable def fu264 : Bf := cFnU inf und keyOk ext 100000 [] Tryz.f264
theorem q264 : fu264 = fn 264 := fnU_of5 (by kernel_rfl) (by kernel_rfl)
noncomputable def fu275 : Bf := cFnU inf und keyOk ext 100000 [] Tryz.f275
theorem q275 : fu275 = fn 275 := fnU_of5 (by kernel_rfl) (by kernel_rfl)
def hn282 : HintT := [(1, [⟨[0, 1, 2, 3, 4, 5], [0, 1, 2, 3, 4, 5], some 6⟩, ⟨[7, 8], [0, 1, 2, 3, 4, 7, 8], none⟩])]
noncomputable def fu282 : Bf := cFnU inf und keyOk ext 100000 hn282 Tryz.f282
theorem q282 : fu282 = fn 282 := fnU_of5 (by kernel_rfl) (by kernel_rfl)
noncomputable def fu288 : Bf := cFnU inf und keyOk ext 100000 [] Tryz.f288
theorem q288 : fu288 = fn 288 := fnU_of5 (by kernel_rfl) (by kernel_rfl)
def hn289 : HintT := [(3, [⟨[0, 1, 2, 3, 4, 5], [0, 1, 2, 3, 4, 5], some 6⟩, ⟨[7, 8, 9, 10, 11, 12], [0, 1, 2, 3, 7, 8, 9, 10, 11, 12], none⟩]), (5, [⟨[0, 1, 2, 3, 4, 5, 6, 7, 8, 9, 10], [0, 1, 2, 3, 4, 5, 6, 7, 8, 9, 10], none⟩]), (12, [⟨[0, 1, 2, 3, 4, 5, 6, 7, 8, 9, 10, 11, 12], [0, 1, 2, 3, 4, 5, 6, 7, 8, 9, 10, 11, 12], none⟩]), (15, [⟨[0, 1, 2, 3, 4, 5, 6, 7, 8, 9, 10, 11, 12], [0, 1, 2, 3, 4, 5, 6, 7, 8, 9, 10, 11, 12], none⟩])]
noncomputable def fu289 : Bf := cFnU inf und keyOk ext 100000 hn289 Tryz.f289
theorem q289 : fu289 = fn 289 := fnU_of5 (by kernel_rfl) (by kernel_rfl)
def hn298 : HintT := [(19, [⟨[0, 1, 2, 3, 4, 9], [0, 1, 2, 3, 4, 9], some 5⟩, ⟨[6, 7, 8], [9, 6, 7, 8], some 10⟩, ⟨[11], [8, 11], none⟩])]
noncomputable def fu298 : Bf := cFnU inf und keyOk ext 100000 hn298 Tryz.f298
theorem q298 : fu298 = fn 298 := fnU_of5 (by kernel_rfl) (by kernel_rfl)
noncomputable def fu302 : Bf := cFnU inf und keyOk ext 100000 [] Tryz.f302
theorem q302 : fu302 = fn 302 := fnU_of5 (by kernel_rfl) (by kernel_rfl)
noncomputable def fu311 : Bf := cFnU inf und keyOk ext 100000 [] Tryz.f311
theorem q311 : fu311 = fn 311 := fnU_of5 (by kernel_rfl) (by kernel_rfl)
noncomputable def fu327 : Bf := cFnU inf und keyOk ext 100000 [] Tryz.f327
theorem q327 : fu327 = fn 327 := fnU_of5 (by kernel_rfl) (by kernel_rfl)
def hn330 : HintT := [(2, [⟨[0, 1], [0, 1], some 2⟩, ⟨[], [0], some 3⟩, ⟨[], [], none⟩])]
noncomputable def fu330 : Bf := cFnU inf und keyOk ext 100000 hn330 Tryz.f330
theorem q330 : fu330 = fn 330 := fnU_of5 (by kernel_rfl) (by kernel_rfl)
noncomputable def fu339 : Bf := cFnU inf und keyOk ext 100000 [] Tryz.f339
theorem q339 : fu339 = fn 339 := fnU_of5 (by kernel_rfl) (by kernel_rfl)
def hn361 : HintT := [(3, [⟨[0, 1, 2, 3, 5, 6, 7, 8, 9, 10, 11, 12], [0, 1, 2, 3, 5, 6, 7, 8, 9, 10, 11, 12], some 4⟩, ⟨[13, 14, 15], [5, 6, 7, 8, 9, 10, 11, 12, 13, 14, 15], none⟩])]
noncomputable def fu361 : Bf := cFnU inf und keyOk ext 100000 hn361 Tryz.f361
theorem q361 : fu361 = fn 361 := fnU_of5 (by kernel_rfl) (by kernel_rfl)
noncomputable def fu365 : Bf := cFnU inf und keyOk ext 100000 [] Tryz.f365
theorem q365 : fu365 = fn 365 := fnU_of5 (by kernel_rfl) (by kernel_rfl)
def hn389 : HintT := [(5, [⟨[0, 1, 2, 3, 4, 5, 6, 7], [0, 1, 2, 3, 4, 5, 6, 7], none⟩]), (9, [⟨[0, 1, 2, 3, 4, 5, 6, 7, 8, 9], [0, 1, 2, 3, 4, 5, 6, 7, 8, 9], some 10⟩, ⟨[11], [8, 11], none⟩])]
noncomputable def fu389 : Bf := cFnU inf und keyOk ext 100000 hn389 Tryz.f389
theorem q389 : fu389 = fn 389 := fnU_of5 (by kernel_rfl) (by kernel_rfl)
noncomputable def fu395 : Bf := cFnU inf und keyOk ext 100000 [] Tryz.f395
theorem q395 : fu395 = fn 395 := fnU_of5 (by kernel_rfl) (by kernel_rfl)
def hn402 : HintT := [(5, [⟨[0, 1, 3, 4], [0, 1, 3, 4], some 2⟩, ⟨[6], [3, 4, 6], some 5⟩, ⟨[], [6], some 7⟩, ⟨[8], [8], some 9⟩, ⟨[], [], none⟩])]
noncomputable def fu402 : Bf := cFnU inf und keyOk ext 100000 hn402 Tryz.f402
theorem q402 : fu402 = fn 402 := fnU_of5 (by kernel_rfl) (by kernel_rfl)
def hn407 : HintT := [(6, [⟨[0, 1, 2, 3, 4, 5, 6, 7, 8], [0, 1, 2, 3, 4, 5, 6, 7, 8], none⟩])]
noncomputable def fu407 : Bf := cFnU inf und keyOk ext 100000 hn407 Tryz.f407
theorem q407 : fu407 = fn 407 := fnU_of5 (by kernel_rfl) (by kernel_rfl)
noncomputable def fu427 : Bf := cFnU inf und keyOk ext 100000 [] Tryz.f427
theorem q427 : fu427 = fn 427 := fnU_of5 (by kernel_rfl) (by kernel_rfl)
def hn436 : HintT := [(3, [⟨[0, 1, 2, 3, 4], [0, 1, 2, 3, 4], some 5⟩, ⟨[], [], none⟩]), (4, [⟨[0, 1, 2, 3, 4, 5, 6], [0, 1, 2, 3, 4, 5, 6], some 7⟩, ⟨[8, 9], [0, 8, 9], some 10⟩, ⟨[], [], none⟩])]
noncomputable def fu436 : Bf := cFnU inf und keyOk ext 100000 hn436 Tryz.f436
theorem q436 : fu436 = fn 436 := fnU_of5 (by kernel_rfl) (by kernel_rfl)
noncomputable def fu441 : Bf := cFnU inf und keyOk ext 100000 [] Tryz.f441
theorem q441 : fu441 = fn 441 := fnU_of5 (by kernel_rfl) (by kernel_rfl)
noncomputable def fu447 : Bf := cFnU inf und keyOk ext 100000 [] Tryz.f447
theorem q447 : fu447 = fn 447 := fnU_of5 (by kernel_rfl) (by kernel_rfl)
noncomputable def fu461 : Bf := cFnU inf und keyOk ext 100000 [] Tryz.f461
theorem q461 : fu461 = fn 461 := fnU_of5 (by kernel_rfl) (by kernel_rfl)
noncomputable def fu483 : Bf := cFnU inf und keyOk ext 100000 [] Tryz.f483
theorem q483 : fu483 = fn 483 := fnU_of5 (by kernel_rfl) (by kernel_rfl)
noncomputable def fu503 : Bf := cFnU inf und keyOk ext 100000 [] Tryz.f503
theorem q503 : fu503 = fn 503 := fnU_of5 (by kernel_rfl) (by kernel_rfl)
def hn507 : HintT := [(3, [⟨[0, 1, 2, 3, 4, 5, 6, 7, 8, 9, 10], [0, 1, 2, 3, 4, 5, 6, 7, 8, 9, 10], none⟩])]
noncomputable def fu507 : Bf := cFnU inf und keyOk ext 100000 hn507 Tryz.f507
theorem q507 : fu507 = fn 507 := fnU_of5 (by kernel_rfl) (by kernel_rfl)
noncomputable def fu532 : Bf := cFnU inf und keyOk ext 100000 [] Tryz.f532
theorem q532 : fu532 = fn 532 := fnU_of5 (by kernel_rfl) (by kernel_rfl)
noncomputable def fu541 : Bf := cFnU inf und keyOk ext 100000 [] Tryz.f541
theorem q541 : fu541 = fn 541 := fnU_of5 (by kernel_rfl) (by kernel_rfl)
noncomputable def fu574 : Bf := cFnU inf und keyOk ext 100000 [] Tryz.f574
theorem q574 : fu574 = fn 574 := fnU_of5 (by kernel_rfl) (by kernel_rfl)
noncomputable def fu583 : Bf := cFnU inf und keyOk ext 100000 [] Tryz.f583
theorem q583 : fu583 = fn 583 := fnU_of5 (by kernel_rfl) (by kernel_rfl)
noncomputable def fu601 : Bf := cFnU inf und keyOk ext 100000 [] Tryz.f601
theorem q601 : fu601 = fn 601 := fnU_of5 (by kernel_rfl) (by kernel_rfl)
noncomputable def fu616 : Bf := cFnU inf und keyOk ext 100000 [] Tryz.f616
theorem q616 : fu616 = fn 616 := fnU_of5 (by kernel_rfl) (by kernel_rfl)
noncomputable def fu641 : Bf := cFnU inf und keyOk ext 100000 [] Tryz.f641
theorem q641 : fu641 = fn 641 := fnU_of5 (by kernel_rfl) (by kernel_rfl)
def hn666 : HintT := [(12, [⟨[0, 1, 2, 3, 4, 5, 6, 7, 8, 9, 10, 11, 12], [0, 1, 2, 3, 4, 5, 6, 7, 8, 9, 10, 11, 12], some 13⟩, ⟨[], [], none⟩]), (13, [⟨[0, 1, 3], [0, 1, 3], some 2⟩, ⟨[4, 5], [0, 3, 4, 5], some 6⟩, ⟨[7], [3, 4, 5, 7], none⟩])]
noncomputable def fu666 : Bf := cFnU inf und keyOk ext 100000 hn666 Tryz.f666
theorem q666 : fu666 = fn 666 := fnU_of5 (by kernel_rfl) (by kernel_rfl)
noncomputable def fu680 : Bf := cFnU inf und keyOk ext 100000 [] Tryz.f680
theorem q680 : fu680 = fn 680 := fnU_of5 (by kernel_rfl) (by kernel_rfl)
def hn681 : HintT := [(4, [⟨[0, 1, 2, 3, 4, 5, 6, 7, 8, 9, 10], [0, 1, 2, 3, 4, 5, 6, 7, 8, 9, 10], some 11⟩, ⟨[12], [12], none⟩]), (32, [⟨[0, 1, 2, 3, 4], [0, 1, 2, 3, 4], some 5⟩, ⟨[], [], none⟩]), (33, [⟨[0, 1, 2, 3, 4, 5, 6, 7, 8, 9, 10, 11, 12, 13, 14, 15], [0, 1, 2, 3, 4, 5, 6, 7, 8, 9, 10, 11, 12, 13, 14, 15], some 16⟩, ⟨[], [], none⟩])]
noncomputable def fu681 : Bf := cFnU inf und keyOk ext 100000 hn681 Tryz.f681
theorem q681 : fu681 = fn 681 := fnU_of5 (by kernel_rfl) (by kernel_rfl)
def hn729 : HintT := [(1, [⟨[0, 1, 2, 3, 4, 5], [0, 1, 2, 3, 4, 5], none⟩]), (3, [⟨[0, 1, 2, 3, 4, 5, 6, 7, 8, 9], [0, 1, 2, 3, 4, 5, 6, 7, 8, 9], some 10⟩, ⟨[11], [8, 11], none⟩]), (6, [⟨[0, 1, 2, 3, 4, 5, 6, 7, 8, 9, 10, 11, 12], [0, 1, 2, 3, 4, 5, 6, 7, 8, 9, 10, 11, 12], some 13⟩, ⟨[14], [11, 14], none⟩])]
noncomputable def fu729 : Bf := cFnU inf und keyOk ext 100000 hn729 Tryz.f729
theorem q729 : fu729 = fn 729 := fnU_of5 (by kernel_rfl) (by kernel_rfl)
end Ev
end Go.Proofs.YtbkeeghkpkfeiaaGreatDoor
