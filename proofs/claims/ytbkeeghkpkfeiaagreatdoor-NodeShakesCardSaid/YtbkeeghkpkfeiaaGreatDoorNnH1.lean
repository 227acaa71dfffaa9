/- Functions compiled with given orders: part 1. -/
import Derived.Test.YtbkeeghkpkfeiaaGreatDoorNsI
import Derived.Test.YtbkeeghkpkfeiaaGreatDoorNsK
namespace Go.Proofs.YtbkeeghkpkfeiaaGreatDoor
set_option linter.unusedVariables false
set_option linter.unusedSimpArgs false
open Go.RowKit Go.Maps
namespace Ev
theorem fnU_of1 {n : Nat} {F : Func} {hp : HintT} (h1 : Tryz.prog.funcs[n]? = some F) (h2 : chkF inf und keyOk ext hp F = true) : cFnU inf und keyOk ext 100000 hp F = fn n := by
  unfold fn; rw [h1]; exact cFnU_eq h2
def hn3 : HintT := [(17, [⟨[0, 1, 2, 3, 4, 5, 6, 7, 8, 9, 10, 11, 12, 13, 14, 15, 16, 17, 18, 19, 20, 21, 22, 23, 24, 25, 26, 27, 28, 29, 30, 31, 32, 33, 34, 35, 36, 37, 38, 39, 40, 41, 42], [0, 1, 2, 3, 4, 5, 6, 7, 8, 9, 10, 11, 12, 13, 14, 15, 16, 17, 18, 19, 20, 21, 22, 23, 24, 25, 26, 27, 28, 29, 30, 31, 32, 33, 34, 35, 36, 37, 38, 39, 40, 41, 42], some 43⟩, ⟨[44, 45, 46, 47, 48, 49, 50, 51, 52, 53, 54, 55, 56, 57, 58, 59], [40, 41, 42, 44, 45, 46, 47, 48, 49, 50, 51, 52, 53, 54, 55, 56, 57, 58, 59], none⟩])]
noncomputable def fu3 : Bf := cFnU inf und keyOk ext 100000 hn3 Tryz.f3
theorem q3 : fu3 = fn 3 := fnU_of1 (by kernel_rfl) (by kernel_rfl)
noncomputable def fu18 : Bf := cFnU inf und keyOk ext 100000 [] Tryz.f18
theorem q18 : fu18 = fn 18 := fnU_of1 (by kernel_rfl) (by kernel_rfl)
noncomputable def fu24 : Bf := cFnU inf und keyOk ext 100000 [] Tryz.f24
theorem q24 : fu24 = fn 24 := fnU_of1 (by kernel_rfl) (by kernel_rfl)
def hn30 : HintT := [(10, [⟨[0, 2, 3], [0, 2, 3], some 1⟩, ⟨[4], [2, 3, 4], none⟩]), (12, [⟨[0, 1, 2, 3, 4, 5, 6, 7], [0, 1, 2, 3, 4, 5, 6, 7], some 8⟩, ⟨[9, 10], [4, 5, 6, 7, 9, 10], none⟩])]
noncomputable def fu30 : Bf := cFnU inf und keyOk ext 100000 hn30 Tryz.f30
theorem q30 : fu30 = fn 30 := fnU_of1 (by kernel_rfl) (by kernel_rfl)
noncomputable def fu34 : Bf := cFnU inf und keyOk ext 100000 [] Tryz.f34
theorem q34 : fu34 = fn 34 := fnU_of1 (by kernel_rfl) (by kernel_rfl)
def hn35 : HintT := [(5, [⟨[0, 1, 2, 3, 4, 5, 6, 7, 8], [0, 1, 2, 3, 4, 5, 6, 7, 8], some 9⟩, ⟨[], [0, 1, 2, 3, 4, 5, 6, 7], some 10⟩, ⟨[], [], none⟩]), (7, [⟨[0, 1, 2, 3, 4, 5, 6, 7, 8, 9, 10], [0, 1, 2, 3, 4, 5, 6, 7, 8, 9, 10], some 11⟩, ⟨[], [0, 1, 2, 3, 4, 5, 6, 7, 8, 9], some 12⟩, ⟨[], [0, 1, 2, 3, 4, 5, 6, 7, 8], some 13⟩, ⟨[], [], none⟩])]
noncomputable def fu35 : Bf := cFnU inf und keyOk ext 100000 hn35 Tryz.f35
theorem q35 : fu35 = fn 35 := fnU_of1 (by kernel_rfl) (by kernel_rfl)
noncomputable def fu46 : Bf := cFnU inf und keyOk ext 100000 [] Tryz.f46
theorem q46 : fu46 = fn 46 := fnU_of1 (by kernel_rfl) (by kernel_rfl)
noncomputable def fu52 : Bf := cFnU inf und keyOk ext 100000 [] Tryz.f52
theorem q52 : fu52 = fn 52 := fnU_of1 (by kernel_rfl) (by kernel_rfl)
def hn55 : HintT := [(20, [⟨[0, 1, 2], [0, 1, 2], some 3⟩, ⟨[4], [4], none⟩])]
noncomputable def fu55 : Bf := cFnU inf und keyOk ext 100000 hn55 Tryz.f55
theorem q55 : fu55 = fn 55 := fnU_of1 (by kernel_rfl) (by kernel_rfl)
noncomputable def fu60 : Bf := cFnU inf und keyOk ext 100000 [] Tryz.f60
theorem q60 : fu60 = fn 60 := fnU_of1 (by kernel_rfl) (by kernel_rfl)
noncomputable def fu68 : Bf := cFnU inf und keyOk ext 100000 [] Tryz.f68
theorem q68 : fu68 = fn 68 := fnU_of1 (by kernel_rfl) (by kernel_rfl)
def hn72 : HintT := [(4, [⟨[0, 1, 2, 3, 4, 5, 7], [0, 1, 2, 3, 4, 5, 7], some 6⟩, ⟨[8], [0, 1, 2, 3, 7, 8], some 9⟩, ⟨[10, 11, 12, 13, 14], [10, 11, 12, 13, 14], none⟩])]
noncomputable def fu72 : Bf := cFnU inf und keyOk ext 100000 hn72 Tryz.f72
theorem q72 : fu72 = fn 72 := fnU_of1 (by kernel_rfl) (by kernel_rfl)
noncomputable def fu76 : Bf := cFnU inf und keyOk ext 100000 [] Tryz.f76
theorem q76 : fu76 = fn 76 := fnU_of1 (by kernel_rfl) (by kernel_rfl)
noncomputable def fu84 : Bf := cFnU inf und keyOk ext 100000 [] Tryz.f84
theorem q84 : fu84 = fn 84 := fnU_of1 (by kernel_rfl) (by kernel_rfl)
noncomputable def fu92 : Bf := cFnU inf und keyOk ext 100000 [] Tryz.f92
theorem q92 : fu92 = fn 92 := fnU_of1 (by kernel_rfl) (by kernel_rfl)
noncomputable def fu118 : Bf := cFnU inf und keyOk ext 100000 [] Tryz.f118
theorem q118 : fu118 = fn 118 := fnU_of1 (by kernel_rfl) (by kernel_rfl)
noncomputable def fu132 : Bf := cFnU inf und keyOk ext 100000 [] Tryz.f132
theorem q132 : fu132 = fn 132 := fnU_of1 (by kernel_rfl) (by kernel_rfl)
noncomputable def fu143 : Bf := cFnU inf und keyOk ext 100000 [] Tryz.f143
theorem q143 : fu143 = fn 143 := fnU_of1 (by kernel_rfl) (by kernel_rfl)
def hn154 : HintT := [(8, [⟨[0, 1, 2, 3, 4, 5, 6], [0, 1, 2, 3, 4, 5, 6], none⟩]), (15, [⟨[0, 1, 2, 3, 4, 5, 6, 7, 8], [0, 1, 2, 3, 4, 5, 6, 7, 8], some 9⟩, ⟨[10, 11], [0, 10, 11], some 12⟩, ⟨[], [], none⟩])]
noncomputable def fu154 : Bf := cFnU inf und keyOk ext 100000 hn154 Tryz.f154
theorem q154 : fu154 = fn 154 := fnU_of1 (by kernel_rfl) (by kernel_rfl)
noncomputable def fu155 : Bf := cFnU inf und keyOk ext 100000 [] Tryz.f155
theorem q155 : fu155 = fn 155 := fnU_of1 (by kernel_rfl) (by kernel_rfl)
noncomputable def fu163 : Bf := cFnU inf und keyOk ext 100000 [] Tryz.f163
theorem q163 : fu163 = fn 163 := fnU_of1 (by kernel_rfl) (by kernel_rfl)
noncomputable def fu174 : Bf := cFnU inf und keyOk ext 100000 [] Tryz.f174
theorem q174 : fu174 = fn 174 := fnU_of1 (by kernel_rfl) (by kernel_rfl)
noncomputable def fu187 : Bf := cFnU inf und keyOk ext 100000 [] Tryz.f187
theorem q187 : fu187 = fn 187 := fnU_of1 (by kernel_rfl) (by kernel_rfl)
noncomputable def fu208 : Bf := cFnU inf und keyOk ext 100000 [] Tryz.f208
theorem q208 : fu208 = fn 208 := fnU_of1 (by kernel_rfl) (by kernel_rfl)
def hn227 : HintT := [(3, [⟨[0, 1, 2, 3, 4, 5], [0, 1, 2, 3, 4, 5], some 6⟩, ⟨[], [], some 7⟩, ⟨[8], [8], none⟩])]
noncomputable def fu227 : Bf := cFnU inf und keyOk ext 100000 hn227 Tryz.f227
theorem q227 : fu227 = fn 227 := fnU_of1 (by kernel_rfl) (by kernel_rfl)
noncomputable def fu240 : Bf := cFnU inf und keyOk ext 100000 [] Tryz.f240
theorem q240 : fu240 = fn 240 := fnU_of1 (by kernel_rfl) (by kernel_rfl)
noncomputable def fu247 : Bf := cFnU inf und keyOk ext 100000 [] Tryz.f247
theorem q247 : fu247 = fn 247 := fnU_of1 (by kernel_rfl) (by kernel_rfl)
noncomputable def fu257 : Bf := cFnU inf und keyOk ext 100000 [] Tryz.f257
theorem q257 : fu257 = fn 257 := fnU_of1 (by kernel_rfl) (by kernel_rfl)
noncomputable def fu265 : Bf := cFnU inf und keyOk ext 100000 [] Tryz.f265
theorem q265 : fu265 = fn 265 := fnU_of1 (by kernel_rfl) (by kernel_rfl)
noncomputable def fu278 : Bf := cFnU inf und keyOk ext 100000 [] Tryz.f278
theorem q278 : fu278 = fn 278 := fnU_of1 (by kernel_rfl) (by kernel_rfl)
noncomputable def fu290 : Bf := cFnU inf und keyOk ext 100000 [] Tryz.f290
theorem q290 : fu290 = fn 290 := fnU_of1 (by kernel_rfl) (by kernel_rfl)
def hn292 : HintT := [(6, [⟨[0, 1, 2], [0, 1, 2], some 3⟩, ⟨[4], [0, 1, 4], some 5⟩, ⟨[6], [6], some 7⟩, ⟨[], [], none⟩])]
noncomputable def fu292 : Bf := cFnU inf und keyOk ext 100000 hn292 Tryz.f292
theorem q292 : fu292 = fn 292 := fnU_of1 (by kernel_rfl) (by kernel_rfl)
noncomputable def fu304 : Bf := cFnU inf und keyOk ext 100000 [] Tryz.f304
theorem q304 : fu304 = fn 304 := fnU_of1 (by kernel_rfl) (by kernel_rfl)
def hn313 : HintT := [(4, [⟨[0, 1, 2, 3, 4, 5, 6, 7, 8, 9, 10, 14], [0, 1, 2, 3, 4, 5, 6, 7, 8, 9, 10, 14], some 11⟩, ⟨[12, 13], [0, 1, 2, 3, 14, 12, 13], some 15⟩, ⟨[], [], none⟩])]
noncomputable def fu313 : Bf := cFnU inf und keyOk ext 100000 hn313 Tryz.f313
theorem q313 : fu313 = fn 313 := fnU_of1 (by kernel_rfl) (by kernel_rfl)
noncomputable def fu317 : Bf := cFnU inf und keyOk ext 100000 [] Tryz.f317
theorem q317 : fu317 = fn 317 := fnU_of1 (by kernel_rfl) (by kernel_rfl)
def hn321 : HintT := [(9, [⟨[0, 1, 2, 3, 4, 5, 6, 7, 8], [0, 1, 2, 3, 4, 5, 6, 7, 8], some 9⟩, ⟨[], [], none⟩])]
noncomputable def fu321 : Bf := cFnU inf und keyOk ext 100000 hn321 Tryz.f321
theorem q321 : fu321 = fn 321 := fnU_of1 (by kernel_rfl) (by kernel_rfl)
noncomputable def fu328 : Bf := cFnU inf und keyOk ext 100000 [] Tryz.f328
theorem q328 : fu328 = fn 328 := fnU_of1 (by kernel_rfl) (by kernel_rfl)
def hn341 : HintT := [(3, [⟨[0, 1, 2, 3, 4, 5, 6, 7, 8, 9, 12, 13, 14, 15, 16, 17, 18], [0, 1, 2, 3, 4, 5, 6, 7, 8, 9, 12, 13, 14, 15, 16, 17, 18], some 10⟩, ⟨[11, 19, 20], [0, 1, 2, 3, 12, 13, 14, 15, 16, 17, 18, 11, 19, 20], none⟩])]
noncomputable def fu341 : Bf := cFnU inf und keyOk ext 100000 hn341 Tryz.f341
theorem q341 : fu341 = fn 341 := fnU_of1 (by kernel_rfl) (by kernel_rfl)
noncomputable def fu342 : Bf := cFnU inf und keyOk ext 100000 [] Tryz.f342
theorem q342 : fu342 = fn 342 := fnU_of1 (by kernel_rfl) (by kernel_rfl)
def hn351 : HintT := [(4, [⟨[0, 1, 2, 3, 4, 5, 6], [0, 1, 2, 3, 4, 5, 6], some 7⟩, ⟨[8, 9, 10, 11], [0, 1, 2, 3, 8, 9, 10, 11], some 12⟩, ⟨[13], [13], none⟩])]
noncomputable def fu351 : Bf := cFnU inf und keyOk ext 100000 hn351 Tryz.f351
theorem q351 : fu351 = fn 351 := fnU_of1 (by kernel_rfl) (by kernel_rfl)
def hn354 : HintT := [(1, [⟨[0, 1, 2, 3, 4, 10], [0, 1, 2, 3, 4, 10], some 5⟩, ⟨[], [0, 1, 2, 3, 10], some 6⟩, ⟨[7, 8, 9], [10, 7, 8, 9], some 11⟩, ⟨[12], [9, 12], none⟩])]
noncomputable def fu354 : Bf := cFnU inf und keyOk ext 100000 hn354 Tryz.f354
theorem q354 : fu354 = fn 354 := fnU_of1 (by kernel_rfl) (by kernel_rfl)
noncomputable def fu368 : Bf := cFnU inf und keyOk ext 100000 [] Tryz.f368
theorem q368 : fu368 = fn 368 := fnU_of1 (by kernel_rfl) (by kernel_rfl)
def hn388 : HintT := [(21, [⟨[0, 1, 2, 3, 4, 5, 6, 7, 8, 9], [0, 1, 2, 3, 4, 5, 6, 7, 8, 9], some 10⟩, ⟨[11], [8, 11], none⟩])]
noncomputable def fu388 : Bf := cFnU inf und keyOk ext 100000 hn388 Tryz.f388
theorem q388 : fu388 = fn 388 := fnU_of1 (by kernel_rfl) (by kernel_rfl)
def hn406 : HintT := [(6, [⟨[0, 1, 2, 3, 4, 5, 6, 7, 8], [0, 1, 2, 3, 4, 5, 6, 7, 8], none⟩])]
noncomputable def fu406 : Bf := cFnU inf und keyOk ext 100000 hn406 Tryz.f406
theorem q406 : fu406 = fn 406 := fnU_of1 (by kernel_rfl) (by kernel_rfl)
noncomputable def fu411 : Bf := cFnU inf und keyOk ext 100000 [] Tryz.f411
theorem q411 : fu411 = fn 411 := fnU_of1 (by kernel_rfl) (by kernel_rfl)
def hn431 : HintT := [(3, [⟨[0, 1], [0, 1], some 2⟩, ⟨[3], [3], none⟩])]
noncomputable def fu431 : Bf := cFnU inf und keyOk ext 100000 hn431 Tryz.f431
theorem q431 : fu431 = fn 431 := fnU_of1 (by kernel_rfl) (by kernel_rfl)
noncomputable def fu432 : Bf := cFnU inf und keyOk ext 100000 [] Tryz.f432
theorem q432 : fu432 = fn 432 := fnU_of1 (by kernel_rfl) (by kernel_rfl)
noncomputable def fu442 : Bf := cFnU inf und keyOk ext 100000 [] Tryz.f442
theorem q442 : fu442 = fn 442 := fnU_of1 (by kernel_rfl) (by kernel_rfl)
noncomputable def fu448 : Bf := cFnU inf und keyOk ext 100000 [] Tryz.f448
theorem q448 : fu448 = fn 448 := fnU_of1 (by kernel_rfl) (by kernel_rfl)
noncomputable def fu462 : Bf := cFnU inf und keyOk ext 100000 [] Tryz.f462
theorem q462 : fu462 = fn 462 := fnU_of1 (by kernel_rfl) (by kernel_rfl)
def hn472 : HintT := [(7, [⟨[0, 1, 2, 3, 4, 5, 6, 7], [0, 1, 2, 3, 4, 5, 6, 7], some 8⟩, ⟨[], [], none⟩]), (11, [⟨[0, 1, 2, 3, 4], [0, 1, 2, 3, 4], some 5⟩, ⟨[], [], none⟩])]
noncomputable def fu472 : Bf := cFnU inf und keyOk ext 100000 hn472 Tryz.f472
theorem q472 : fu472 = fn 472 := fnU_of1 (by kernel_rfl) (by kernel_rfl)
def hn485 : HintT := [(2, [⟨[0, 1, 2, 3, 4, 5, 6, 7, 8], [0, 1, 2, 3, 4, 5, 6, 7, 8], some 9⟩, ⟨[10, 11, 12], [10, 11, 12], some 13⟩, ⟨[], [12], some 14⟩, ⟨[15, 16], [15, 16], none⟩])]
noncomputable def fu485 : Bf := cFnU inf und keyOk ext 100000 hn485 Tryz.f485
theorem q485 : fu485 = fn 485 := fnU_of1 (by kernel_rfl) (by kernel_rfl)
noncomputable def fu489 : Bf := cFnU inf und keyOk ext 100000 [] Tryz.f489
theorem q489 : fu489 = fn 489 := fnU_of1 (by kernel_rfl) (by kernel_rfl)
noncomputable def fu504 : Bf := cFnU inf und keyOk ext 100000 [] Tryz.f504
theorem q504 : fu504 = fn 504 := fnU_of1 (by kernel_rfl) (by kernel_rfl)
noncomputable def fu535 : Bf := cFnU inf und keyOk ext 100000 [] Tryz.f535
theorem q535 : fu535 = fn 535 := fnU_of1 (by kernel_rfl) (by kernel_rfl)
noncomputable def fu543 : Bf := cFnU inf und keyOk ext 100000 [] Tryz.f543
theorem q543 : fu543 = fn 543 := fnU_of1 (by kernel_rfl) (by kernel_rfl)
noncomputable def fu575 : Bf := cFnU inf und keyOk ext 100000 [] Tryz.f575
theorem q575 : fu575 = fn 575 := fnU_of1 (by kernel_rfl) (by kernel_rfl)
noncomputable def fu588 : Bf := cFnU inf und keyOk ext 100000 [] Tryz.f588
theorem q588 : fu588 = fn 588 := fnU_of1 (by kernel_rfl) (by kernel_rfl)
def hn597 : HintT := [(9, [⟨[0, 1, 2, 3, 4, 5, 6, 7, 8, 9, 10, 11, 12, 13, 14, 15, 16], [0, 1, 2, 3, 4, 5, 6, 7, 8, 9, 10, 11, 12, 13, 14, 15, 16], none⟩]), (16, [⟨[0, 1, 2, 3, 4, 5, 6, 7, 8, 9], [0, 1, 2, 3, 4, 5, 6, 7, 8, 9], none⟩])]
noncomputable def fu597 : Bf := cFnU inf und keyOk ext 100000 hn597 Tryz.f597
theorem q597 : fu597 = fn 597 := fnU_of1 (by kernel_rfl) (by kernel_rfl)
noncomputable def fu602 : Bf := cFnU inf und keyOk ext 100000 [] Tryz.f602
theorem q602 : fu602 = fn 602 := fnU_of1 (by kernel_rfl) (by kernel_rfl)
noncomputable def fu618 : Bf := cFnU inf und keyOk ext 100000 [] Tryz.f618
theorem q618 : fu618 = fn 618 := fnU_of1 (by kernel_rfl) (by kernel_rfl)
noncomputable def fu650 : Bf := cFnU inf und keyOk ext 100000 [] Tryz.f650
theorem q650 : fu650 = fn 650 := fnU_of1 (by kernel_rfl) (by kernel_rfl)
noncomputable def fu688 : Bf := cFnU inf und keyOk ext 100000 [] Tryz.f688
theorem q688 : fu688 = fn 688 := fnU_of1 (by kernel_rfl) (by kernel_rfl)
end Ev
end Go.Proofs.YtbkeeghkpkfeiaaGreatDoor
