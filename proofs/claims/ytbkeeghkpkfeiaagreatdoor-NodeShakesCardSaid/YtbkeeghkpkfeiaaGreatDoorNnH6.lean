/- Functions compiled with given orders: part 6. -/
import Derived.Test.YtbkeeghkpkfeiaaGreatDoorNsI
import Derived.Test.YtbkeeghkpkfeiaaGreatDoorNsK
namespace Go.Proofs.YtbkeeghkpkfeiaaGreatDoor
set_option linter.unusedVariables false
set_option linter.unusedSimpArgs false
open Go.RowKit Go.Maps
namespace Ev
theorem fnU_of6 {n : Nat} {F : Func} {hp : HintT} (h1 : Tryz.prog.funcs[n]? = some F) (h2 : chkF inf und keyOk ext hp F = true) : cFnU inf und keyOk ext 100000 hp F = fn n := by
  unfold fn; rw [h1]; exact cFnU_eq h2
noncomputable def fu4 : Bf := cFnU inf und keyOk ext 100000 [] Tryz.f4
theorem q4 : fu4 = fn 4 := fnU_of6 (by kernel_rfl) (by kernel_rfl)
def hn8 : HintT := [(8, [⟨[0, 1, 3, 4, 10], [0, 1, 3, 4, 10], some 2⟩, ⟨[], [3, 4, 10], some 5⟩, ⟨[6, 7, 8, 9], [10, 6, 7, 8, 9], some 11⟩, ⟨[12, 13], [8, 9, 12, 13], none⟩])]
noncomputable def fu8 : Bf := cFnU inf und keyOk ext 100000 hn8 Tryz.f8
theorem q8 : fu8 = fn 8 := fnU_of6 (by kernel_rfl) (by kernel_rfl)
noncomputable def fu11 : Bf := cFnU inf und keyOk ext 100000 [] Tryz.f11
theorem q11 : fu11 = fn 11 := fnU_of6 (by kernel_rfl) (by kernel_rfl)
def hn15 : HintT := [(5, [⟨[0, 1, 2, 3, 4, 5, 6, 7, 8, 10, 11, 12, 13, 16, 17, 18, 19, 22, 23, 24, 25, 27], [0, 1, 2, 3, 4, 5, 6, 7, 8, 10, 11, 12, 13, 16, 17, 18, 19, 22, 23, 24, 25, 27], some 9⟩, ⟨[], [10, 11, 12, 13, 16, 17, 18, 19, 22, 23, 24, 25, 27], some 14⟩, ⟨[15], [16, 17, 18, 19, 22, 23, 24, 25, 27, 15], some 20⟩, ⟨[21, 26], [22, 23, 24, 25, 27, 15, 21, 26], some 28⟩, ⟨[], [], none⟩])]
noncomputable def fu15 : Bf := cFnU inf und keyOk ext 100000 hn15 Tryz.f15
theorem q15 : fu15 = fn 15 := fnU_of6 (by kernel_rfl) (by kernel_rfl)
noncomputable def fu19 : Bf := cFnU inf und keyOk ext 100000 [] Tryz.f19
theorem q19 : fu19 = fn 19 := fnU_of6 (by kernel_rfl) (by kernel_rfl)
noncomputable def fu25 : Bf := cFnU inf und keyOk ext 100000 [] Tryz.f25
theorem q25 : fu25 = fn 25 := fnU_of6 (by kernel_rfl) (by kernel_rfl)
def hn26 : HintT := [(6, [⟨[0, 1, 2, 3, 5, 6, 7], [0, 1, 2, 3, 5, 6, 7], some 4⟩, ⟨[8, 9, 10], [0, 1, 2, 5, 6, 7, 8, 9, 10], none⟩])]
noncomputable def fu26 : Bf := cFnU inf und keyOk ext 100000 hn26 Tryz.f26
theorem q26 : fu26 = fn 26 := fnU_of6 (by kernel_rfl) (by kernel_rfl)
noncomputable def fu39 : Bf := cFnU inf und keyOk ext 100000 [] Tryz.f39
theorem q39 : fu39 = fn 39 := fnU_of6 (by kernel_rfl) (by kernel_rfl)
def hn40 : HintT := [(7, [⟨[0, 1, 2, 3, 4, 5, 6], [0, 1, 2, 3, 4, 5, 6], some 7⟩, ⟨[8], [0, 1, 2, 8], some 9⟩, ⟨[], [], none⟩])]
noncomputable def fu40 : Bf := cFnU inf und keyOk ext 100000 hn40 Tryz.f40
theorem q40 : fu40 = fn 40 := fnU_of6 (by kernel_rfl) (by kernel_rfl)
noncomputable def fu47 : Bf := cFnU inf und keyOk ext 100000 [] Tryz.f47
theorem q47 : fu47 = fn 47 := fnU_of6 (by kernel_rfl) (by kernel_rfl)
noncomputable def fu54 : Bf := cFnU inf und keyOk ext 100000 [] Tryz.f54
theorem q54 : fu54 = fn 54 := fnU_of6 (by kernel_rfl) (by kernel_rfl)
def hn61 : HintT := [(16, [⟨[0, 1, 2, 3, 4, 5, 6, 7, 8, 9, 10], [0, 1, 2, 3, 4, 5, 6, 7, 8, 9, 10], some 11⟩, ⟨[], [], none⟩])]
noncomputable def fu61 : Bf := cFnU inf und keyOk ext 100000 hn61 Tryz.f61
theorem q61 : fu61 = fn 61 := fnU_of6 (by kernel_rfl) (by kernel_rfl)
noncomputable def fu63 : Bf := cFnU inf und keyOk ext 100000 [] Tryz.f63
theorem q63 : fu63 = fn 63 := fnU_of6 (by kernel_rfl) (by kernel_rfl)
noncomputable def fu69 : Bf := cFnU inf und keyOk ext 100000 [] Tryz.f69
theorem q69 : fu69 = fn 69 := fnU_of6 (by kernel_rfl) (by kernel_rfl)
noncomputable def fu77 : Bf := cFnU inf und keyOk ext 100000 [] Tryz.f77
theorem q77 : fu77 = fn 77 := fnU_of6 (by kernel_rfl) (by kernel_rfl)
noncomputable def fu86 : Bf := cFnU inf und keyOk ext 100000 [] Tryz.f86
theorem q86 : fu86 = fn 86 := fnU_of6 (by kernel_rfl) (by kernel_rfl)
noncomputable def fu109 : Bf := cFnU inf und keyOk ext 100000 [] Tryz.f109
theorem q109 : fu109 = fn 109 := fnU_of6 (by kernel_rfl) (by kernel_rfl)
def hn111 : HintT := [(13, [⟨[0, 1, 2, 3, 4, 5, 6, 7, 8, 9, 10, 11], [0, 1, 2, 3, 4, 5, 6, 7, 8, 9, 10, 11], some 12⟩, ⟨[], [], some 13⟩, ⟨[14, 15, 16, 17, 18], [14, 15, 16, 17, 18], some 19⟩, ⟨[20, 21, 22, 23, 24], [20, 21, 22, 23, 24], some 25⟩, ⟨[], [23], some 26⟩, ⟨[27, 28, 29], [27, 28, 29], none⟩])]
noncomputable def fu111 : Bf := cFnU inf und keyOk ext 100000 hn111 Tryz.f111
theorem q111 : fu111 = fn 111 := fnU_of6 (by kernel_rfl) (by kernel_rfl)
def hn120 : HintT := [(3, [⟨[0, 1, 2, 3, 5, 6, 7, 8, 10, 11, 12, 13], [0, 1, 2, 3, 5, 6, 7, 8, 10, 11, 12, 13], some 4⟩, ⟨[], [5, 6, 7, 8, 10, 11, 12, 13], some 9⟩, ⟨[14, 15, 16], [10, 11, 12, 13, 14, 15, 16], none⟩]), (7, [⟨[0, 1, 2, 3, 4, 5, 6, 7, 8, 9, 10, 11, 12], [0, 1, 2, 3, 4, 5, 6, 7, 8, 9, 10, 11, 12], some 13⟩, ⟨[14, 15], [0, 1, 2, 3, 4, 14, 15], some 16⟩, ⟨[], [], none⟩])]
noncomputable def fu120 : Bf := cFnU inf und keyOk ext 100000 hn120 Tryz.f120
theorem q120 : fu120 = fn 120 := fnU_of6 (by kernel_rfl) (by kernel_rfl)
noncomputable def fu122 : Bf := cFnU inf und keyOk ext 100000 [] Tryz.f122
theorem q122 : fu122 = fn 122 := fnU_of6 (by kernel_rfl) (by kernel_rfl)
def hn125 : HintT := [(3, [⟨[0, 1, 2, 3, 4, 5, 6, 7, 8, 9, 10], [0, 1, 2, 3, 4, 5, 6, 7, 8, 9, 10], none⟩])]
noncomputable def fu125 : Bf := cFnU inf und keyOk ext 100000 hn125 Tryz.f125
theorem q125 : fu125 = fn 125 := fnU_of6 (by kernel_rfl) (by kernel_rfl)
noncomputable def fu135 : Bf := cFnU inf und keyOk ext 100000 [] Tryz.f135
theorem q135 : fu135 = fn 135 := fnU_of6 (by kernel_rfl) (by kernel_rfl)
def hn144 : HintT := [(8, [⟨[0, 1, 2, 3, 4, 6, 7, 8], [0, 1, 2, 3, 4, 6, 7, 8], some 5⟩, ⟨[], [0, 1, 6, 7, 8], some 9⟩, ⟨[10, 11], [0, 1, 10, 11], some 12⟩, ⟨[13], [10, 13], some 14⟩, ⟨[], [], none⟩]), (12, [⟨[0, 1, 2, 3, 4, 5, 6, 7, 8, 9, 10, 11], [0, 1, 2, 3, 4, 5, 6, 7, 8, 9, 10, 11], some 12⟩, ⟨[], [], none⟩]), (16, [⟨[0, 1, 2, 3, 4, 9], [0, 1, 2, 3, 4, 9], some 5⟩, ⟨[6, 7, 8], [9, 6, 7, 8], some 10⟩, ⟨[11], [8, 11], none⟩])]
noncomputable def fu144 : Bf := cFnU inf und keyOk ext 100000 hn144 Tryz.f144
theorem q144 : fu144 = fn 144 := fnU_of6 (by kernel_rfl) (by kernel_rfl)
noncomputable def fu145 : Bf := cFnU inf und keyOk ext 100000 [] Tryz.f145
theorem q145 : fu145 = fn 145 := fnU_of6 (by kernel_rfl) (by kernel_rfl)
def hn148 : HintT := [(1, [⟨[0, 2, 3], [0, 2, 3], some 1⟩, ⟨[], [2, 3], some 4⟩, ⟨[5], [5], none⟩])]
noncomputable def fu148 : Bf := cFnU inf und keyOk ext 100000 hn148 Tryz.f148
theorem q148 : fu148 = fn 148 := fnU_of6 (by kernel_rfl) (by kernel_rfl)
def hn152 : HintT := [(4, [⟨[0, 1, 2, 3, 4, 5, 6, 7, 8, 9, 10, 11], [0, 1, 2, 3, 4, 5, 6, 7, 8, 9, 10, 11], some 12⟩, ⟨[], [0, 1, 2], some 13⟩, ⟨[], [], none⟩]), (13, [⟨[0, 1, 2, 3, 4, 5, 6, 7], [0, 1, 2, 3, 4, 5, 6, 7], some 8⟩, ⟨[], [], none⟩])]
noncomputable def fu152 : Bf := cFnU inf und keyOk ext 100000 hn152 Tryz.f152
theorem q152 : fu152 = fn 152 := fnU_of6 (by kernel_rfl) (by kernel_rfl)
noncomputable def fu157 : Bf := cFnU inf und keyOk ext 100000 [] Tryz.f157
theorem q157 : fu157 = fn 157 := fnU_of6 (by kernel_rfl) (by kernel_rfl)
noncomputable def fu164 : Bf := cFnU inf und keyOk ext 100000 [] Tryz.f164
theorem q164 : fu164 = fn 164 := fnU_of6 (by kernel_rfl) (by kernel_rfl)
noncomputable def fu175 : Bf := cFnU inf und keyOk ext 100000 [] Tryz.f175
theorem q175 : fu175 = fn 175 := fnU_of6 (by kernel_rfl) (by kernel_rfl)
noncomputable def fu188 : Bf := cFnU inf und keyOk ext 100000 [] Tryz.f188
theorem q188 : fu188 = fn 188 := fnU_of6 (by kernel_rfl) (by kernel_rfl)
def hn197 : HintT := [(4, [⟨[0, 1, 3], [0, 1, 3], some 2⟩, ⟨[], [0, 3], some 4⟩, ⟨[5, 6], [5, 6], none⟩])]
noncomputable def fu197 : Bf := cFnU inf und keyOk ext 100000 hn197 Tryz.f197
theorem q197 : fu197 = fn 197 := fnU_of6 (by kernel_rfl) (by kernel_rfl)
noncomputable def fu212 : Bf := cFnU inf und keyOk ext 100000 [] Tryz.f212
theorem q212 : fu212 = fn 212 := fnU_of6 (by kernel_rfl) (by kernel_rfl)
def hn218 : HintT := [(5, [⟨[0, 1, 2, 3, 5, 6, 11], [0, 1, 2, 3, 5, 6, 11], some 4⟩, ⟨[], [5, 6, 11], some 7⟩, ⟨[8, 9, 10], [11, 8, 9, 10], some 12⟩, ⟨[13], [10, 13], none⟩]), (8, [⟨[0, 1, 2, 3, 4, 5, 6], [0, 1, 2, 3, 4, 5, 6], some 7⟩, ⟨[], [0, 1, 2, 3, 4, 5], some 8⟩, ⟨[], [], none⟩]), (10, [⟨[0, 1, 2, 3, 4], [0, 1, 2, 3, 4], some 5⟩, ⟨[], [], none⟩]), (12, [⟨[0, 1, 2, 3, 4, 5], [0, 1, 2, 3, 4, 5], some 6⟩, ⟨[], [0, 1, 2, 3, 4], some 7⟩, ⟨[], [], none⟩])]
noncomputable def fu218 : Bf := cFnU inf und keyOk ext 100000 hn218 Tryz.f218
theorem q218 : fu218 = fn 218 := fnU_of6 (by kernel_rfl) (by kernel_rfl)
noncomputable def fu241 : Bf := cFnU inf und keyOk ext 100000 [] Tryz.f241
theorem q241 : fu241 = fn 241 := fnU_of6 (by kernel_rfl) (by kernel_rfl)
noncomputable def fu248 : Bf := cFnU inf und keyOk ext 100000 [] Tryz.f248
theorem q248 : fu248 = fn 248 := fnU_of6 (by kernel_rfl) (by kernel_rfl)
noncomputable def fu259 : Bf := cFnU inf und keyOk ext 100000 [] Tryz.f259
theorem q259 : fu259 = fn 259 := fnU_of6 (by kernel_rfl) (by kernel_rfl)
noncomputable def fu266 : Bf := cFnU inf und keyOk ext 100000 [] Tryz.f266
theorem q266 : fu266 = fn 266 := fnU_of6 (by kernel_rfl) (by kernel_rfl)
def hn274 : HintT := [(2, [⟨[0, 1, 2, 3, 4, 5, 6, 7, 8, 9, 10], [0, 1, 2, 3, 4, 5, 6, 7, 8, 9, 10], none⟩]), (4, [⟨[0, 1, 2, 3, 4, 5, 6], [0, 1, 2, 3, 4, 5, 6], some 7⟩, ⟨[], [], none⟩]), (5, [⟨[0, 1, 2, 3, 4, 5, 6, 7, 8, 9], [0, 1, 2, 3, 4, 5, 6, 7, 8, 9], some 10⟩, ⟨[], [], none⟩]), (6, [⟨[0, 1, 2, 3, 4, 5, 6], [0, 1, 2, 3, 4, 5, 6], some 7⟩, ⟨[8, 9], [0, 8, 9], some 10⟩, ⟨[], [], none⟩])]
noncomputable def fu274 : Bf := cFnU inf und keyOk ext 100000 hn274 Tryz.f274
theorem q274 : fu274 = fn 274 := fnU_of6 (by kernel_rfl) (by kernel_rfl)
noncomputable def fu279 : Bf := cFnU inf und keyOk ext 100000 [] Tryz.f279
theorem q279 : fu279 = fn 279 := fnU_of6 (by kernel_rfl) (by kernel_rfl)
noncomputable def fu293 : Bf := cFnU inf und keyOk ext 100000 [] Tryz.f293
theorem q293 : fu293 = fn 293 := fnU_of6 (by kernel_rfl) (by kernel_rfl)
noncomputable def fu307 : Bf := cFnU inf und keyOk ext 100000 [] Tryz.f307
theorem q307 : fu307 = fn 307 := fnU_of6 (by kernel_rfl) (by kernel_rfl)
noncomputable def fu318 : Bf := cFnU inf und keyOk ext 100000 [] Tryz.f318
theorem q318 : fu318 = fn 318 := fnU_of6 (by kernel_rfl) (by kernel_rfl)
noncomputable def fu329 : Bf := cFnU inf und keyOk ext 100000 [] Tryz.f329
theorem q329 : fu329 = fn 329 := fnU_of6 (by kernel_rfl) (by kernel_rfl)
noncomputable def fu343 : Bf := cFnU inf und keyOk ext 100000 [] Tryz.f343
theorem q343 : fu343 = fn 343 := fnU_of6 (by kernel_rfl) (by kernel_rfl)
def hn369 : HintT := [(1, [⟨[0, 1, 2, 3, 4, 5, 6, 7, 8, 9], [0, 1, 2, 3, 4, 5, 6, 7, 8, 9], some 10⟩, ⟨[11, 12, 13], [5, 6, 7, 8, 9, 11, 12, 13], none⟩])]
noncomputable def fu369 : Bf := cFnU inf und keyOk ext 100000 hn369 Tryz.f369
theorem q369 : fu369 = fn 369 := fnU_of6 (by kernel_rfl) (by kernel_rfl)
noncomputable def fu370 : Bf := cFnU inf und keyOk ext 100000 [] Tryz.f370
theorem q370 : fu370 = fn 370 := fnU_of6 (by kernel_rfl) (by kernel_rfl)
def hn380 : HintT := [(1, [⟨[0, 1, 2, 3, 5, 10], [0, 1, 2, 3, 5, 10], some 4⟩, ⟨[], [5, 10], some 6⟩, ⟨[7, 8, 9], [10, 7, 8, 9], some 11⟩, ⟨[12], [9, 12], none⟩])]
noncomputable def fu380 : Bf := cFnU inf und keyOk ext 100000 hn380 Tryz.f380
theorem q380 : fu380 = fn 380 := fnU_of6 (by kernel_rfl) (by kernel_rfl)
def hn408 : HintT := [(6, [⟨[0, 1, 2, 3, 4, 5, 6, 7, 8], [0, 1, 2, 3, 4, 5, 6, 7, 8], none⟩])]
noncomputable def fu408 : Bf := cFnU inf und keyOk ext 100000 hn408 Tryz.f408
theorem q408 : fu408 = fn 408 := fnU_of6 (by kernel_rfl) (by kernel_rfl)
noncomputable def fu412 : Bf := cFnU inf und keyOk ext 100000 [] Tryz.f412
theorem q412 : fu412 = fn 412 := fnU_of6 (by kernel_rfl) (by kernel_rfl)
def hn430 : HintT := [(17, [⟨[0, 1, 2, 3, 4, 5, 6, 7, 8, 9, 10, 11], [0, 1, 2, 3, 4, 5, 6, 7, 8, 9, 10, 11], some 12⟩, ⟨[13, 14], [13, 14], none⟩])]
noncomputable def fu430 : Bf := cFnU inf und keyOk ext 100000 hn430 Tryz.f430
theorem q430 : fu430 = fn 430 := fnU_of6 (by kernel_rfl) (by kernel_rfl)
noncomputable def fu435 : Bf := cFnU inf und keyOk ext 100000 [] Tryz.f435
theorem q435 : fu435 = fn 435 := fnU_of6 (by kernel_rfl) (by kernel_rfl)
noncomputable def fu443 : Bf := cFnU inf und keyOk ext 100000 [] Tryz.f443
theorem q443 : fu443 = fn 443 := fnU_of6 (by kernel_rfl) (by kernel_rfl)
noncomputable def fu450 : Bf := cFnU inf und keyOk ext 100000 [] Tryz.f450
theorem q450 : fu450 = fn 450 := fnU_of6 (by kernel_rfl) (by kernel_rfl)
def hn453 : HintT := [(4, [⟨[0, 1, 2, 3, 4, 5, 6, 7, 8, 9, 10, 11, 12, 13, 14, 15, 16, 17, 18, 19, 20, 21], [0, 1, 2, 3, 4, 5, 6, 7, 8, 9, 10, 11, 12, 13, 14, 15, 16, 17, 18, 19, 20, 21], some 22⟩, ⟨[], [], none⟩]), (6, [⟨[0, 1, 2, 3, 4, 5, 6, 7, 8, 9], [0, 1, 2, 3, 4, 5, 6, 7, 8, 9], some 10⟩, ⟨[], [], none⟩])]
noncomputable def fu453 : Bf := cFnU inf und keyOk ext 100000 hn453 Tryz.f453
theorem q453 : fu453 = fn 453 := fnU_of6 (by kernel_rfl) (by kernel_rfl)
def hn459 : HintT := [(1, [⟨[0, 1, 3, 4], [0, 1, 3, 4], some 2⟩, ⟨[6], [3, 4, 6], some 5⟩, ⟨[], [6], some 7⟩, ⟨[8], [8], some 9⟩, ⟨[], [], none⟩])]
noncomputable def fu459 : Bf := cFnU inf und keyOk ext 100000 hn459 Tryz.f459
theorem q459 : fu459 = fn 459 := fnU_of6 (by kernel_rfl) (by kernel_rfl)
noncomputable def fu463 : Bf := cFnU inf und keyOk ext 100000 [] Tryz.f463
theorem q463 : fu463 = fn 463 := fnU_of6 (by kernel_rfl) (by kernel_rfl)
noncomputable def fu491 : Bf := cFnU inf und keyOk ext 100000 [] Tryz.f491
theorem q491 : fu491 = fn 491 := fnU_of6 (by kernel_rfl) (by kernel_rfl)
def hn502 : HintT := [(2, [⟨[0, 1, 3, 4], [0, 1, 3, 4], some 2⟩, ⟨[5, 6], [3, 4, 5, 6], some 7⟩, ⟨[], [], none⟩]), (5, [⟨[0, 1, 3, 4], [0, 1, 3, 4], some 2⟩, ⟨[5, 6], [3, 4, 5, 6], some 7⟩, ⟨[], [], none⟩]), (7, [⟨[0, 1, 3, 4], [0, 1, 3, 4], some 2⟩, ⟨[5, 6], [3, 4, 5, 6], some 7⟩, ⟨[], [], none⟩]), (9, [⟨[0, 1, 3, 4], [0, 1, 3, 4], some 2⟩, ⟨[5, 6], [3, 4, 5, 6], some 7⟩, ⟨[], [], none⟩])]
noncomputable def fu502 : Bf := cFnU inf und keyOk ext 100000 hn502 Tryz.f502
theorem q502 : fu502 = fn 502 := fnU_of6 (by kernel_rfl) (by kernel_rfl)
noncomputable def fu508 : Bf := cFnU inf und keyOk ext 100000 [] Tryz.f508
theorem q508 : fu508 = fn 508 := fnU_of6 (by kernel_rfl) (by kernel_rfl)
noncomputable def fu536 : Bf := cFnU inf und keyOk ext 100000 [] Tryz.f536
theorem q536 : fu536 = fn 536 := fnU_of6 (by kernel_rfl) (by kernel_rfl)
def hn542 : HintT := [(1, [⟨[0, 1, 2, 3, 4, 5, 6, 7, 8, 9], [0, 1, 2, 3, 4, 5, 6, 7, 8, 9], some 10⟩, ⟨[11], [8, 11], none⟩]), (3, [⟨[0, 1, 2, 3, 4], [0, 1, 2, 3, 4], some 5⟩, ⟨[], [], none⟩]), (4, [⟨[0, 1, 2, 3, 4, 5, 6, 7, 8], [0, 1, 2, 3, 4, 5, 6, 7, 8], some 9⟩, ⟨[], [], none⟩]), (8, [⟨[0, 1, 2, 3, 4], [0, 1, 2, 3, 4], some 5⟩, ⟨[], [], none⟩])]
noncomputable def fu542 : Bf := cFnU inf und keyOk ext 100000 hn542 Tryz.f542
theorem q542 : fu542 = fn 542 := fnU_of6 (by kernel_rfl) (by kernel_rfl)
noncomputable def fu545 : Bf := cFnU inf und keyOk ext 100000 [] Tryz.f545
theorem q545 : fu545 = fn 545 := fnU_of6 (by kernel_rfl) (by kernel_rfl)
noncomputable def fu576 : Bf := cFnU inf und keyOk ext 100000 [] Tryz.f576
theorem q576 : fu576 = fn 576 := fnU_of6 (by kernel_rfl) (by kernel_rfl)
noncomputable def fu591 : Bf := cFnU inf und keyOk ext 100000 [] Tryz.f591
theorem q591 : fu591 = fn 591 := fnU_of6 (by kernel_rfl) (by kernel_rfl)
noncomputable def fu604 : Bf := cFnU inf und keyOk ext 100000 [] Tryz.f604
theorem q604 : fu604 = fn 604 := fnU_of6 (by kernel_rfl) (by kernel_rfl)
noncomputable def fu626 : Bf := cFnU inf und keyOk ext 100000 [] Tryz.f626
theorem q626 : fu626 = fn 626 := fnU_of6 (by kernel_rfl) (by kernel_rfl)
noncomputable def fu651 : Bf := cFnU inf und keyOk ext 100000 [] Tryz.f651
theorem q651 : fu651 = fn 651 := fnU_of6 (by kernel_rfl) (by kernel_rfl)
noncomputable def fu689 : Bf := cFnU inf und keyOk ext 100000 [] Tryz.f689
theorem q689 : fu689 = fn 689 := fnU_of6 (by kernel_rfl) (by kernel_rfl)
end Ev
end Go.Proofs.YtbkeeghkpkfeiaaGreatDoor
