/- The laws of a node and of a mesh: the run. The laws of a node and of a mesh: what the run owes. -/
import Derived.Test.YtbkeeghkpkfeiaaGreatDoorNsE
import Derived.Test.YtbkeeghkpkfeiaaGreatDoorNsF
import Derived.Test.YtbkeeghkpkfeiaaGreatDoorNsR
import Derived.Test.YtbkeeghkpkfeiaaGreatDoorNsI
import Derived.Laws.Externs
import Derived.Ground.SlmcProg
import Derived.Shelf.Lay
import Derived.Test.YtbkeeghkpkfeiaaGreatDoorLoB
namespace Go.Proofs.YtbkeeghkpkfeiaaGreatDoor
set_option linter.unusedVariables false
set_option linter.unusedSimpArgs false
open Go.RowKit Go.Maps
namespace Ev
noncomputable def okInt (g : FuncId) : Bool := bi (Nat.beq g 119) true (bi (Nat.beq g 617) true (bi (Nat.beq g 690) true false))
noncomputable def okStr (g : FuncId) : Bool := Nat.beq g 656
noncomputable def okU32 (g : FuncId) : Bool := Nat.beq g 260
noncomputable def okHash (g : FuncId) : Bool := Nat.beq g 739
noncomputable def keyI (a : AV) : Bool := a.int? false fun k _ => eqK k .i64
noncomputable def keyS (a : AV) : Bool := a.str? false fun _ => true
noncomputable def plug0 : FuncId → Option (List AV → H → E) := fun f => bi (Nat.beq f 315) (some chkB) (bi (Nat.beq f 151) (some strB) (bi (Nat.beq f 623) (some stepP)
  (bi (Nat.beq f 256) (some cloneP) (bi (Nat.beq f 517) (some cloneP) (bi (Nat.beq f 650) (some cmpP)
  (bi (Nat.beq f 449) (some atoiP) (bi (Nat.beq f 252) (some (appP okInt 3 keyI)) (bi (Nat.beq f 715) (some (appP okStr 9 keyS))
  (bi (Nat.beq f 429) (some (appP okU32 35 fun _ => false)) (bi (Nat.beq f 642) (some (appP okHash 51 fun _ => false))
  (bi (Nat.beq f 42) (some (sortP okInt 3)) (bi (Nat.beq f 116) (some repP) (bi (Nat.beq f 322) (some clP) none)))))))))))))
end Ev
end Go.Proofs.YtbkeeghkpkfeiaaGreatDoor
namespace Go.Proofs.YtbkeeghkpkfeiaaGreatDoor
set_option linter.unusedVariables false
set_option linter.unusedSimpArgs false
open Go.RowKit Go.Maps Go.Sort Go.Shelf
namespace Ev
theorem laidB : laidOutB Tryz.prog = true := Lo.laidB
theorem keyHash : KeyT Tryz.prog 51 := keyT_wide laidB (m := 2) (by decide) (of_decide_eq_true (by kernel_rfl)) (by kernel_rfl) (by kernel_rfl) (by kernel_rfl)
theorem keyPoint : KeyT Tryz.prog 392 := keyT_wide laidB (m := 4) (by decide) (of_decide_eq_true (by kernel_rfl)) (by kernel_rfl) (by kernel_rfl) (by kernel_rfl)
theorem keyWide : KeyT Tryz.prog 143 := keyT_wide laidB (m := 2) (by decide) (of_decide_eq_true (by kernel_rfl)) (by kernel_rfl) (by kernel_rfl) (by kernel_rfl)
theorem keyInt : KeyT Tryz.prog 3 := keyT_int (k := .i64) (by kernel_rfl) (by kernel_rfl)
theorem keyU32 : KeyT Tryz.prog 35 := keyT_int (k := .u32) (by kernel_rfl) (by kernel_rfl)
theorem keyT_str {P : Program} {t : TypeId} (hu : P.underlying t = some .string) (hg : P.eqGuardType P.depth t = false) : KeyT P t := by
  have hof : ∀ {v : Value} {l : Lit}, keyOf P t v = some l → ∃ s : ByteArray, v = .string s ∧ l = .string s.data.toList := fun {v l} h => by
    cases v <;> simp [keyOf, mapKey, hu] at h
    exact ⟨_, rfl, h.2.symm⟩
  refine ⟨string_keyed hu, fun w a b la lb ha hb => ?_, fun w op ox oy a b => ?_⟩
  · obtain ⟨s, rfl, rfl⟩ := hof ha
    obtain ⟨u, rfl, rfl⟩ := hof hb
    exact ⟨s.toList == u.toList, run_equalIn_string w 9999 _ _ _ hu, by simp [ByteArray.toList_eq]⟩
  · cases op <;> first | rfl | skip
    all_goals simp [eqGuard, hg]
theorem keyStr : KeyT Tryz.prog 9 := keyT_str (by kernel_rfl) (by kernel_rfl)
theorem keyB16 : KeyT Tryz.prog 37 := keyT_wide laidB (m := 2) (by decide) (of_decide_eq_true (by kernel_rfl)) (by kernel_rfl) (by kernel_rfl) (by kernel_rfl)
theorem keyNet : KeyT Tryz.prog 39 := keyT_wide laidB (m := 4) (by decide) (of_decide_eq_true (by kernel_rfl)) (by kernel_rfl) (by kernel_rfl) (by kernel_rfl)
theorem keyStatus : KeyT Tryz.prog 60 := keyT_wide laidB (m := 4) (by decide) (of_decide_eq_true (by kernel_rfl)) (by kernel_rfl) (by kernel_rfl) (by kernel_rfl)
theorem keySpot : KeyT Tryz.prog 518 := keyT_wide laidB (m := 4) (by decide) (of_decide_eq_true (by kernel_rfl)) (by kernel_rfl) (by kernel_rfl) (by kernel_rfl)
theorem keyItem : KeyT Tryz.prog 209 := keyT_wide laidB (m := 4) (by decide) (of_decide_eq_true (by kernel_rfl)) (by kernel_rfl) (by kernel_rfl) (by kernel_rfl)
theorem wide_ok {t : TypeId} {a : AV} (e : wideOk t a = true) : ∃ v l, conc a = some v ∧ keyOf Tryz.prog t v = some l := by
  obtain ⟨v, h1, e⟩ := ob_some (by simp) (show ob (conc a) false _ = true from e)
  obtain ⟨l, h2, _⟩ := ob_some (by simp) e
  exact ⟨v, l, h1, h2⟩
theorem bi_beq {β : Type} {t n : Nat} {x y z : β} (e : bi (Nat.beq t n) x y = z) : (t = n ∧ x = z) ∨ y = z := by
  cases h : Nat.beq t n with
  | true => rw [h] at e; exact .inl ⟨Nat.eq_of_beq_eq_true h, e⟩
  | false => rw [h] at e; exact .inr e
theorem key_ok : KeyOK Tryz.prog keyOk := fun t a e => by
  unfold keyOk at e
  rcases bi_beq e with ⟨rfl, e⟩ | e
  · exact ⟨keyHash, wide_ok e⟩
  rcases bi_beq e with ⟨rfl, e⟩ | e
  · exact ⟨keyInt, wide_ok e⟩
  rcases bi_beq e with ⟨rfl, e⟩ | e
  · exact ⟨keyPoint, wide_ok e⟩
  rcases bi_beq e with ⟨rfl, e⟩ | e
  · exact ⟨keyWide, wide_ok e⟩
  rcases bi_beq e with ⟨rfl, e⟩ | e
  · exact ⟨keyStr, wide_ok e⟩
  rcases bi_beq e with ⟨rfl, e⟩ | e
  · exact ⟨keyU32, wide_ok e⟩
  rcases bi_beq e with ⟨rfl, e⟩ | e
  · exact ⟨keyB16, wide_ok e⟩
  rcases bi_beq e with ⟨rfl, e⟩ | e
  · exact ⟨keyNet, wide_ok e⟩
  rcases bi_beq e with ⟨rfl, e⟩ | e
  · exact ⟨keyStatus, wide_ok e⟩
  rcases bi_beq e with ⟨rfl, e⟩ | e
  · exact ⟨keySpot, wide_ok e⟩
  rcases bi_beq e with ⟨rfl, e⟩ | e
  · exact ⟨keyItem, wide_ok e⟩
  cases e
theorem env : Env Tryz.prog inf und keyOk := ⟨fun _ _ h => h, fun _ _ h => h, key_ok⟩
theorem names : (Tryz.prog.funcs.toList.all fun F => F.name != "runtime.NumGoroutine") = true := by kernel_rfl
theorem mixed : Tryz.prog.follows .mixedOrders = true := by kernel_rfl
theorem fn_ok : FnOk Tryz.prog inf und keyOk ext 100000 fn := fun f nt c rs e => by
  unfold fn at e
  cases h : Tryz.prog.funcs[f]? with
  | none => rw [h] at e; cases e
  | some F =>
    rw [h] at e
    refine ⟨F, rfl, fun hn => ?_, e⟩
    have hm : F ∈ Tryz.prog.funcs.toList := by
      obtain ⟨hi, hF⟩ := Array.getElem?_eq_some_iff.1 h
      rw [← hF]
      exact Array.getElem_mem_toList hi
    have := List.all_eq_true.1 names F hm
    rw [hn] at this
    simp at this
theorem x3_ok {l : List Opd} {e : E} {r : AV} {h : H} (g : x3 l .no e = .ok r h) : ∃ x y z, l = [x, y, z] ∧ e = .ok r h := by
  cases l with
  | nil => cases g
  | cons x l =>
    cases l with
    | nil => cases g
    | cons y l =>
      cases l with
      | nil => cases g
      | cons z l =>
        cases l with
        | nil => exact ⟨x, y, z, rfl, g⟩
        | cons _ _ => cases g
theorem OL3 {c : Cx} {fr : Fr} {x y z : Opd} {vs : List Value} (h : OL c fr [x, y, z] vs) : ∃ a b d, vs = [a, b, d] ∧ V c (x fr) a ∧ V c (y fr) b ∧ V c (z fr) d := by
  cases h with
  | cons h1 h =>
    cases h with
    | cons h2 h =>
      cases h with
      | cons h3 h =>
        cases h
        exact ⟨_, _, _, rfl, h1, h2, h3⟩
def sub64Entry : Array Value → Sem Value := fun args => do
  let (x, y, b) ← Extern.MathBitsCarry.three "Sub64" args
  pure (Extern.MathBitsCarry.pair ((x + Extern.MathBitsCarry.m64 - y - b) % Extern.MathBitsCarry.m64) (if x < y + b then 1 else 0))
theorem add_run {P : Program} (j k l : IntKind) (x y c : Nat) (hc : c ≤ 1) (w : World) : (add64Entry #[.int j (.ofNat x), .int k (.ofNat y), .int l (.ofNat c)]).run P w = .ok (.tuple #[.int .u64 (.ofNat ((x + y + c) % m64)), .int .u64 (.ofNat ((x + y + c) / m64))]) w := by
  have : c = 0 ∨ c = 1 := by omega
  rcases this with rfl | rfl <;> rfl
theorem sub_run {P : Program} (j k l : IntKind) (x y c : Nat) (hc : c ≤ 1) (w : World) : (sub64Entry #[.int j (.ofNat x), .int k (.ofNat y), .int l (.ofNat c)]).run P w = .ok (.tuple #[.int .u64 (.ofNat ((x + m64 - y - c) % m64)), .int .u64 (.ofNat (if x < y + c then 1 else 0))]) w := by
  have : c = 0 ∨ c = 1 := by omega
  rcases this with rfl | rfl <;> rfl
theorem ext_ok : ExtOk Tryz.prog ext := fun f g e c l vs fr h h' r hl eg => by
  unfold ext at e
  rcases bi_beq e with ⟨rfl, e⟩ | e
  · cases e
    obtain ⟨x, y, z, rfl, e1⟩ := x3_ok (show x3 l Ev.E.no (xAdd64 l fr h) = Ev.E.ok r h' from eg)
    obtain ⟨a, b, d, rfl, h1, h2, h3⟩ := OL3 hl
    obtain ⟨k1, n1, ex, e2⟩ := nat_ok (show (x fr).nat? Ev.E.no _ = Ev.E.ok r h' from e1)
    obtain ⟨k2, n2, ey, e3⟩ := nat_ok e2
    obtain ⟨k3, n3, ez, e4⟩ := nat_ok e3
    obtain ⟨hc, e5⟩ := biE e4
    obtain ⟨e6, e7⟩ := okE e5
    have hc := Nat.le_of_ble_eq_true hc
    rw [ex] at h1
    rw [ey] at h2
    rw [ez] at h3
    rw [h1.int_inv, h2.int_inv, h3.int_inv]
    subst e6
    refine ⟨e7.symm, _, .tuple _ _ (.cons (.int _ _) (.cons (.int _ _) .nil)), fun w => ?_⟩
    rw [run_callFunc_extern Tryz.func664 (by kernel_rfl) (by kernel_rfl) (by kernel_rfl) (e := add64Entry) (by kernel_rfl), add_run k1 k2 k3 n1 n2 n3 hc]
    rfl
  rcases bi_beq e with ⟨rfl, e⟩ | e
  · cases e
    obtain ⟨x, y, z, rfl, e1⟩ := x3_ok (show x3 l Ev.E.no (xSub64 l fr h) = Ev.E.ok r h' from eg)
    obtain ⟨a, b, d, rfl, h1, h2, h3⟩ := OL3 hl
    obtain ⟨k1, n1, ex, e2⟩ := nat_ok (show (x fr).nat? Ev.E.no _ = Ev.E.ok r h' from e1)
    obtain ⟨k2, n2, ey, e3⟩ := nat_ok e2
    obtain ⟨k3, n3, ez, e4⟩ := nat_ok e3
    obtain ⟨hc, e5⟩ := biE e4
    obtain ⟨e6, e7⟩ := okE e5
    have hc := Nat.le_of_ble_eq_true hc
    rw [ex] at h1
    rw [ey] at h2
    rw [ez] at h3
    rw [h1.int_inv, h2.int_inv, h3.int_inv]
    subst e6
    have hq : bi (Nat.blt n1 (n2 + n3)) 1 0 = if n1 < n2 + n3 then 1 else 0 := by
      rw [blt_eq]
      by_cases h : n1 < n2 + n3 <;> simp [h]
    refine ⟨e7.symm, _, .tuple _ _ (.cons (.int _ _) (.cons (.int _ _) .nil)), fun w => ?_⟩
    rw [run_callFunc_extern Tryz.func724 (by kernel_rfl) (by kernel_rfl) (by kernel_rfl) (e := sub64Entry) (by kernel_rfl), sub_run k1 k2 k3 n1 n2 n3 hc, hq]
    rfl
  cases e
shelf_lay_g SlLaysW.n5 Slmc 5 at Tryz 256 as cloneA
shelf_lay_g SlLaysW.n5 Slmc 5 at Tryz 517 as cloneB
theorem cloneA_ok : OneOk Tryz.prog 256 cloneP := clone_ok (fun vs w0 => enters_of Tryz.func256 (by kernel_rfl) rfl vs w0) (fun b es ck w hb => AnyW.maps_Clone cloneA b es ck w hb) (fun w => AnyW.maps_Clone_nil cloneA w)
theorem cloneB_ok : OneOk Tryz.prog 517 cloneP := clone_ok (fun vs w0 => enters_of Tryz.func517 (by kernel_rfl) rfl vs w0) (fun b es ck w hb => AnyW.maps_Clone cloneB b es ck w hb) (fun w => AnyW.maps_Clone_nil cloneB w)
theorem okInt_cases {g : FuncId} (e : okInt g = true) : g = 119 ∨ g = 617 ∨ g = 690 := by
  unfold okInt at e
  rcases bi_beq e with ⟨rfl, _⟩ | e
  · exact .inl rfl
  rcases bi_beq e with ⟨rfl, _⟩ | e
  · exact .inr (.inl rfl)
  rcases bi_beq e with ⟨rfl, _⟩ | e
  · exact .inr (.inr rfl)
  cases e
theorem enN : ∀ (args : Array Value) (w : World), (callFunc 119 args).run Tryz.prog w = .ok (.enter 119 args) w := enters_of Tryz.func119 (by kernel_rfl) rfl
theorem enY : ∀ (args : Array Value) (w : World), (callFunc 617 args).run Tryz.prog w = .ok (.enter 617 args) w := enters_of Tryz.func617 (by kernel_rfl) rfl
theorem enR : ∀ (args : Array Value) (w : World), (callFunc 690 args).run Tryz.prog w = .ok (.enter 690 args) w := enters_of Tryz.func690 (by kernel_rfl) rfl
theorem enF : ∀ (args : Array Value) (w : World), (callFunc 656 args).run Tryz.prog w = .ok (.enter 656 args) w := enters_of Tryz.func656 (by kernel_rfl) rfl
theorem enU : ∀ (args : Array Value) (w : World), (callFunc 260 args).run Tryz.prog w = .ok (.enter 260 args) w := enters_of Tryz.func260 (by kernel_rfl) rfl
theorem enH : ∀ (args : Array Value) (w : World), (callFunc 739 args).run Tryz.prog w = .ok (.enter 739 args) w := enters_of Tryz.func739 (by kernel_rfl) rfl
theorem keyI_ok {a : AV} (e : keyI a = true) : ∃ z, a = .int .i64 z := by
  cases a <;> first | cases e | exact ⟨_, by rw [eqK_eq (show eqK _ .i64 = true from e)]⟩
theorem keyS_ok {a : AV} (e : keyS a = true) : ∃ s, a = .str s := by
  cases a <;> first | exact ⟨_, rfl⟩ | cases e
theorem appInt_ok : OneOk Tryz.prog 252 (appP okInt 3 keyI) := by
  refine appP_ok (fun vs w0 => enters_of Tryz.func252 (by kernel_rfl) rfl vs w0) (fun g q qm ck w hg hm hq => ?_) (fun g q qm ck w x a l hg hk hx hl hlt hm hq => ?_) (fun a c v hk hv => ?_)
  · rcases okInt_cases hg with rfl | rfl | rfl
    · exact app252 enN keysNil119 hm hq
    · exact app252 enY keysNil617 hm hq
    · exact app252 enR keysNil690 hm hq
  · obtain ⟨z, rfl⟩ := keyI_ok hk
    have hz : x.key = .int .i64 z := (hx ⟨fun _ => none, fun _ => False, 0, fun _ => 0⟩).int_inv
    have hl' : l = .int .i64 z := by
      rw [hz] at hl
      simp [keyOf, mapKey, show Tryz.prog.underlying 3 = some (.int .i64) from by kernel_rfl] at hl
      exact hl.2.symm
    subst hl'
    rcases okInt_cases hg with rfl | rfl | rfl
    · exact appI_one keysIntN enN hz hl hlt hm hq
    · exact appI_one keysIntY enY hz hl hlt hm hq
    · exact appI_one keysIntR enR hz hl hlt hm hq
  · obtain ⟨z, rfl⟩ := keyI_ok hk
    rw [hv.int_inv]
    exact ⟨rfl, fun c' => .int _ _⟩
theorem appStr_ok : OneOk Tryz.prog 715 (appP okStr 9 keyS) := by
  refine appP_ok (fun vs w0 => enters_of Tryz.func715 (by kernel_rfl) rfl vs w0) (fun g q qm ck w hg hm hq => ?_) (fun g q qm ck w x a l hg hk hx hl hlt hm hq => ?_) (fun a c v hk hv => ?_)
  · obtain rfl := Nat.eq_of_beq_eq_true hg
    exact app715 enF keysNil656 hm hq
  · obtain ⟨s, rfl⟩ := keyS_ok hk
    have hz : x.key = .string ⟨s.toArray⟩ := (hx ⟨fun _ => none, fun _ => False, 0, fun _ => 0⟩).str_inv
    have hl' : l = .string s := by
      rw [hz] at hl
      simp [keyOf, mapKey, show Tryz.prog.underlying 9 = some .string from by kernel_rfl] at hl
      exact hl.2.symm
    subst hl'
    obtain rfl := Nat.eq_of_beq_eq_true hg
    exact appS_one keysStrF enF hz hl hlt hm hq
  · obtain ⟨s, rfl⟩ := keyS_ok hk
    rw [hv.str_inv]
    exact ⟨rfl, fun c' => .str _⟩
theorem appU32_ok : OneOk Tryz.prog 429 (appP okU32 35 fun _ => false) := by
  refine appP_ok (fun vs w0 => enters_of Tryz.func429 (by kernel_rfl) rfl vs w0) (fun g q qm ck w hg hm hq => ?_) (fun g q qm ck w x a l hg hk hx hl hlt hm hq => by cases hk) (fun a c v hk hv => by cases hk)
  obtain rfl := Nat.eq_of_beq_eq_true hg
  exact app429 enU keysNil260 hm hq
theorem appHash_ok : OneOk Tryz.prog 642 (appP okHash 51 fun _ => false) := by
  refine appP_ok (fun vs w0 => enters_of Tryz.func642 (by kernel_rfl) rfl vs w0) (fun g q qm ck w hg hm hq => ?_) (fun g q qm ck w x a l hg hk hx hl hlt hm hq => by cases hk) (fun a c v hk hv => by cases hk)
  obtain rfl := Nat.eq_of_beq_eq_true hg
  exact app642 enH keysNil739 hm hq
theorem sortInt_ok : OneOk Tryz.prog 42 (sortP okInt 3) := sortP_ok fun g hg => by
  rcases okInt_cases hg with rfl | rfl | rfl
  · exact ⟨keysIntN, enN⟩
  · exact ⟨keysIntY, enY⟩
  · exact ⟨keysIntR, enR⟩
theorem plug0_ok : ∀ f p, plug0 f = some p → OneOk Tryz.prog f p := fun f p e => by
  unfold plug0 at e
  rcases bi_beq e with ⟨rfl, e⟩ | e
  · cases e; exact chkB_ok
  rcases bi_beq e with ⟨rfl, e⟩ | e
  · cases e; exact strB_ok
  rcases bi_beq e with ⟨rfl, e⟩ | e
  · cases e; exact stepP_ok
  rcases bi_beq e with ⟨rfl, e⟩ | e
  · cases e; exact cloneA_ok
  rcases bi_beq e with ⟨rfl, e⟩ | e
  · cases e; exact cloneB_ok
  rcases bi_beq e with ⟨rfl, e⟩ | e
  · cases e; exact cmpP_ok
  rcases bi_beq e with ⟨rfl, e⟩ | e
  · cases e; exact atoiP_ok
  rcases bi_beq e with ⟨rfl, e⟩ | e
  · cases e; exact appInt_ok
  rcases bi_beq e with ⟨rfl, e⟩ | e
  · cases e; exact appStr_ok
  rcases bi_beq e with ⟨rfl, e⟩ | e
  · cases e; exact appU32_ok
  rcases bi_beq e with ⟨rfl, e⟩ | e
  · cases e; exact appHash_ok
  rcases bi_beq e with ⟨rfl, e⟩ | e
  · cases e; exact sortInt_ok
  rcases bi_beq e with ⟨rfl, e⟩ | e
  · cases e; exact repP_ok
  rcases bi_beq e with ⟨rfl, e⟩ | e
  · cases e; exact clP_ok
  cases e
end Ev
end Go.Proofs.YtbkeeghkpkfeiaaGreatDoor
