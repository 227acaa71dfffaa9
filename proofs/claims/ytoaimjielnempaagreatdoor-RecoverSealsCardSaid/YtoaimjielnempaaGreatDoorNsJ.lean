/- The laws of a keeper: the run. The laws of a keeper: what the run owes. -/
import Derived.Test.YtoaimjielnempaaGreatDoorNsE
import Derived.Test.YtoaimjielnempaaGreatDoorNsF
import Derived.Test.YtoaimjielnempaaGreatDoorNsI
import Derived.Laws.Externs
import Derived.Ground.SlmcProg
import Derived.Shelf.Lay
import Derived.Test.YtoaimjielnempaaGreatDoorLoB
namespace Go.Proofs.YtoaimjielnempaaGreatDoor
set_option linter.unusedVariables false
set_option linter.unusedSimpArgs false
open Go.RowKit Go.Maps
namespace Ev
noncomputable def plug0 : FuncId → Option (List AV → H → E) := fun f => bi (Nat.beq f 261) (some chkB) (bi (Nat.beq f 186) (some strB) (bi (Nat.beq f 204) (some stepP) (bi (Nat.beq f 188) (some cloneP) (bi (Nat.beq f 193) (some cloneP) (bi (Nat.beq f 407) (some cmpP) (bi (Nat.beq f 150) (some atoiP) (bi (Nat.beq f 118) (some sortSP) (none))))))))
end Ev
end Go.Proofs.YtoaimjielnempaaGreatDoor
namespace Go.Proofs.YtoaimjielnempaaGreatDoor
set_option linter.unusedVariables false
set_option linter.unusedSimpArgs false
open Go.RowKit Go.Maps Go.Sort Go.Shelf
namespace Ev
theorem laidB : laidOutB Tryz.prog = true := Lo.laidB
theorem keyHash : KeyT Tryz.prog 24 := keyT_wide laidB (m := 2) (by decide) (of_decide_eq_true (by kernel_rfl)) (by kernel_rfl) (by kernel_rfl) (by kernel_rfl)
theorem keyPoint : KeyT Tryz.prog 197 := keyT_wide laidB (m := 4) (by decide) (of_decide_eq_true (by kernel_rfl)) (by kernel_rfl) (by kernel_rfl) (by kernel_rfl)
theorem keyWide : KeyT Tryz.prog 95 := keyT_wide laidB (m := 2) (by decide) (of_decide_eq_true (by kernel_rfl)) (by kernel_rfl) (by kernel_rfl) (by kernel_rfl)
theorem keyInt : KeyT Tryz.prog 3 := keyT_int (k := .i64) (by kernel_rfl) (by kernel_rfl)
theorem keyU32 : KeyT Tryz.prog 22 := keyT_int (k := .u32) (by kernel_rfl) (by kernel_rfl)
theorem keyT_str {P : Program} {t : TypeId} (hu : P.underlying t = some .string) (hg : P.eqGuardType P.depth t = false) : KeyT P t := by
  have hof : ∀ {v : Value} {l : Lit}, keyOf P t v = some l → ∃ s : ByteArray, v = .string s ∧ l = .string s.data.toList := fun {v l} h => by
    cases v <;> simp [keyOf, mapKey, hu] at h
    exact ⟨_, rfl, h.2.symm⟩
  refine ⟨string_keyed hu, fun w a b la lb ha hb => ?_, fun w op ox oy a b => ?_⟩
  · obtain ⟨s, rfl, rfl⟩ := hof ha
    obtain ⟨u, rfl, rfl⟩ := hof hb
    exact ⟨s.toList == u.toList, run_equalIn_string w 9999 _ _ _ hu, by simp [ByteArray.toList_eq]⟩
  · cases op <;> first | rfl | skip
    all_goals simp [eqGuard, hg]
theorem keyStr : KeyT Tryz.prog 9 := keyT_str (by kernel_rfl) (by kernel_rfl)
theorem wide_ok {t : TypeId} {a : AV} (e : wideOk t a = true) : ∃ v l, conc a = some v ∧ keyOf Tryz.prog t v = some l := by
  obtain ⟨v, h1, e⟩ := ob_some (by simp) (show ob (conc a) false _ = true from e)
  obtain ⟨l, h2, _⟩ := ob_some (by simp) e
  exact ⟨v, l, h1, h2⟩
theorem bi_beq {β : Type} {t n : Nat} {x y z : β} (e : bi (Nat.beq t n) x y = z) : (t = n ∧ x = z) ∨ y = z := by
  cases h : Nat.beq t n with
  | true => rw [h] at e; exact .inl ⟨Nat.eq_of_beq_eq_true h, e⟩
  | false => rw [h] at e; exact .inr e
theorem key_ok : KeyOK Tryz.prog keyOk := fun t a e => by
  unfold keyOk at e
  rcases bi_beq e with ⟨rfl, e⟩ | e
  · exact ⟨keyHash, wide_ok e⟩
  rcases bi_beq e with ⟨rfl, e⟩ | e
  · exact ⟨keyInt, wide_ok e⟩
  rcases bi_beq e with ⟨rfl, e⟩ | e
  · exact ⟨keyPoint, wide_ok e⟩
  rcases bi_beq e with ⟨rfl, e⟩ | e
  · exact ⟨keyWide, wide_ok e⟩
  rcases bi_beq e with ⟨rfl, e⟩ | e
  · exact ⟨keyStr, wide_ok e⟩
  rcases bi_beq e with ⟨rfl, e⟩ | e
  · exact ⟨keyU32, wide_ok e⟩
  cases e
theorem env : Env Tryz.prog inf und keyOk := ⟨fun _ _ h => h, fun _ _ h => h, key_ok⟩
theorem names : (Tryz.prog.funcs.toList.all fun F => F.name != "runtime.NumGoroutine") = true := by kernel_rfl
theorem mixed : Tryz.prog.follows .mixedOrders = true := by kernel_rfl
theorem fn_ok : FnOk Tryz.prog inf und keyOk ext 100000 fn := fun f nt c rs e => by
  unfold fn at e
  cases h : Tryz.prog.funcs[f]? with
  | none => rw [h] at e; cases e
  | some F =>
    rw [h] at e
    refine ⟨F, rfl, fun hn => ?_, e⟩
    have hm : F ∈ Tryz.prog.funcs.toList := by
      obtain ⟨hi, hF⟩ := Array.getElem?_eq_some_iff.1 h
      rw [← hF]
      exact Array.getElem_mem_toList hi
    have := List.all_eq_true.1 names F hm
    rw [hn] at this
    simp at this
theorem x3_ok {l : List Opd} {e : E} {r : AV} {h : H} (g : x3 l .no e = .ok r h) : ∃ x y z, l = [x, y, z] ∧ e = .ok r h := by
  cases l with
  | nil => cases g
  | cons x l =>
    cases l with
    | nil => cases g
    | cons y l =>
      cases l with
      | nil => cases g
      | cons z l =>
        cases l with
        | nil => exact ⟨x, y, z, rfl, g⟩
        | cons _ _ => cases g
theorem OL3 {c : Cx} {fr : Fr} {x y z : Opd} {vs : List Value} (h : OL c fr [x, y, z] vs) : ∃ a b d, vs = [a, b, d] ∧ V c (x fr) a ∧ V c (y fr) b ∧ V c (z fr) d := by
  cases h with
  | cons h1 h =>
    cases h with
    | cons h2 h =>
      cases h with
      | cons h3 h =>
        cases h
        exact ⟨_, _, _, rfl, h1, h2, h3⟩
def sub64Entry : Array Value → Sem Value := fun args => do
  let (x, y, b) ← Extern.MathBitsCarry.three "Sub64" args
  pure (Extern.MathBitsCarry.pair ((x + Extern.MathBitsCarry.m64 - y - b) % Extern.MathBitsCarry.m64) (if x < y + b then 1 else 0))
theorem add_run {P : Program} (j k l : IntKind) (x y c : Nat) (hc : c ≤ 1) (w : World) : (add64Entry #[.int j (.ofNat x), .int k (.ofNat y), .int l (.ofNat c)]).run P w = .ok (.tuple #[.int .u64 (.ofNat ((x + y + c) % m64)), .int .u64 (.ofNat ((x + y + c) / m64))]) w := by
  have : c = 0 ∨ c = 1 := by omega
  rcases this with rfl | rfl <;> rfl
theorem sub_run {P : Program} (j k l : IntKind) (x y c : Nat) (hc : c ≤ 1) (w : World) : (sub64Entry #[.int j (.ofNat x), .int k (.ofNat y), .int l (.ofNat c)]).run P w = .ok (.tuple #[.int .u64 (.ofNat ((x + m64 - y - c) % m64)), .int .u64 (.ofNat (if x < y + c then 1 else 0))]) w := by
  have : c = 0 ∨ c = 1 := by omega
  rcases this with rfl | rfl <;> rfl
theorem ext_ok : ExtOk Tryz.prog ext := fun f g e c l vs fr h h' r hl eg => by
  unfold ext at e
  rcases bi_beq e with ⟨rfl, e⟩ | e
  · cases e
    obtain ⟨x, y, z, rfl, e1⟩ := x3_ok (show x3 l Ev.E.no (xAdd64 l fr h) = Ev.E.ok r h' from eg)
    obtain ⟨a, b, d, rfl, h1, h2, h3⟩ := OL3 hl
    obtain ⟨k1, n1, ex, e2⟩ := nat_ok (show (x fr).nat? Ev.E.no _ = Ev.E.ok r h' from e1)
    obtain ⟨k2, n2, ey, e3⟩ := nat_ok e2
    obtain ⟨k3, n3, ez, e4⟩ := nat_ok e3
    obtain ⟨hc, e5⟩ := biE e4
    obtain ⟨e6, e7⟩ := okE e5
    have hc := Nat.le_of_ble_eq_true hc
    rw [ex] at h1
    rw [ey] at h2
    rw [ez] at h3
    rw [h1.int_inv, h2.int_inv, h3.int_inv]
    subst e6
    refine ⟨e7.symm, _, .tuple _ _ (.cons (.int _ _) (.cons (.int _ _) .nil)), fun w => ?_⟩
    rw [run_callFunc_extern Tryz.func216 (by kernel_rfl) (by kernel_rfl) (by kernel_rfl) (e := add64Entry) (by kernel_rfl), add_run k1 k2 k3 n1 n2 n3 hc]
    rfl
  rcases bi_beq e with ⟨rfl, e⟩ | e
  · cases e
    obtain ⟨x, y, z, rfl, e1⟩ := x3_ok (show x3 l Ev.E.no (xSub64 l fr h) = Ev.E.ok r h' from eg)
    obtain ⟨a, b, d, rfl, h1, h2, h3⟩ := OL3 hl
    obtain ⟨k1, n1, ex, e2⟩ := nat_ok (show (x fr).nat? Ev.E.no _ = Ev.E.ok r h' from e1)
    obtain ⟨k2, n2, ey, e3⟩ := nat_ok e2
    obtain ⟨k3, n3, ez, e4⟩ := nat_ok e3
    obtain ⟨hc, e5⟩ := biE e4
    obtain ⟨e6, e7⟩ := okE e5
    have hc := Nat.le_of_ble_eq_true hc
    rw [ex] at h1
    rw [ey] at h2
    rw [ez] at h3
    rw [h1.int_inv, h2.int_inv, h3.int_inv]
    subst e6
    have hq : bi (Nat.blt n1 (n2 + n3)) 1 0 = if n1 < n2 + n3 then 1 else 0 := by
      rw [blt_eq]
      by_cases h : n1 < n2 + n3 <;> simp [h]
    refine ⟨e7.symm, _, .tuple _ _ (.cons (.int _ _) (.cons (.int _ _) .nil)), fun w => ?_⟩
    rw [run_callFunc_extern Tryz.func356 (by kernel_rfl) (by kernel_rfl) (by kernel_rfl) (e := sub64Entry) (by kernel_rfl), sub_run k1 k2 k3 n1 n2 n3 hc, hq]
    rfl
  cases e
shelf_lay_g SlLaysW.n5 Slmc 5 at Tryz 188 as cloneA
shelf_lay_g SlLaysW.n5 Slmc 5 at Tryz 193 as cloneB
theorem cloneA_ok : OneOk Tryz.prog 188 cloneP := clone_ok (fun vs w0 => enters_of Tryz.func188 (by kernel_rfl) rfl vs w0) (fun b es ck w hb => AnyW.maps_Clone cloneA b es ck w hb) (fun w => AnyW.maps_Clone_nil cloneA w)
theorem cloneB_ok : OneOk Tryz.prog 193 cloneP := clone_ok (fun vs w0 => enters_of Tryz.func193 (by kernel_rfl) rfl vs w0) (fun b es ck w hb => AnyW.maps_Clone cloneB b es ck w hb) (fun w => AnyW.maps_Clone_nil cloneB w)
theorem plug0_ok : ∀ f p, plug0 f = some p → OneOk Tryz.prog f p := fun f p e => by
  unfold plug0 at e
  rcases bi_beq e with ⟨rfl, e⟩ | e
  · cases e; exact chkB_ok
  rcases bi_beq e with ⟨rfl, e⟩ | e
  · cases e; exact strB_ok
  rcases bi_beq e with ⟨rfl, e⟩ | e
  · cases e; exact stepP_ok
  rcases bi_beq e with ⟨rfl, e⟩ | e
  · cases e; exact cloneA_ok
  rcases bi_beq e with ⟨rfl, e⟩ | e
  · cases e; exact cloneB_ok
  rcases bi_beq e with ⟨rfl, e⟩ | e
  · cases e; exact cmpP_ok
  rcases bi_beq e with ⟨rfl, e⟩ | e
  · cases e; exact atoiP_ok
  rcases bi_beq e with ⟨rfl, e⟩ | e
  · cases e; exact sortSP_ok
  cases e
end Ev
end Go.Proofs.YtoaimjielnempaaGreatDoor
