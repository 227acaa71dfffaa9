/- sha.Step in the run. -/
import Derived.Test.YtfpghnldcbhniaaGreatPlM
import Derived.Test.YtfpghnldcbhniaaGreatShF
import Derived.Shelf.SlIterI.Nil
namespace Go.Proofs.YtfpghnldcbhniaaGreat
set_option linter.unusedVariables false
set_option linter.unusedSimpArgs false
open Go.RowKit Go.Maps Go.Sort Go.Shelf
namespace Ev
noncomputable def natsOf (k : IntKind) (lim : Nat) (l : List AV) : Option (List Nat) :=
  List.rec (motive := fun _ => Option (List Nat)) (some []) (fun a _ ih => a.int? none fun j n => bi (eqK j k) (Int.cas n (fun m => bi (Nat.blt m lim) (ob ih none fun r => some (m :: r)) none) fun _ => none) none) l
noncomputable def fN {β : Type} (n : Nat) (f : Nat → β) : β := Nat.cas n (f 0) fun p => f (Nat.succ p)
noncomputable def intsOf (k : IntKind) (l : List Nat) : List AV := List.rec (motive := fun _ => List AV) [] (fun n _ r => fN n fun n => .int k (.ofNat n) :: r) l
noncomputable def two {β : Type} (l : List AV) (d : β) (f : AV → AV → β) : β := List.rec (motive := fun _ => β) d (fun a l _ => one1 l d fun b => f a b) l
noncomputable def stepP (xs : List AV) (h : H) : E := two xs .no fun a b => a.agg? .no fun la => b.agg? .no fun lb => ob (natsOf .u32 4294967296 la) .no fun x => ob (natsOf .u8 256 lb) .no fun blk =>
  bi (Nat.beq (llen la) 8) (bi (Nat.beq (llen lb) 64) (.ok (.agg (intsOf .u32 (Sh.stepF x blk))) h) .no) .no
theorem fN_eq {β : Type} (n : Nat) (f : Nat → β) : fN n f = f n := by cases n <;> rfl
theorem intsOf_eq (k : IntKind) : ∀ l : List Nat, intsOf k l = l.map fun (n : Nat) => AV.int k (n : Int)
  | [] => rfl
  | n :: l => by
    show fN n (fun n => AV.int k (.ofNat n) :: intsOf k l) = _
    rw [fN_eq, intsOf_eq k l]
    rfl
theorem natsOf_VL {c : Cx} {k : IntKind} {lim : Nat} : ∀ {cs : List AV} {vs : List Value} {x : List Nat}, VL c cs vs → natsOf k lim cs = some x → vs = x.map (fun (n : Nat) => Value.int k (n : Int)) ∧ (∀ n ∈ x, n < lim) ∧ x.length = cs.length
  | _, _, x, .nil, e => by cases e; exact ⟨rfl, fun n h => (by cases h), rfl⟩
  | _, _, x, .cons (a := a) (al := al) h1 h2, e => by
    cases a with
    | int j n =>
      obtain ⟨hk, e1⟩ := bi_some (by simp) (show bi (eqK j k) (Int.cas n (fun m => bi (Nat.blt m lim) (ob (natsOf k lim al) none fun r => some (m :: r)) none) fun _ => none) none = some x from e)
      clear e
      cases eqK_eq hk
      cases n with
      | negSucc n => cases e1
      | ofNat n =>
        obtain ⟨hb, e3⟩ := bi_some (by simp) (show bi (Nat.blt n lim) (ob (natsOf k lim al) none fun r => some (n :: r)) none = some x from e1)
        clear e1
        rw [blt_eq] at hb
        have hb := of_decide_eq_true hb
        obtain ⟨r, e1, e2⟩ := ob_some (by simp) e3
        cases e2
        obtain ⟨g1, g2, g3⟩ := natsOf_VL h2 e1
        rw [h1.int_inv, g1]
        refine ⟨rfl, fun m hm => ?_, by simp [g3]⟩
        rcases List.mem_cons.1 hm with rfl | hm
        · exact hb
        · exact g2 m hm
    | _ => cases e
theorem ints_VL (c : Cx) (k : IntKind) : ∀ l : List Nat, VL c (l.map fun (n : Nat) => AV.int k (n : Int)) (l.map fun (n : Nat) => Value.int k (n : Int))
  | [] => .nil
  | n :: l => .cons (.int k _) (ints_VL c k l)
theorem two_ok {l : List AV} {f : AV → AV → E} {r : AV} {h' : H} (e : two l .no f = .ok r h') : ∃ a b, l = [a, b] ∧ f a b = .ok r h' := by
  cases l with
  | nil => cases e
  | cons a l =>
    obtain ⟨b, rfl, e⟩ := one1_ok (show one1 l E.no (fun b => f a b) = .ok r h' from e)
    exact ⟨a, b, rfl, e⟩
theorem agg_okE {v : AV} {f : List AV → E} {r : AV} {h : H} (e : v.agg? E.no f = .ok r h) : ∃ cs, v = .agg cs ∧ f cs = .ok r h := by
  cases v <;> first | cases e | exact ⟨_, rfl, e⟩
theorem st_of : ∀ {x : List Nat}, x.length = 8 → ∃ s : Sh.St, s.list = x
  | [a, b, c, d, e, f, g, h], _ => ⟨⟨a, b, c, d, e, f, g, h⟩, rfl⟩
theorem stepP_ok : OneOk Tryz.prog 215 stepP := by
  intro B W ι h w xs vs r h' rel hv e
  obtain ⟨a, b, rfl, e1⟩ := two_ok (show two xs E.no _ = _ from e)
  obtain ⟨la, rfl, e2⟩ := agg_okE e1
  obtain ⟨lb, rfl, e3⟩ := agg_okE e2
  obtain ⟨x, hx, e4⟩ := obE e3
  obtain ⟨blk, hb, e5⟩ := obE e4
  obtain ⟨l1, e6⟩ := biE e5
  obtain ⟨l2, e7⟩ := biE e6
  obtain ⟨e8, e9⟩ := okE e7
  have l1 := Nat.eq_of_beq_eq_true l1
  have l2 := Nat.eq_of_beq_eq_true l2
  rw [llen_eq] at l1 l2
  subst e8 e9
  clear e e1 e2 e3 e4 e5 e6 e7
  cases hv with
  | cons ha hv =>
    cases hv with
    | cons hb2 hnil =>
      cases hnil
      obtain ⟨va, rfl, ha1, _⟩ := ha.agg_inv
      obtain ⟨vb, rfl, hb1, _⟩ := hb2.agg_inv
      obtain ⟨rfl, a2, a3⟩ := natsOf_VL ha1 hx
      obtain ⟨rfl, b2, b3⟩ := natsOf_VL hb1 hb
      obtain ⟨s, rfl⟩ := st_of (a3.trans l1)
      have hok : s.ok := by
        refine ⟨?_, ?_, ?_, ?_, ?_, ?_, ?_, ?_⟩ <;> exact a2 _ (by simp [Sh.St.list])
      have hbl : ∀ i, blk.getD i 0 < 256 := fun i => by
        by_cases hi : i < blk.length
        · have : blk.getD i 0 = blk[i] := by simp [List.getD, hi]
          rw [this]
          exact b2 _ (List.getElem_mem hi)
        · rw [Sh.gd_none (by omega)]
          decide
      refine ⟨fun w0 => enters_of Tryz.func215 (by kernel_rfl) rfl _ w0, (Sh.step_any s hok blk w (b3.trans l2) hbl).mono ?_⟩
      rintro e w' ⟨rfl, hg⟩
      obtain ⟨s1, s2⟩ := rel.grown (Below.of_grown hg (Nat.le_refl _) (fun g h => by cases h))
      refine ⟨_, ι, rfl, s1, s2, ?_⟩
      rw [Sh.stepF_eq, intsOf_eq]
      exact .agg _ _ (ints_VL _ _ _) (fun a ha => by obtain ⟨n, _, rfl⟩ := List.mem_map.1 ha; rfl)
end Ev
end Go.Proofs.YtfpghnldcbhniaaGreat
