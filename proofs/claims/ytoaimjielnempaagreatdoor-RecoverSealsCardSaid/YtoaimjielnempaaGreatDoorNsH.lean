/- The state behind a block, as the run reckons it. sha.Step in the run. cmp.Compare at uint64 in the run. -/
import Derived.Test.YtoaimjielnempaaGreatDoorShE
import Derived.Test.YtoaimjielnempaaGreatDoorNsE
import Derived.Shelf.SlIterI.Nil
namespace Go.Proofs.YtoaimjielnempaaGreatDoor
set_option linter.unusedVariables false
set_option linter.unusedSimpArgs false
open Go.RowKit Go.Maps
namespace Sh
noncomputable def lhd {β : Type} (l : List Nat) (f : Nat → List Nat → β) : β := List.rec (motive := fun _ => β) (f 0 []) (fun x l _ => f x l) l
noncomputable def lat (l : List Nat) : Nat → Nat := List.rec (motive := fun _ => Nat → Nat) (fun _ => 0) (fun a _ ih n => Nat.rec (motive := fun _ => Nat) a (fun m _ => ih m) n) l
theorem lat_eq : ∀ (l : List Nat) (n : Nat), lat l n = l.getD n 0
  | [], n => by simp [lat, List.getD]
  | a :: l, 0 => rfl
  | a :: l, n + 1 => by
    show lat l n = _
    rw [lat_eq l n]
    simp [List.getD]
/-- Words, the newest first. -/
noncomputable def more (n : Nat) : List Nat → List Nat :=
  Nat.rec (motive := fun _ => List Nat → List Nat) (fun R => R) (fun _ ih R => ih (add32 (add32 (add32 (sig1 (lat R 1)) (lat R 6)) (sig0 (lat R 14))) (lat R 15) :: R)) n
theorem getD_rev {l : List Nat} {i : Nat} (h : i < l.length) : l.reverse.getD i 0 = l.getD (l.length - 1 - i) 0 := by
  simp [List.getD, List.getElem?_reverse h]
theorem more_eq (w : List Nat) (hw : w.length = 16) : ∀ n k, more n (sched w k).reverse = (sched w (k + n)).reverse
  | 0, k => rfl
  | n + 1, k => by
    have hlen : (sched w k).length = 16 + k := by rw [sched_len, hw]
    show more n (add32 (add32 (add32 (sig1 (lat (sched w k).reverse 1)) (lat (sched w k).reverse 6)) (sig0 (lat (sched w k).reverse 14))) (lat (sched w k).reverse 15) :: (sched w k).reverse) = _
    have e : add32 (add32 (add32 (sig1 (lat (sched w k).reverse 1)) (lat (sched w k).reverse 6)) (sig0 (lat (sched w k).reverse 14))) (lat (sched w k).reverse 15) = next (sched w k) (16 + k) := by
      unfold next
      rw [lat_eq, lat_eq, lat_eq, lat_eq, getD_rev (by omega), getD_rev (by omega), getD_rev (by omega), getD_rev (by omega), hlen]
      rw [show 16 + k - 1 - 1 = 16 + k - 2 by omega, show 16 + k - 1 - 6 = 16 + k - 7 by omega, show 16 + k - 1 - 14 = 16 + k - 15 by omega, show 16 + k - 1 - 15 = 16 + k - 16 by omega]
    rw [e]
    have e2 : next (sched w k) (16 + k) :: (sched w k).reverse = (sched w (k + 1)).reverse := by
      show _ = (sched w k ++ [next (sched w k) (16 + k)]).reverse
      simp
    rw [e2, more_eq w hw n (k + 1), show k + 1 + n = k + (n + 1) by omega]
noncomputable def goF (ks : List Nat) : List Nat → Nat → Nat → Nat → Nat → Nat → Nat → Nat → Nat → List Nat :=
  List.rec (motive := fun _ => List Nat → Nat → Nat → Nat → Nat → Nat → Nat → Nat → Nat → List Nat) (fun _ a b c d e f g h => [a, b, c, d, e, f, g, h])
    (fun k _ ih ws a b c d e f g h => lhd ws fun w ws' => (fun t => ih ws' (add32 (add32 t (big0 a)) (maj a b c)) a b c (add32 d t) e f g) (add32 (add32 (add32 (add32 h (big1 e)) (chf e f g)) k) w)) ks
theorem rnds_cons (s : St) (k w : Nat) (ks ws : List Nat) : ∀ n, rnds s (k :: ks) (w :: ws) (n + 1) = rnds (rnd s k w) ks ws n
  | 0 => rfl
  | n + 1 => by
    show rnd (rnds s (k :: ks) (w :: ws) (n + 1)) ((k :: ks).getD (n + 1) 0) ((w :: ws).getD (n + 1) 0) = rnd (rnds (rnd s k w) ks ws n) (ks.getD n 0) (ws.getD n 0)
    rw [rnds_cons s k w ks ws n]
    rfl
theorem goF_eq : ∀ (ks ws : List Nat) (s : St), ks.length ≤ ws.length → goF ks ws s.a s.b s.c s.d s.e s.f s.g s.h = (rnds s ks ws ks.length).list
  | [], ws, s, _ => rfl
  | k :: ks, [], s, h => by simp at h
  | k :: ks, w :: ws, s, h => by
    show goF ks ws (rnd s k w).a (rnd s k w).b (rnd s k w).c (rnd s k w).d (rnd s k w).e (rnd s k w).f (rnd s k w).g (rnd s k w).h = _
    rw [goF_eq ks ws (rnd s k w) (by simpa using h)]
    show _ = (rnds s (k :: ks) (w :: ws) (ks.length + 1)).list
    rw [rnds_cons]
/-- The words of bytes, the newest first. -/
noncomputable def bytesW (n : Nat) : List Nat → List Nat → List Nat :=
  Nat.rec (motive := fun _ => List Nat → List Nat → List Nat) (fun _ R => R)
    (fun _ ih l R => lhd l fun a l => lhd l fun b l => lhd l fun c l => lhd l fun d l => ih l (Nat.lor (Nat.mul (Nat.lor (Nat.mul (Nat.lor (Nat.mul (Nat.lor (Nat.mul 0 256) a) 256) b) 256) c) 256) d :: R)) n
theorem lhd_drop {β : Type} (l : List Nat) (i : Nat) (f : Nat → List Nat → β) : lhd (l.drop i) f = f (l.getD i 0) (l.drop (i + 1)) := by
  by_cases h : i < l.length
  · rw [List.drop_eq_getElem_cons h]
    show f l[i] (l.drop (i + 1)) = _
    simp [List.getD, h]
  · rw [List.drop_eq_nil_of_le (by omega), List.drop_eq_nil_of_le (by omega)]
    show f 0 [] = _
    rw [gd_none (by omega)]
theorem bytesW_succ (n : Nat) (l R : List Nat) : bytesW (n + 1) l R = lhd l fun a l => lhd l fun b l => lhd l fun c l => lhd l fun d l => bytesW n l (Nat.lor (Nat.mul (Nat.lor (Nat.mul (Nat.lor (Nat.mul (Nat.lor (Nat.mul 0 256) a) 256) b) 256) c) 256) d :: R) := rfl
theorem bytesW_eq (blk : List Nat) : ∀ n i, i + n = 16 → bytesW n (blk.drop (4 * i)) (((List.range i).map fun k => pw blk k 4).reverse) = (w16 blk).reverse
  | 0, i, h => by
    obtain rfl : i = 16 := by omega
    rfl
  | n + 1, i, h => by
    rw [bytesW_succ, lhd_drop, lhd_drop, lhd_drop, lhd_drop]
    have ih := bytesW_eq blk n (i + 1) (by omega)
    rw [show 4 * (i + 1) = 4 * i + 1 + 1 + 1 + 1 by omega, List.range_succ, List.map_append, List.reverse_append] at ih
    exact ih
noncomputable def add8 (l m : List Nat) : List Nat := List.rec (motive := fun _ => List Nat → List Nat) (fun _ => []) (fun a _ ih m => lhd m fun b m => add32 a b :: ih m) l m
noncomputable def stepF (x : List Nat) (blk : List Nat) : List Nat :=
  lhd x fun a x1 => lhd x1 fun b x1 => lhd x1 fun c x1 => lhd x1 fun d x1 => lhd x1 fun e x1 => lhd x1 fun f x1 => lhd x1 fun g x1 => lhd x1 fun h _ =>
    add8 (goF ks (more 48 (bytesW 16 blk [])).reverse a b c d e f g h) x
theorem stepF_eq (x : St) (blk : List Nat) : stepF x.list blk = (sumS (rnds x ks (sched (w16 blk) 48) 64) x).list := by
  show add8 (goF ks (more 48 (bytesW 16 blk [])).reverse x.a x.b x.c x.d x.e x.f x.g x.h) x.list = _
  have h1 : bytesW 16 blk [] = (w16 blk).reverse := bytesW_eq blk 16 0 rfl
  have h2 := more_eq (w16 blk) (w16_len blk) 48 0
  have h3 : (sched (w16 blk) 0).reverse = (w16 blk).reverse := rfl
  rw [h3] at h2
  rw [h1, h2, List.reverse_reverse, Nat.zero_add, goF_eq ks _ x (by rw [sched_len, w16_len]; decide), ks_len]
  generalize rnds x ks (sched (w16 blk) 48) 64 = y
  rfl
end Sh
end Go.Proofs.YtoaimjielnempaaGreatDoor
namespace Go.Proofs.YtoaimjielnempaaGreatDoor
set_option linter.unusedVariables false
set_option linter.unusedSimpArgs false
open Go.RowKit Go.Maps Go.Sort Go.Shelf
namespace Ev
noncomputable def natsOf (k : IntKind) (lim : Nat) (l : List AV) : Option (List Nat) :=
  List.rec (motive := fun _ => Option (List Nat)) (some []) (fun a _ ih => a.int? none fun j n => bi (eqK j k) (Int.cas n (fun m => bi (Nat.blt m lim) (ob ih none fun r => some (m :: r)) none) fun _ => none) none) l
noncomputable def fN {β : Type} (n : Nat) (f : Nat → β) : β := Nat.cas n (f 0) fun p => f (Nat.succ p)
noncomputable def intsOf (k : IntKind) (l : List Nat) : List AV := List.rec (motive := fun _ => List AV) [] (fun n _ r => fN n fun n => .int k (.ofNat n) :: r) l
noncomputable def two {β : Type} (l : List AV) (d : β) (f : AV → AV → β) : β := List.rec (motive := fun _ => β) d (fun a l _ => one1 l d fun b => f a b) l
noncomputable def stepP (xs : List AV) (h : H) : E := two xs .no fun a b => a.agg? .no fun la => b.agg? .no fun lb => ob (natsOf .u32 4294967296 la) .no fun x => ob (natsOf .u8 256 lb) .no fun blk =>
  bi (Nat.beq (llen la) 8) (bi (Nat.beq (llen lb) 64) (.ok (.agg (intsOf .u32 (Sh.stepF x blk))) h) .no) .no
theorem fN_eq {β : Type} (n : Nat) (f : Nat → β) : fN n f = f n := by cases n <;> rfl
theorem intsOf_eq (k : IntKind) : ∀ l : List Nat, intsOf k l = l.map fun (n : Nat) => AV.int k (n : Int)
  | [] => rfl
  | n :: l => by
    show fN n (fun n => AV.int k (.ofNat n) :: intsOf k l) = _
    rw [fN_eq, intsOf_eq k l]
    rfl
theorem natsOf_VL {c : Cx} {k : IntKind} {lim : Nat} : ∀ {cs : List AV} {vs : List Value} {x : List Nat}, VL c cs vs → natsOf k lim cs = some x → vs = x.map (fun (n : Nat) => Value.int k (n : Int)) ∧ (∀ n ∈ x, n < lim) ∧ x.length = cs.length
  | _, _, x, .nil, e => by cases e; exact ⟨rfl, fun n h => (by cases h), rfl⟩
  | _, _, x, .cons (a := a) (al := al) h1 h2, e => by
    cases a with
    | int j n =>
      obtain ⟨hk, e1⟩ := bi_some (by simp) (show bi (eqK j k) (Int.cas n (fun m => bi (Nat.blt m lim) (ob (natsOf k lim al) none fun r => some (m :: r)) none) fun _ => none) none = some x from e)
      clear e
      cases eqK_eq hk
      cases n with
      | negSucc n => cases e1
      | ofNat n =>
        obtain ⟨hb, e3⟩ := bi_some (by simp) (show bi (Nat.blt n lim) (ob (natsOf k lim al) none fun r => some (n :: r)) none = some x from e1)
        clear e1
        rw [blt_eq] at hb
        have hb := of_decide_eq_true hb
        obtain ⟨r, e1, e2⟩ := ob_some (by simp) e3
        cases e2
        obtain ⟨g1, g2, g3⟩ := natsOf_VL h2 e1
        rw [h1.int_inv, g1]
        refine ⟨rfl, fun m hm => ?_, by simp [g3]⟩
        rcases List.mem_cons.1 hm with rfl | hm
        · exact hb
        · exact g2 m hm
    | _ => cases e
theorem ints_VL (c : Cx) (k : IntKind) : ∀ l : List Nat, VL c (l.map fun (n : Nat) => AV.int k (n : Int)) (l.map fun (n : Nat) => Value.int k (n : Int))
  | [] => .nil
  | n :: l => .cons (.int k _) (ints_VL c k l)
theorem two_ok {l : List AV} {f : AV → AV → E} {r : AV} {h' : H} (e : two l .no f = .ok r h') : ∃ a b, l = [a, b] ∧ f a b = .ok r h' := by
  cases l with
  | nil => cases e
  | cons a l =>
    obtain ⟨b, rfl, e⟩ := one1_ok (show one1 l E.no (fun b => f a b) = .ok r h' from e)
    exact ⟨a, b, rfl, e⟩
theorem agg_okE {v : AV} {f : List AV → E} {r : AV} {h : H} (e : v.agg? E.no f = .ok r h) : ∃ cs, v = .agg cs ∧ f cs = .ok r h := by
  cases v <;> first | cases e | exact ⟨_, rfl, e⟩
theorem st_of : ∀ {x : List Nat}, x.length = 8 → ∃ s : Sh.St, s.list = x
  | [a, b, c, d, e, f, g, h], _ => ⟨⟨a, b, c, d, e, f, g, h⟩, rfl⟩
theorem stepP_ok : OneOk Tryz.prog 204 stepP := by
  intro B W fit ι h w xs vs r h' rel hv e
  obtain ⟨a, b, rfl, e1⟩ := two_ok (show two xs E.no _ = _ from e)
  obtain ⟨la, rfl, e2⟩ := agg_okE e1
  obtain ⟨lb, rfl, e3⟩ := agg_okE e2
  obtain ⟨x, hx, e4⟩ := obE e3
  obtain ⟨blk, hb, e5⟩ := obE e4
  obtain ⟨l1, e6⟩ := biE e5
  obtain ⟨l2, e7⟩ := biE e6
  obtain ⟨e8, e9⟩ := okE e7
  have l1 := Nat.eq_of_beq_eq_true l1
  have l2 := Nat.eq_of_beq_eq_true l2
  rw [llen_eq] at l1 l2
  subst e8 e9
  clear e e1 e2 e3 e4 e5 e6 e7
  cases hv with
  | cons ha hv =>
    cases hv with
    | cons hb2 hnil =>
      cases hnil
      obtain ⟨va, rfl, ha1, _⟩ := ha.agg_inv
      obtain ⟨vb, rfl, hb1, _⟩ := hb2.agg_inv
      obtain ⟨rfl, a2, a3⟩ := natsOf_VL ha1 hx
      obtain ⟨rfl, b2, b3⟩ := natsOf_VL hb1 hb
      obtain ⟨s, rfl⟩ := st_of (a3.trans l1)
      have hok : s.ok := by
        refine ⟨?_, ?_, ?_, ?_, ?_, ?_, ?_, ?_⟩ <;> exact a2 _ (by simp [Sh.St.list])
      have hbl : ∀ i, blk.getD i 0 < 256 := fun i => by
        by_cases hi : i < blk.length
        · have : blk.getD i 0 = blk[i] := by simp [List.getD, hi]
          rw [this]
          exact b2 _ (List.getElem_mem hi)
        · rw [Sh.gd_none (by omega)]
          decide
      refine ⟨fun w0 => enters_of Tryz.func204 (by kernel_rfl) rfl _ w0, (Sh.step_any s hok blk w (b3.trans l2) hbl).mono ?_⟩
      rintro e w' ⟨rfl, hg⟩
      obtain ⟨s1, s2⟩ := rel.grown (Below.of_grown hg (Nat.le_refl _) (fun g h => by cases h))
      refine ⟨_, ι, rfl, s1, s2, ?_⟩
      rw [Sh.stepF_eq, intsOf_eq]
      exact .agg _ _ (ints_VL _ _ _) (fun a ha => by obtain ⟨n, _, rfl⟩ := List.mem_map.1 ha; rfl)
end Ev
end Go.Proofs.YtoaimjielnempaaGreatDoor
namespace Go.Proofs.YtoaimjielnempaaGreatDoor
set_option linter.unusedVariables false
set_option linter.unusedSimpArgs false
open Go.RowKit Go.Maps Go.Sort Go.Shelf
namespace Ev
theorem nan_any (x : Int) (w : World) : Calls Tryz.prog 426 #[.int .u64 x] w fun e w' => e = .returned (.bool false) ∧ w = w' := by
  go_enter Tryz.func426, Tryz.ntmps426
  go_wp2
  go_ret
  exact ⟨rfl, rfl⟩
def cmpI (x y : Int) : Int := if x < y then -1 else if y < x then 1 else 0
theorem cmp_any (x y : Int) (w : World) : Calls Tryz.prog 407 #[.int .u64 x, .int .u64 y] w fun e w' => e = .returned (.int .i64 (cmpI x y)) ∧ w = w' := by
  unfold cmpI
  by_cases h1 : x < y
  · rw [if_pos h1]
    go_enter Tryz.func407, Tryz.ntmps407
    go_wp2_with (go_at_call 426; refine (nan_any _ _).mono ?_; rintro e w' ⟨rfl, rfl⟩)
    go_ret
    exact ⟨rfl, rfl⟩
  · rw [if_neg h1]
    have e1 : (x < y) = False := eq_false h1
    by_cases h2 : y < x
    · rw [if_pos h2]
      clear h1
      go_enter Tryz.func407, Tryz.ntmps407
      go_wp2_with (go_at_call 426; refine (nan_any _ _).mono ?_; rintro e w' ⟨rfl, rfl⟩)
      go_ret
      exact ⟨rfl, rfl⟩
    · rw [if_neg h2]
      have e2 : (y < x) = False := eq_false h2
      clear h1 h2
      go_enter Tryz.func407, Tryz.ntmps407
      go_wp2_with (go_at_call 426; refine (nan_any _ _).mono ?_; rintro e w' ⟨rfl, rfl⟩)
      go_ret
      exact ⟨rfl, rfl⟩
noncomputable def cmpP (xs : List AV) (h : H) : E := two xs .no fun a b => a.int? .no fun j x => b.int? .no fun k y => bi (and' (eqK j .u64) (eqK k .u64)) (bi (ltI x y) (.ok (.int .i64 (-1)) h) (bi (ltI y x) (.ok (.int .i64 1) h) (.ok (.int .i64 0) h))) .no
theorem cmpP_ok : OneOk Tryz.prog 407 cmpP := by
  intro B W fit ι h w xs vs r h' rel hv e
  obtain ⟨a, b, rfl, e1⟩ := two_ok (show two xs E.no _ = _ from e)
  obtain ⟨j, x, rfl, e2⟩ := int_ok e1
  obtain ⟨k, y, rfl, e3⟩ := int_ok e2
  obtain ⟨hk, e4⟩ := biE e3
  obtain ⟨hj, hk⟩ := and'_eq hk
  cases eqK_eq hj
  cases eqK_eq hk
  have e5 : r = .int .i64 (cmpI x y) ∧ h' = h := by
    unfold cmpI
    cases h1 : ltI x y with
    | true =>
      rw [h1] at e4
      obtain ⟨g1, g2⟩ := okE e4
      rw [if_pos ((ltI_iff _ _).1 h1)]
      exact ⟨g1.symm, g2.symm⟩
    | false =>
      rw [h1] at e4
      have n1 : ¬ x < y := fun h => by rw [(ltI_iff _ _).2 h] at h1; cases h1
      rw [if_neg n1]
      cases h2 : ltI y x with
      | true =>
        rw [h2] at e4
        obtain ⟨g1, g2⟩ := okE e4
        rw [if_pos ((ltI_iff _ _).1 h2)]
        exact ⟨g1.symm, g2.symm⟩
      | false =>
        rw [h2] at e4
        obtain ⟨g1, g2⟩ := okE e4
        have n2 : ¬ y < x := fun h => by rw [(ltI_iff _ _).2 h] at h2; cases h2
        rw [if_neg n2]
        exact ⟨g1.symm, g2.symm⟩
  obtain ⟨rfl, rfl⟩ := e5
  cases hv with
  | cons hx hv =>
    cases hv with
    | cons hy hnil =>
      cases hnil
      rw [hx.int_inv, hy.int_inv]
      refine ⟨fun w0 => enters_of Tryz.func407 (by kernel_rfl) rfl _ w0, (cmp_any x y w).mono ?_⟩
      rintro e w' ⟨rfl, rfl⟩
      exact ⟨_, ι, rfl, rel, Ext.refl _ _ _, .int _ _⟩
end Ev
end Go.Proofs.YtoaimjielnempaaGreatDoor
