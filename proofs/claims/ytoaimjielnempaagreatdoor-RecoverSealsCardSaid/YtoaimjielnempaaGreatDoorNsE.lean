/- strings.Builder in the run: copyCheck and String. strings.Builder in the run: what copyCheck and String give. What a call at given values gives is known once it was reckoned. -/
import Derived.Test.YtoaimjielnempaaGreatDoorNsD
import Derived.Lib.Builder
import Derived.Lib.UnsafeStr
import Derived.RegionTactic
import Derived.Shelf.SlIterI.Nil
namespace Go.Proofs.YtoaimjielnempaaGreatDoor
set_option linter.unusedVariables false
set_option linter.unusedSimpArgs false
open Go.RowKit Go.Maps
namespace Ev
noncomputable def one1 {α β : Type} (l : List α) (d : β) (f : α → β) : β := List.rec (motive := fun _ => β) d (fun x l _ => List.rec (motive := fun _ => β) (f x) (fun _ _ _ => d) l) l
theorem one1_ok {α : Type} {l : List α} {f : α → E} {r : AV} {h' : H} (e : one1 l .no f = .ok r h') : ∃ x, l = [x] ∧ f x = .ok r h' := by
  cases l with
  | nil => cases e
  | cons x l =>
    cases l with
    | nil => exact ⟨x, rfl, e⟩
    | cons _ _ => cases e
/-- Types of blocks at whose front a Builder lies. -/
def bldT (t : Nat) : Bool := Nat.beq t 281 || Nat.beq t 279
noncomputable def chkB (xs : List AV) (h : H) : E :=
  one1 xs .no fun x => x.ptr? .no fun b o => bi (Nat.beq o 0) (cellsAt h b .no fun cs t fz => bi (bldT t) (bi (Nat.beq fz 0) (bi (Nat.ble 2 (llen cs))
    (ob (lget cs 0) .no fun a => bi (sameAV .nilp a) (ob (lput [.ptr b 0] 0 cs) .no fun cs' => .ok (.tuple []) (h.put b (.cells cs' t fz))) (bi (sameAV (.ptr b 0) a) (.ok (.tuple []) h) .no)) .no) .no) .no) .no
noncomputable def bytesOk (l : List AV) : Bool := List.rec (motive := fun _ => Bool) true (fun a _ r => a.int? false fun k n => Int.cas n (fun m => and' (Nat.blt m 256) r) fun _ => false) l
noncomputable def strB (xs : List AV) (h : H) : E :=
  one1 xs .no fun x => x.ptr? .no fun b o => bi (Nat.beq o 0) (cellsAt h b .no fun cs t fz => ob (lget cs 1) .no fun s => s.slice? .no (.ok (.str []) h) fun g o' n cap sz => bi (and' (Nat.beq o' 0) (and' (Nat.beq sz 1) (and' (Nat.blt 0 n) (Nat.blt n 1000000000))))
    (cellsAt h g .no fun ds t fz => bi (Nat.beq t 5) (ob (ltake ds n) .no fun l => ob (bytesOf l) .no fun bs => bi (bytesOk l) (.ok (.str bs) (h.kill g)) .no) .no) .no) .no
theorem sizeBld : (Tryz.prog.info? 279).map (fun x => x.size) = some 2 := by kernel_rfl
theorem undPBld : Tryz.prog.underlying 277 = some (.pointer 279) := by kernel_rfl
theorem undUnsafe : Tryz.prog.underlying 424 = some .unsafePointer := by kernel_rfl
theorem undPByte : Tryz.prog.underlying 356 = some (.pointer 5) := by kernel_rfl
theorem cellsByte : Tryz.prog.cellsOf 5 = 1 := by kernel_rfl
theorem cellsW : Tryz.prog.cellsOf 281 = 2 := by kernel_rfl
theorem cellsB : Tryz.prog.cellsOf 279 = 2 := by kernel_rfl
theorem liesW : ∀ n, liesAt Tryz.prog Tryz.prog.depth 281 (Nat.succ n) 0 279 1 = true := by intro n; kernel_rfl
theorem liesB : ∀ n, liesAt Tryz.prog Tryz.prog.depth 279 (Nat.succ n) 0 279 1 = true := by intro n; kernel_rfl
theorem lies_bld {t n : Nat} (ht : bldT t = true) (hn : 2 ≤ n) : liesAt Tryz.prog Tryz.prog.depth t (n / Tryz.prog.cellsOf t) 0 279 1 = true := by
  obtain ⟨m, hm⟩ : ∃ m, n / 2 = Nat.succ m := ⟨n / 2 - 1, by omega⟩
  unfold bldT at ht
  rw [Bool.or_eq_true] at ht
  rcases ht with ht | ht
  · have ht := Nat.eq_of_beq_eq_true ht
    subst ht
    rw [cellsW, hm]
    exact liesW m
  · have ht := Nat.eq_of_beq_eq_true ht
    subst ht
    rw [cellsB, hm]
    exact liesB m
abbrev pq (b : Nat) : Value := .pointer (some ⟨b, 0, none⟩)
set_option maxHeartbeats 1000000 in
set_option maxRecDepth 100000 in
theorem check_used (b : Nat) (w : World) (h0 : w.cell? ⟨b, 0, none⟩ = some (pq b)) : Calls Tryz.prog 261 #[pq b] w fun e w' => e = .returned (.tuple #[]) ∧ w' = w := by
  obtain ⟨j, hj, _⟩ := Option.map_eq_some_iff.1 sizeBld
  go_enter Tryz.func261, Tryz.ntmps261
  go_wp2
  rw [Lib.run_neq_ptr_same w _ Tryz.underlying277 hj]
  go_wp2
  go_end0
  exact ⟨rfl, rfl⟩
set_option maxHeartbeats 1000000 in
set_option maxRecDepth 100000 in
theorem check_fresh (b t n : Nat) (w : World) (h0 : w.cell? ⟨b, 0, none⟩ = some (.pointer none)) (hsh : w.shape? b = some (t, n)) (ht : bldT t = true) (hn : 2 ≤ n) (hfz : w.frozen? ⟨b, 0, none⟩ = false) :
    Calls Tryz.prog 261 #[pq b] w fun e w' => e = .returned (.tuple #[]) ∧ w' = w.setCell ⟨b, 0, none⟩ (pq b) := by
  obtain ⟨j, hj, hjs⟩ := Option.map_eq_some_iff.1 sizeBld
  have hl := lies_bld ht hn
  have h0n : 0 < n := by omega
  go_enter Tryz.func261, Tryz.ntmps261
  go_wp2
  rw [Lib.run_to_unsafe w ⟨b, 0, none⟩ Tryz.underlying277 Tryz.underlying424 hj (by rw [hjs]; decide) hsh h0n]
  simp only [Result.andThen]
  rw [Oper.upon_value]
  go_wp2
  rw [run_callFunc_extern Tryz.func336 (by kernel_rfl) (by kernel_rfl) (by kernel_rfl) (e := Extern.AbiNoEscape.same) (by kernel_rfl)]
  rw [Lib.run_noEscape]
  simp only [Result.andThen]
  rw [Oper.upon_value]
  go_wp2
  rw [Lib.run_from_unsafe w ⟨b, 0, none⟩ Tryz.underlying424 Tryz.underlying277 hj hsh hl]
  simp only [Result.andThen]
  rw [Oper.upon_value]
  go_wp2
  go_end0
  exact ⟨rfl, rfl⟩
set_option maxHeartbeats 1000000 in
set_option maxRecDepth 100000 in
theorem bld_text (b g cap sz : Nat) (l : List UInt8) (w : World) (h0 : l ≠ []) (hc : w.cell? ⟨b, 1, none⟩ = some (.slice (some ⟨g, 0, none⟩) l.length cap)) (hcap : l.length ≤ cap) (hsh : w.shape? g = some (5, sz)) (hn : l.length ≤ sz) (h63 : l.length ≤ 9223372036854775807)
    (hcell : ∀ j x, l[j]? = some x → w.cell? ((⟨g, 0, none⟩ : Addr).add j) = some (.int .u8 x.toNat)) :
    Calls Tryz.prog 186 #[pq b] w fun e w' => e = .returned (.string ⟨l.toArray⟩) ∧ w' = w.drew.freeze ⟨g, 0, none⟩ l.length := by
  have hl0 : l.length ≠ 0 := by simpa using h0
  have c1 : w.drew.cell? ⟨b, 1, none⟩ = some (.slice (some ⟨g, 0, none⟩) l.length cap) := hc
  have hSD : (Builtin.unsafeSliceData_ #[34] 356 #[.slice (some ⟨g, 0, none⟩) l.length cap]).run Tryz.prog w.drew = .ok (pq g) w.drew := Lib.run_unsafeSliceData_row _ _ _ _ _ _ (by omega)
  have hUS : (Builtin.unsafeString_ #[356, 3] 9 #[pq g, .int .i64 l.length]).run Tryz.prog w.drew = .ok (.string ⟨l.toArray⟩) (w.drew.freeze ⟨g, 0, none⟩ l.length) :=
    Lib.run_unsafeString_row w.drew 356 3 9 5 Tryz.underlying356 cellsByte g sz hsh l h0 hn h63 hcell
  clear hcap hn h63 hcell hl0 h0
  go_enter Tryz.func186, Tryz.ntmps186
  go_wp2
  go_region
  all_goals (go_wp2; go_ret; exact ⟨rfl, rfl⟩)
set_option maxHeartbeats 1000000 in
set_option maxRecDepth 100000 in
theorem bld_none (b : Nat) (w : World) (hc : w.cell? ⟨b, 1, none⟩ = some (.slice none 0 0)) :
    Calls Tryz.prog 186 #[pq b] w fun e w' => e = .returned (.string .empty) ∧ w' = w.drew := by
  have c1 : w.drew.cell? ⟨b, 1, none⟩ = some (.slice none 0 0) := hc
  have hSD : (Builtin.unsafeSliceData_ #[34] 356 #[.slice none 0 0]).run Tryz.prog w.drew = .ok (.pointer none) w.drew := rfl
  have hUS : (Builtin.unsafeString_ #[356, 3] 9 #[.pointer none, .int .i64 0]).run Tryz.prog w.drew = .ok (.string .empty) w.drew := rfl
  go_enter Tryz.func186, Tryz.ntmps186
  go_wp2
  go_region
  all_goals (go_wp2; go_ret; exact ⟨rfl, rfl⟩)
end Ev
end Go.Proofs.YtoaimjielnempaaGreatDoor
namespace Go.Proofs.YtoaimjielnempaaGreatDoor
set_option linter.unusedVariables false
set_option linter.unusedSimpArgs false
open Go.RowKit Go.Maps Go.Sort Go.Shelf
namespace Ev
theorem take_get {l : List Value} {n i : Nat} {v : Value} (h : (l.take n)[i]? = some v) : l[i]? = some v := by
  rw [List.getElem?_take] at h
  split at h
  · exact h
  · cases h
theorem chkB_ok : OneOk Tryz.prog 261 chkB := by
  intro B W fit ι h w xs vs r h' rel hv e
  obtain ⟨x, rfl, e1⟩ := one1_ok (show one1 xs E.no _ = _ from e)
  obtain ⟨b, o, rfl, e2⟩ := ptr_ok e1
  obtain ⟨ho, e3⟩ := biE e2
  have ho := Nat.eq_of_beq_eq_true ho
  obtain ⟨cs, t, fz, hb, e4⟩ := at_cells e3
  obtain ⟨ht, e5⟩ := biE e4
  obtain ⟨hfz, e6⟩ := biE e5
  obtain ⟨hlen, e7⟩ := biE e6
  obtain ⟨a, ha, e8⟩ := obE e7
  subst ho
  have hfz := Nat.eq_of_beq_eq_true hfz
  subst hfz
  have hlen := Nat.le_of_ble_eq_true hlen
  rw [llen_eq] at hlen
  clear e e1 e2 e3 e4 e5 e6 e7
  cases hv with
  | cons hx hnil =>
    cases hnil
    obtain ⟨q, o', rfl, j1, j2⟩ := hx.ptr_inv
    obtain ⟨hq, rfl⟩ := j2 ⟨_, hb⟩
    obtain ⟨c', lo, hi, k1, k2, k3, k4, k5⟩ := block_cells rel hb hq
    have ha' : cs[0]? = some a := by rw [← lget_eq]; exact ha
    obtain ⟨v0, hv0, hvm⟩ := k3.get 0 ha'
    have hcell : w.cell? ⟨q, 0, none⟩ = some v0 := by
      have h1 : c'[0]? = some v0 := by simpa using take_get hv0
      simp [World.cell?, k1, h1]
    have enter : ∀ w0, (callFunc 261 #[pq q]).run Tryz.prog w0 = .ok (.enter 261 #[pq q]) w0 := fun w0 => enters_of Tryz.func261 (by kernel_rfl) rfl _ w0
    cases hs : sameAV .nilp a with
    | true =>
      rw [hs] at e8
      have := sameAV_eq _ _ hs
      subst this
      obtain ⟨cs', hp, e9⟩ := obE (show ob (lput [.ptr b 0] 0 cs) E.no _ = _ from e8)
      obtain ⟨e10, e11⟩ := okE e9
      subst e10 e11
      cases hvm
      have hsh : w.shape? q = some (t, c'.size) := by simp [World.shape?, k1]
      have hfr : w.frozen? ⟨q, 0, none⟩ = false := by
        simp only [World.frozen?, k1]
        rw [Bool.and_eq_false_iff]
        by_cases hlo : lo ≤ 0
        · right
          rw [decide_eq_false_iff_not]
          intro hhi
          have := k5 0 hlo hhi (by omega)
          omega
        · left
          exact decide_eq_false hlo
      obtain ⟨g1, g2, g3⟩ := store_block rel hb hq (Nat.le_refl 0) (VL.one (V.ptr b 0 q 0 j1 (fun _ => ⟨hq, rfl⟩))) (by intro a ha; rw [List.mem_singleton.1 ha]; rfl) hp
      refine ⟨enter, (check_fresh q t c'.size w hcell hsh ht (by omega) hfr).mono ?_⟩
      rintro e w' ⟨rfl, rfl⟩
      exact ⟨_, ι, rfl, g2, g3, .tuple [] [] .nil⟩
    | false =>
      rw [hs] at e8
      obtain ⟨hs2, e9⟩ := biE (show bi (sameAV (.ptr b 0) a) _ E.no = _ from e8)
      obtain ⟨e10, e11⟩ := okE e9
      subst e10 e11
      have := sameAV_eq _ _ hs2
      subst this
      obtain ⟨q2, o2, rfl, j3, j4⟩ := hvm.ptr_inv
      obtain ⟨hq2, rfl⟩ := j4 ⟨_, hb⟩
      have : q2 = q := by
        have h1 : (cx ι h w).ι b = some q := hq
        rw [h1] at hq2
        exact (Option.some.inj hq2).symm
      subst this
      refine ⟨enter, (check_used q2 w hcell).mono ?_⟩
      rintro e w' ⟨rfl, rfl⟩
      exact ⟨_, ι, rfl, rel, Ext.refl _ _ _, .tuple [] [] .nil⟩
theorem bytesOk_VL {c : Cx} : ∀ {cs : List AV} {vs : List Value} {s : List UInt8}, VL c cs vs → bytesOf cs = some s → bytesOk cs = true → vs = s.map fun x => Value.int .u8 (x.toNat : Int)
  | _, _, s, .nil, e, _ => by cases e; rfl
  | _, _, s, .cons (a := a) (al := al) h1 h2, e, e' => by
    cases a with
    | int k n =>
      obtain ⟨hk, e⟩ := bi_some (by simp) (show bi (eqK k .u8) (Int.cas n (fun m => ob (bytesOf al) none fun r => some (UInt8.ofNat m :: r)) fun _ => none) none = some s from e)
      cases eqK_eq hk
      cases n with
      | negSucc n => cases e
      | ofNat n =>
        obtain ⟨r, e1, e2⟩ := ob_some (by simp) (show ob (bytesOf al) none (fun r => some (UInt8.ofNat n :: r)) = some s from e)
        cases e2
        obtain ⟨h3, h4⟩ := and'_eq (show and' (Nat.blt n 256) (bytesOk al) = true from e')
        rw [blt_eq] at h3
        have h3 := of_decide_eq_true h3
        rw [bytesOk_VL h2 e1 h4, h1.int_inv]
        simp [Nat.mod_eq_of_lt h3]
    | _ => cases e
theorem wup_freeze (w : World) (q n : Nat) : WUp w (w.freeze ⟨q, 0, none⟩ n) q := by
  unfold World.freeze
  split
  · exact WUp.refl w q
  · exact ⟨rfl, rfl, rfl, by simp, fun y hy => by simp [Array.getElem?_modify, Ne.symm hy]⟩
theorem strB_ok : OneOk Tryz.prog 186 strB := by
  intro B W fit ι h w xs vs r h' rel hv e
  obtain ⟨x, rfl, e1⟩ := one1_ok (show one1 xs E.no _ = _ from e)
  obtain ⟨b, o, rfl, e2⟩ := ptr_ok e1
  obtain ⟨ho, e3⟩ := biE e2
  have ho := Nat.eq_of_beq_eq_true ho
  obtain ⟨cs, t, fz, hb, e4⟩ := at_cells e3
  obtain ⟨a, ha, e8⟩ := obE e4
  subst ho
  clear e e1 e2 e3 e4
  cases hv with
  | cons hx hnil =>
    cases hnil
    obtain ⟨q, o', rfl, j1, j2⟩ := hx.ptr_inv
    obtain ⟨hq, rfl⟩ := j2 ⟨_, hb⟩
    obtain ⟨c', lo, hi, k1, k2, k3, k4, k5⟩ := block_cells rel hb hq
    have ha' : cs[1]? = some a := by rw [← lget_eq]; exact ha
    obtain ⟨v0, hv0, hvm⟩ := k3.get 1 ha'
    have hcell : w.cell? ⟨q, 1, none⟩ = some v0 := by
      have h1 : c'[1]? = some v0 := by simpa using take_get hv0
      simp [World.cell?, k1, h1]
    have enter : ∀ w0, (callFunc 186 #[pq q]).run Tryz.prog w0 = .ok (.enter 186 #[pq q]) w0 := fun w0 => enters_of Tryz.func186 (by kernel_rfl) rfl _ w0
    obtain ⟨dr1, dr2⟩ := rel.drew
    rcases slice_ok' e8 with ⟨rfl, e9⟩ | ⟨g, og, n, cap, sz, rfl, e9⟩
    · obtain ⟨e10, e11⟩ := okE e9
      subst e10 e11
      cases hvm
      refine ⟨enter, (bld_none q w hcell).mono ?_⟩
      rintro e w' ⟨rfl, rfl⟩
      exact ⟨_, ι, rfl, dr1, dr2, .str []⟩
    · obtain ⟨hc, e10⟩ := biE e9
      obtain ⟨hog, hc⟩ := and'_eq hc
      obtain ⟨hsz, hc⟩ := and'_eq hc
      obtain ⟨hn0, hn1⟩ := and'_eq hc
      have hog := Nat.eq_of_beq_eq_true hog
      have hsz := Nat.eq_of_beq_eq_true hsz
      rw [blt_eq] at hn0 hn1
      have hn0 := of_decide_eq_true hn0
      have hn1 := of_decide_eq_true hn1
      subst hog hsz
      obtain ⟨ds, t2, fz2, hg, e11⟩ := at_cells e10
      obtain ⟨ht2, e12⟩ := biE e11
      have ht2 := Nat.eq_of_beq_eq_true ht2
      subst ht2
      obtain ⟨l, hl, e13⟩ := obE e12
      obtain ⟨bs, hbs, e14⟩ := obE e13
      obtain ⟨hok, e15⟩ := biE e14
      obtain ⟨e16, e17⟩ := okE e15
      subst e16 e17
      obtain ⟨hl1, rfl⟩ := ltake_some hl
      obtain ⟨y, o2, c2, rfl, g1, g2, g3, g4⟩ := hvm.slice_inv
      obtain ⟨hy, hy2, hy3⟩ := g4 ⟨_, hg⟩
      have ho2 : o2 = 0 := by
        rcases hy2 with h1 | h1
        · exact h1
        · omega
      subst ho2
      obtain ⟨d', lo2, hi2, m1, m2, m3, m4, m5⟩ := block_cells rel hg hy
      have hv2 := bytesOk_VL (m3.take n) hbs hok
      rw [List.take_take, Nat.min_eq_left hl1] at hv2
      have hlen : bs.length = n := by
        have := congrArg List.length hv2
        simp at this
        omega
      have hne : bs ≠ [] := by
        intro h0
        rw [h0] at hlen
        simp at hlen
        omega
      have hsh : w.shape? y = some (5, d'.size) := by simp [World.shape?, m1]
      have hcells : ∀ j x, bs[j]? = some x → w.cell? ((⟨y, 0, none⟩ : Addr).add j) = some (.int .u8 x.toNat) := fun j x hj => by
        have h1 : (d'.toList.take n)[j]? = some (.int .u8 (x.toNat : Int)) := by rw [hv2]; simp [hj]
        have h2 : d'[j]? = some (.int .u8 (x.toNat : Int)) := by simpa using take_get h1
        have ha : (⟨y, 0, none⟩ : Addr).add j = ⟨y, j, none⟩ := by unfold Addr.add; split <;> simp_all
        rw [ha]
        simp [World.cell?, m1, h2]
      rw [← hlen] at hcell
      refine ⟨enter, (bld_text q y c2 d'.size bs w hne hcell (by omega) hsh (by omega) (by omega) hcells).mono ?_⟩
      rintro e w' ⟨rfl, rfl⟩
      have hheap : (w.drew.freeze ⟨y, 0, none⟩ bs.length).heap[y]? = some (.cells d' 5 (if lo2 == hi2 then (0, 0 + bs.length) else (min lo2 0, max hi2 (0 + bs.length)))) := by
        unfold World.freeze
        rw [if_neg (by omega)]
        have : w.drew.heap[y]? = some (.cells d' 5 (lo2, hi2)) := m1
        simp [Array.getElem?_modify, this]
      obtain ⟨s1, s2⟩ := dr1.wipe hg hy (wup_freeze w.drew y bs.length) (by unfold bsz; rw [hheap]; rw [show ({ w with drawn := w.drawn + 1 } : World).heap[y]? = some (.cells d' 5 (lo2, hi2)) from m1])
      exact ⟨_, ι, rfl, s1, Ext.trans rel dr2 s2, .str bs⟩
end Ev
end Go.Proofs.YtoaimjielnempaaGreatDoor
namespace Go.Proofs.YtoaimjielnempaaGreatDoor
set_option linter.unusedVariables false
set_option linter.unusedSimpArgs false
open Go.RowKit Go.Maps
namespace Ev
section
variable {P : Program} {B : Nat} {W : World} {ι : Pos → Option Nat} {h : H} {w w' : World}
/-- What lies outside is as it was, and blocks are made. -/
theorem Rel.grown (r : Rel P B W ι h w) (u : Below w.heap.size w w') : Rel P B W ι h w' ∧ Ext ι h w ι h w' := by
  have hold : ∀ y, y < w.heap.size → w'.heap[y]? = w.heap[y]? := fun y hy => u.block y hy
  have hbs : ∀ y, y < w.heap.size → bsz w' y = bsz w y := fun y hy => by unfold bsz; rw [hold y hy]
  have hle : (cx ι h w).Le (cx ι h w') := ⟨Nat.le_refl _, fun _ _ h => h, fun _ _ _ _ e => e, fun p y hp ⟨o', h1⟩ e => hbs y (r.ob p o' y h1 e).lt⟩
  have ext : Ext ι h w ι h w' := ⟨Nat.le_refl _, fun p o' _ hp => ⟨⟨o', hp⟩, rfl⟩, fun p o' y hn hp _ => absurd (r.fresh p o' hp) hn, u.size, hbs, fun y hy _ => hold y hy, u.os, u.tape, u.output⟩
  exact ⟨⟨r.fresh, fun p o' y hp hy => ObjR.mono hle (hold y (r.ob p o' y hp hy).lt) (r.ob p o' y hp hy), r.inj, r.base, r.low, ext.out r⟩, ext⟩
end
/-- The same values, none of them an address. -/
noncomputable def memo (xs0 : List AV) (r0 : AV) (xs : List AV) (h : H) : E := bi (sameL xs0 xs) (.ok r0 h) .no
theorem memo_ok {P : Program} {f : FuncId} {p : List AV → H → E} (hp : OneOk P f p) {xs0 : List AV} {r0 : AV} {h0 : H} {v : Value} (hr : ∀ (c : Cx) u, V c r0 u → u = v) (hr' : ∀ c : Cx, V c r0 v) (hx : ∀ (c d : Cx) us, VL c xs0 us → VL d xs0 us) (e : p xs0 H0 = .ok r0 h0) : OneOk P f (memo xs0 r0) := by
  intro B W fit ι h w xs vs r h' rel hv e1
  obtain ⟨h1, e2⟩ := biE (show bi (sameL xs0 xs) _ E.no = _ from e1)
  obtain ⟨e3, e4⟩ := okE e2
  subst e3 e4
  have := sameL_eq _ _ h1
  subst this
  obtain ⟨g1, g2⟩ := hp w.heap.size w (fit.on rel) (fun _ => none) H0 w xs0 vs r0 h0 (rel_start P w) (hx _ _ _ hv) e
  refine ⟨g1, g2.mono ?_⟩
  rintro e w' ⟨u, ι', h3, h4, h5, h6⟩
  have hu := hr _ _ h6
  subst hu
  obtain ⟨s1, s2⟩ := rel.grown h4.out
  exact ⟨_, ι, h3, s1, s2, hr' _⟩
/-! A table of such calls. -/
theorem concS_mk {c : Cx} {a : AV} {u : Value} (e : concS a = some u) : V c a u ∧ a.one = true := by
  cases a <;> simp only [concS, reduceCtorEq, Option.some.injEq] at e
  · subst e; exact ⟨.bool _, rfl⟩
  · subst e; exact ⟨.int _ _, rfl⟩
  · subst e; exact ⟨.str _, rfl⟩
theorem concL_mk {c : Cx} : ∀ {cs : List AV} {us : List Value}, concL cs = some us → VL c cs us ∧ ∀ a ∈ cs, a.one = true
  | [], us, e => by cases e; exact ⟨.nil, fun a h => by cases h⟩
  | a :: al, us, e => by
    simp only [concL] at e
    split at e
    · rename_i v r h3 h4
      cases e
      obtain ⟨g1, g2⟩ := concS_mk (c := c) h3
      obtain ⟨g3, g4⟩ := concL_mk (c := c) h4
      refine ⟨.cons g1 g3, fun b hb => ?_⟩
      rcases List.mem_cons.1 hb with rfl | hb
      · exact g2
      · exact g4 b hb
    · cases e
theorem conc_mk {c : Cx} {a : AV} {u : Value} (e : conc a = some u) : V c a u := by
  cases a with
  | agg cs =>
    simp only [conc] at e
    split at e
    · rename_i l hl
      cases e
      obtain ⟨g1, g2⟩ := concL_mk (c := c) hl
      exact .agg _ _ g1 g2
    · cases e
  | bool b => exact (concS_mk (a := .bool b) e).1
  | int k n => exact (concS_mk (a := .int k n) e).1
  | str s => exact (concS_mk (a := .str s) e).1
  | _ => cases e
def concs : List AV → Option (List Value)
  | [] => some []
  | a :: l =>
    match conc a, concs l with
    | some v, some r => some (v :: r)
    | _, _ => none
theorem concs_V {c : Cx} : ∀ {cs : List AV} {vs us : List Value}, VL c cs vs → concs cs = some us → vs = us
  | _, _, us, .nil, e => by cases e; rfl
  | _, _, us, .cons h1 h2, e => by
    simp only [concs] at e
    split at e
    · rename_i v r h3 h4
      cases e
      rw [conc_V h1 h3, concs_V h2 h4]
    · cases e
theorem concs_mk {c : Cx} : ∀ {cs : List AV} {us : List Value}, concs cs = some us → VL c cs us
  | [], us, e => by cases e; exact .nil
  | a :: al, us, e => by
    simp only [concs] at e
    split at e
    · rename_i v r h3 h4
      cases e
      exact .cons (conc_mk h3) (concs_mk h4)
    · cases e
def concT (a : AV) : Option Value :=
  match a with
  | .tuple vs =>
    match concs vs with
    | some l => some (.tuple l.toArray)
    | none => none
  | a => conc a
theorem concT_V {c : Cx} {a : AV} {v u : Value} (h : V c a v) (e : concT a = some u) : v = u := by
  cases a with
  | tuple vs =>
    obtain ⟨ws, rfl, hv⟩ := h.tup_inv
    simp only [concT] at e
    split at e
    · rename_i l hl
      cases e
      rw [concs_V hv hl]
    · cases e
  | bool b => exact conc_V (a := .bool b) h e
  | int k n => exact conc_V (a := .int k n) h e
  | str s => exact conc_V (a := .str s) h e
  | agg cs => exact conc_V (a := .agg cs) h e
  | _ => cases e
theorem concT_mk {c : Cx} {a : AV} {u : Value} (e : concT a = some u) : V c a u := by
  cases a with
  | tuple vs =>
    simp only [concT] at e
    split at e
    · rename_i l hl
      cases e
      exact .tuple _ _ (concs_mk hl)
    · cases e
  | bool b => exact conc_mk (a := .bool b) e
  | int k n => exact conc_mk (a := .int k n) e
  | str s => exact conc_mk (a := .str s) e
  | agg cs => exact conc_mk (a := .agg cs) e
  | _ => cases e
noncomputable def memoT (T : List (List AV × AV)) (xs : List AV) (h : H) : E := List.rec (motive := fun _ => E) .no (fun e _ ih => bi (sameL e.1 xs) (.ok e.2 h) ih) T
/-- What an entry must be: values without addresses, and the run gives it. -/
structure Entry (p : List AV → H → E) (e : List AV × AV) : Prop where
  args : (concs e.1).isSome = true
  res : (concT e.2).isSome = true
  run : ∃ h', p e.1 H0 = .ok e.2 h'
theorem memoT_ok {P : Program} {f : FuncId} {p : List AV → H → E} (hp : OneOk P f p) : ∀ (T : List (List AV × AV)), (∀ e ∈ T, Entry p e) → OneOk P f (memoT T)
  | [], _ => fun B W fit ι h w xs vs r h' rel hv e => by cases e
  | e0 :: T, hT => fun B W fit ι h w xs vs r h' rel hv e => by
    have e : bi (sameL e0.1 xs) (.ok e0.2 h) (memoT T xs h) = .ok r h' := e
    cases hs : sameL e0.1 xs with
    | false =>
      rw [hs] at e
      exact memoT_ok hp T (fun x hx => hT x (List.mem_cons_of_mem _ hx)) B W fit ι h w xs vs r h' rel hv e
    | true =>
      have e1 : memo e0.1 e0.2 xs h = .ok r h' := by
        show bi (sameL e0.1 xs) (.ok e0.2 h) Ev.E.no = _
        rw [hs] at e ⊢
        exact e
      obtain ⟨q1, q2, h0, q3⟩ := hT e0 List.mem_cons_self
      obtain ⟨us, hus⟩ := Option.isSome_iff_exists.1 q1
      obtain ⟨v, hv0⟩ := Option.isSome_iff_exists.1 q2
      exact memo_ok hp (v := v) (fun c u hu => concT_V hu hv0) (fun c => concT_mk hv0) (fun c d ws hw => by rw [concs_V hw hus]; exact concs_mk hus) q3 B W fit ι h w xs vs r h' rel hv e1
end Ev
end Go.Proofs.YtoaimjielnempaaGreatDoor
