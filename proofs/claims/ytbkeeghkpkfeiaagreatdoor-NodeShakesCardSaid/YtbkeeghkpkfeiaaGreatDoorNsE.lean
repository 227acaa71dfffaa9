/- strings.Builder in the run: copyCheck and String. strings.Builder in the run: what copyCheck and String give. What a call at given values gives is known once it was reckoned. Calls that make memory: templates, and what they answer. Calls that are known, of which some arguments are nil; the others run. -/
import Derived.Test.YtbkeeghkpkfeiaaGreatDoorNsD
import Derived.Lib.Builder
import Derived.Lib.UnsafeStr
import Derived.RegionTactic
import Derived.Shelf.SlIterI.Nil
namespace Go.Proofs.YtbkeeghkpkfeiaaGreatDoor
set_option linter.unusedVariables false
set_option linter.unusedSimpArgs false
open Go.RowKit Go.Maps
namespace Ev
noncomputable def one1 {α β : Type} (l : List α) (d : β) (f : α → β) : β := List.rec (motive := fun _ => β) d (fun x l _ => List.rec (motive := fun _ => β) (f x) (fun _ _ _ => d) l) l
theorem one1_ok {α : Type} {l : List α} {f : α → E} {r : AV} {h' : H} (e : one1 l .no f = .ok r h') : ∃ x, l = [x] ∧ f x = .ok r h' := by
  cases l with
  | nil => cases e
  | cons x l =>
    cases l with
    | nil => exact ⟨x, rfl, e⟩
    | cons _ _ => cases e
/-- Types of blocks at whose front a Builder lies. -/
def bldT (t : Nat) : Bool := Nat.beq t 315 || Nat.beq t 313
noncomputable def chkB (xs : List AV) (h : H) : E :=
  one1 xs .no fun x => x.ptr? .no fun b o => bi (Nat.beq o 0) (cellsAt h b .no fun cs t fz => bi (bldT t) (bi (Nat.beq fz 0) (bi (Nat.ble 2 (llen cs))
    (ob (lget cs 0) .no fun a => bi (sameAV .nilp a) (ob (lput [.ptr b 0] 0 cs) .no fun cs' => .ok (.tuple []) (h.put b (.cells cs' t fz))) (bi (sameAV (.ptr b 0) a) (.ok (.tuple []) h) .no)) .no) .no) .no) .no
noncomputable def bytesOk (l : List AV) : Bool := List.rec (motive := fun _ => Bool) true (fun a _ r => a.int? false fun k n => Int.cas n (fun m => and' (Nat.blt m 256) r) fun _ => false) l
noncomputable def strB (xs : List AV) (h : H) : E :=
  one1 xs .no fun x => x.ptr? .no fun b o => bi (Nat.beq o 0) (cellsAt h b .no fun cs t fz => ob (lget cs 1) .no fun s => s.slice? .no (.ok (.str []) h) fun g o' n cap sz => bi (and' (Nat.beq o' 0) (and' (Nat.beq sz 1) (and' (Nat.blt 0 n) (Nat.blt n 1000000000))))
    (cellsAt h g .no fun ds t fz => bi (Nat.beq t 5) (ob (ltake ds n) .no fun l => ob (bytesOf l) .no fun bs => bi (bytesOk l) (.ok (.str bs) (h.kill g)) .no) .no) .no) .no
theorem sizeBld : (Tryz.prog.info? 313).map (fun x => x.size) = some 2 := by kernel_rfl
theorem undPBld : Tryz.prog.underlying 311 = some (.pointer 313) := by kernel_rfl
theorem undUnsafe : Tryz.prog.underlying 675 = some .unsafePointer := by kernel_rfl
theorem undPByte : Tryz.prog.underlying 499 = some (.pointer 5) := by kernel_rfl
theorem cellsByte : Tryz.prog.cellsOf 5 = 1 := by kernel_rfl
theorem cellsW : Tryz.prog.cellsOf 315 = 2 := by kernel_rfl
theorem cellsB : Tryz.prog.cellsOf 313 = 2 := by kernel_rfl
theorem liesW : ∀ n, liesAt Tryz.prog Tryz.prog.depth 315 (Nat.succ n) 0 313 1 = true := by intro n; kernel_rfl
theorem liesB : ∀ n, liesAt Tryz.prog Tryz.prog.depth 313 (Nat.succ n) 0 313 1 = true := by intro n; kernel_rfl
theorem lies_bld {t n : Nat} (ht : bldT t = true) (hn : 2 ≤ n) : liesAt Tryz.prog Tryz.prog.depth t (n / Tryz.prog.cellsOf t) 0 313 1 = true := by
  obtain ⟨m, hm⟩ : ∃ m, n / 2 = Nat.succ m := ⟨n / 2 - 1, by omega⟩
  unfold bldT at ht
  rw [Bool.or_eq_true] at ht
  rcases ht with ht | ht
  · have ht := Nat.eq_of_beq_eq_true ht
    subst ht
    rw [cellsW, hm]
    exact liesW m
  · have ht := Nat.eq_of_beq_eq_true ht
    subst ht
    rw [cellsB, hm]
    exact liesB m
abbrev pq (b : Nat) : Value := .pointer (some ⟨b, 0, none⟩)
set_option maxHeartbeats 1000000 in
set_option maxRecDepth 100000 in
theorem check_used (b : Nat) (w : World) (h0 : w.cell? ⟨b, 0, none⟩ = some (pq b)) : Calls Tryz.prog 315 #[pq b] w fun e w' => e = .returned (.tuple #[]) ∧ w' = w := by
  obtain ⟨j, hj, _⟩ := Option.map_eq_some_iff.1 sizeBld
  go_enter Tryz.func315, Tryz.ntmps315
  go_wp2
  rw [Lib.run_neq_ptr_same w _ Tryz.underlying311 hj]
  go_wp2
  go_end0
  exact ⟨rfl, rfl⟩
set_option maxHeartbeats 1000000 in
set_option maxRecDepth 100000 in
theorem check_fresh (b t n : Nat) (w : World) (h0 : w.cell? ⟨b, 0, none⟩ = some (.pointer none)) (hsh : w.shape? b = some (t, n)) (ht : bldT t = true) (hn : 2 ≤ n) (hfz : w.frozen? ⟨b, 0, none⟩ = false) :
    Calls Tryz.prog 315 #[pq b] w fun e w' => e = .returned (.tuple #[]) ∧ w' = w.setCell ⟨b, 0, none⟩ (pq b) := by
  obtain ⟨j, hj, hjs⟩ := Option.map_eq_some_iff.1 sizeBld
  have hl := lies_bld ht hn
  have h0n : 0 < n := by omega
  go_enter Tryz.func315, Tryz.ntmps315
  go_wp2
  rw [Lib.run_to_unsafe w ⟨b, 0, none⟩ Tryz.underlying311 Tryz.underlying675 hj (by rw [hjs]; decide) hsh h0n]
  simp only [Result.andThen]
  rw [Oper.upon_value]
  go_wp2
  rw [run_callFunc_extern Tryz.func487 (by kernel_rfl) (by kernel_rfl) (by kernel_rfl) (e := Extern.AbiNoEscape.same) (by kernel_rfl)]
  rw [Lib.run_noEscape]
  simp only [Result.andThen]
  rw [Oper.upon_value]
  go_wp2
  rw [Lib.run_from_unsafe w ⟨b, 0, none⟩ Tryz.underlying675 Tryz.underlying311 hj hsh hl]
  simp only [Result.andThen]
  rw [Oper.upon_value]
  go_wp2
  go_end0
  exact ⟨rfl, rfl⟩
set_option maxHeartbeats 1000000 in
set_option maxRecDepth 100000 in
theorem bld_text (b g cap sz : Nat) (l : List UInt8) (w : World) (h0 : l ≠ []) (hc : w.cell? ⟨b, 1, none⟩ = some (.slice (some ⟨g, 0, none⟩) l.length cap)) (hcap : l.length ≤ cap) (hsh : w.shape? g = some (5, sz)) (hn : l.length ≤ sz) (h63 : l.length ≤ 9223372036854775807)
    (hcell : ∀ j x, l[j]? = some x → w.cell? ((⟨g, 0, none⟩ : Addr).add j) = some (.int .u8 x.toNat)) :
    Calls Tryz.prog 151 #[pq b] w fun e w' => e = .returned (.string ⟨l.toArray⟩) ∧ w' = w.drew.freeze ⟨g, 0, none⟩ l.length := by
  have hl0 : l.length ≠ 0 := by simpa using h0
  have c1 : w.drew.cell? ⟨b, 1, none⟩ = some (.slice (some ⟨g, 0, none⟩) l.length cap) := hc
  have hSD : (Builtin.unsafeSliceData_ #[172] 499 #[.slice (some ⟨g, 0, none⟩) l.length cap]).run Tryz.prog w.drew = .ok (pq g) w.drew := Lib.run_unsafeSliceData_row _ _ _ _ _ _ (by omega)
  have hUS : (Builtin.unsafeString_ #[499, 3] 9 #[pq g, .int .i64 l.length]).run Tryz.prog w.drew = .ok (.string ⟨l.toArray⟩) (w.drew.freeze ⟨g, 0, none⟩ l.length) :=
    Lib.run_unsafeString_row w.drew 499 3 9 5 Tryz.underlying499 cellsByte g sz hsh l h0 hn h63 hcell
  clear hcap hn h63 hcell hl0 h0
  go_enter Tryz.func151, Tryz.ntmps151
  go_wp2
  go_region
  all_goals (go_wp2; go_ret; exact ⟨rfl, rfl⟩)
set_option maxHeartbeats 1000000 in
set_option maxRecDepth 100000 in
theorem bld_none (b : Nat) (w : World) (hc : w.cell? ⟨b, 1, none⟩ = some (.slice none 0 0)) :
    Calls Tryz.prog 151 #[pq b] w fun e w' => e = .returned (.string .empty) ∧ w' = w.drew := by
  have c1 : w.drew.cell? ⟨b, 1, none⟩ = some (.slice none 0 0) := hc
  have hSD : (Builtin.unsafeSliceData_ #[172] 499 #[.slice none 0 0]).run Tryz.prog w.drew = .ok (.pointer none) w.drew := rfl
  have hUS : (Builtin.unsafeString_ #[499, 3] 9 #[.pointer none, .int .i64 0]).run Tryz.prog w.drew = .ok (.string .empty) w.drew := rfl
  go_enter Tryz.func151, Tryz.ntmps151
  go_wp2
  go_region
  all_goals (go_wp2; go_ret; exact ⟨rfl, rfl⟩)
end Ev
end Go.Proofs.YtbkeeghkpkfeiaaGreatDoor
namespace Go.Proofs.YtbkeeghkpkfeiaaGreatDoor
set_option linter.unusedVariables false
set_option linter.unusedSimpArgs false
open Go.RowKit Go.Maps Go.Sort Go.Shelf
namespace Ev
theorem take_get {l : List Value} {n i : Nat} {v : Value} (h : (l.take n)[i]? = some v) : l[i]? = some v := by
  rw [List.getElem?_take] at h
  split at h
  · exact h
  · cases h
theorem chkB_ok : OneOk Tryz.prog 315 chkB := by
  intro B W fit ι h w xs vs r h' rel hv e
  obtain ⟨x, rfl, e1⟩ := one1_ok (show one1 xs E.no _ = _ from e)
  obtain ⟨b, o, rfl, e2⟩ := ptr_ok e1
  obtain ⟨ho, e3⟩ := biE e2
  have ho := Nat.eq_of_beq_eq_true ho
  obtain ⟨cs, t, fz, hb, e4⟩ := at_cells e3
  obtain ⟨ht, e5⟩ := biE e4
  obtain ⟨hfz, e6⟩ := biE e5
  obtain ⟨hlen, e7⟩ := biE e6
  obtain ⟨a, ha, e8⟩ := obE e7
  subst ho
  have hfz := Nat.eq_of_beq_eq_true hfz
  subst hfz
  have hlen := Nat.le_of_ble_eq_true hlen
  rw [llen_eq] at hlen
  clear e e1 e2 e3 e4 e5 e6 e7
  cases hv with
  | cons hx hnil =>
    cases hnil
    obtain ⟨q, o', rfl, j1, j2⟩ := hx.ptr_inv
    obtain ⟨hq, rfl⟩ := j2 ⟨_, hb⟩
    obtain ⟨c', lo, hi, k1, k2, k3, k4, k5⟩ := block_cells rel hb hq
    have ha' : cs[0]? = some a := by rw [← lget_eq]; exact ha
    obtain ⟨v0, hv0, hvm⟩ := k3.get 0 ha'
    have hcell : w.cell? ⟨q, 0, none⟩ = some v0 := by
      have h1 : c'[0]? = some v0 := by simpa using take_get hv0
      simp [World.cell?, k1, h1]
    have enter : ∀ w0, (callFunc 315 #[pq q]).run Tryz.prog w0 = .ok (.enter 315 #[pq q]) w0 := fun w0 => enters_of Tryz.func315 (by kernel_rfl) rfl _ w0
    cases hs : sameAV .nilp a with
    | true =>
      rw [hs] at e8
      have := sameAV_eq _ _ hs
      subst this
      obtain ⟨cs', hp, e9⟩ := obE (show ob (lput [.ptr b 0] 0 cs) E.no _ = _ from e8)
      obtain ⟨e10, e11⟩ := okE e9
      subst e10 e11
      cases hvm
      have hsh : w.shape? q = some (t, c'.size) := by simp [World.shape?, k1]
      have hfr : w.frozen? ⟨q, 0, none⟩ = false := by
        simp only [World.frozen?, k1]
        rw [Bool.and_eq_false_iff]
        by_cases hlo : lo ≤ 0
        · right
          rw [decide_eq_false_iff_not]
          intro hhi
          have := k5 0 hlo hhi (by omega)
          omega
        · left
          exact decide_eq_false hlo
      obtain ⟨g1, g2, g3⟩ := store_block rel hb hq (Nat.le_refl 0) (VL.one (V.ptr b 0 q 0 j1 (fun _ => ⟨hq, rfl⟩))) (by intro a ha; rw [List.mem_singleton.1 ha]; rfl) hp
      refine ⟨enter, (check_fresh q t c'.size w hcell hsh ht (by omega) hfr).mono ?_⟩
      rintro e w' ⟨rfl, rfl⟩
      exact ⟨_, ι, rfl, g2, g3, .tuple [] [] .nil⟩
    | false =>
      rw [hs] at e8
      obtain ⟨hs2, e9⟩ := biE (show bi (sameAV (.ptr b 0) a) _ E.no = _ from e8)
      obtain ⟨e10, e11⟩ := okE e9
      subst e10 e11
      have := sameAV_eq _ _ hs2
      subst this
      obtain ⟨q2, o2, rfl, j3, j4⟩ := hvm.ptr_inv
      obtain ⟨hq2, rfl⟩ := j4 ⟨_, hb⟩
      have : q2 = q := by
        have h1 : (cx ι h w).ι b = some q := hq
        rw [h1] at hq2
        exact (Option.some.inj hq2).symm
      subst this
      refine ⟨enter, (check_used q2 w hcell).mono ?_⟩
      rintro e w' ⟨rfl, rfl⟩
      exact ⟨_, ι, rfl, rel, Ext.refl _ _ _, .tuple [] [] .nil⟩
theorem bytesOk_VL {c : Cx} : ∀ {cs : List AV} {vs : List Value} {s : List UInt8}, VL c cs vs → bytesOf cs = some s → bytesOk cs = true → vs = s.map fun x => Value.int .u8 (x.toNat : Int)
  | _, _, s, .nil, e, _ => by cases e; rfl
  | _, _, s, .cons (a := a) (al := al) h1 h2, e, e' => by
    cases a with
    | int k n =>
      obtain ⟨hk, e⟩ := bi_some (by simp) (show bi (eqK k .u8) (Int.cas n (fun m => ob (bytesOf al) none fun r => some (UInt8.ofNat m :: r)) fun _ => none) none = some s from e)
      cases eqK_eq hk
      cases n with
      | negSucc n => cases e
      | ofNat n =>
        obtain ⟨r, e1, e2⟩ := ob_some (by simp) (show ob (bytesOf al) none (fun r => some (UInt8.ofNat n :: r)) = some s from e)
        cases e2
        obtain ⟨h3, h4⟩ := and'_eq (show and' (Nat.blt n 256) (bytesOk al) = true from e')
        rw [blt_eq] at h3
        have h3 := of_decide_eq_true h3
        rw [bytesOk_VL h2 e1 h4, h1.int_inv]
        simp [Nat.mod_eq_of_lt h3]
    | _ => cases e
theorem wup_freeze (w : World) (q n : Nat) : WUp w (w.freeze ⟨q, 0, none⟩ n) q := by
  unfold World.freeze
  split
  · exact WUp.refl w q
  · exact ⟨rfl, rfl, rfl, by simp, fun y hy => by simp [Array.getElem?_modify, Ne.symm hy]⟩
theorem strB_ok : OneOk Tryz.prog 151 strB := by
  intro B W fit ι h w xs vs r h' rel hv e
  obtain ⟨x, rfl, e1⟩ := one1_ok (show one1 xs E.no _ = _ from e)
  obtain ⟨b, o, rfl, e2⟩ := ptr_ok e1
  obtain ⟨ho, e3⟩ := biE e2
  have ho := Nat.eq_of_beq_eq_true ho
  obtain ⟨cs, t, fz, hb, e4⟩ := at_cells e3
  obtain ⟨a, ha, e8⟩ := obE e4
  subst ho
  clear e e1 e2 e3 e4
  cases hv with
  | cons hx hnil =>
    cases hnil
    obtain ⟨q, o', rfl, j1, j2⟩ := hx.ptr_inv
    obtain ⟨hq, rfl⟩ := j2 ⟨_, hb⟩
    obtain ⟨c', lo, hi, k1, k2, k3, k4, k5⟩ := block_cells rel hb hq
    have ha' : cs[1]? = some a := by rw [← lget_eq]; exact ha
    obtain ⟨v0, hv0, hvm⟩ := k3.get 1 ha'
    have hcell : w.cell? ⟨q, 1, none⟩ = some v0 := by
      have h1 : c'[1]? = some v0 := by simpa using take_get hv0
      simp [World.cell?, k1, h1]
    have enter : ∀ w0, (callFunc 151 #[pq q]).run Tryz.prog w0 = .ok (.enter 151 #[pq q]) w0 := fun w0 => enters_of Tryz.func151 (by kernel_rfl) rfl _ w0
    obtain ⟨dr1, dr2⟩ := rel.drew
    rcases slice_ok' e8 with ⟨rfl, e9⟩ | ⟨g, og, n, cap, sz, rfl, e9⟩
    · obtain ⟨e10, e11⟩ := okE e9
      subst e10 e11
      cases hvm
      refine ⟨enter, (bld_none q w hcell).mono ?_⟩
      rintro e w' ⟨rfl, rfl⟩
      exact ⟨_, ι, rfl, dr1, dr2, .str []⟩
    · obtain ⟨hc, e10⟩ := biE e9
      obtain ⟨hog, hc⟩ := and'_eq hc
      obtain ⟨hsz, hc⟩ := and'_eq hc
      obtain ⟨hn0, hn1⟩ := and'_eq hc
      have hog := Nat.eq_of_beq_eq_true hog
      have hsz := Nat.eq_of_beq_eq_true hsz
      rw [blt_eq] at hn0 hn1
      have hn0 := of_decide_eq_true hn0
      have hn1 := of_decide_eq_true hn1
      subst hog hsz
      obtain ⟨ds, t2, fz2, hg, e11⟩ := at_cells e10
      obtain ⟨ht2, e12⟩ := biE e11
      have ht2 := Nat.eq_of_beq_eq_true ht2
      subst ht2
      obtain ⟨l, hl, e13⟩ := obE e12
      obtain ⟨bs, hbs, e14⟩ := obE e13
      obtain ⟨hok, e15⟩ := biE e14
      obtain ⟨e16, e17⟩ := okE e15
      subst e16 e17
      obtain ⟨hl1, rfl⟩ := ltake_some hl
      obtain ⟨y, o2, c2, rfl, g1, g2, g3, g4⟩ := hvm.slice_inv
      obtain ⟨hy, hy2, hy3⟩ := g4 ⟨_, hg⟩
      have ho2 : o2 = 0 := by
        rcases hy2 with h1 | h1
        · exact h1
        · omega
      subst ho2
      obtain ⟨d', lo2, hi2, m1, m2, m3, m4, m5⟩ := block_cells rel hg hy
      have hv2 := bytesOk_VL (m3.take n) hbs hok
      rw [List.take_take, Nat.min_eq_left hl1] at hv2
      have hlen : bs.length = n := by
        have := congrArg List.length hv2
        simp at this
        omega
      have hne : bs ≠ [] := by
        intro h0
        rw [h0] at hlen
        simp at hlen
        omega
      have hsh : w.shape? y = some (5, d'.size) := by simp [World.shape?, m1]
      have hcells : ∀ j x, bs[j]? = some x → w.cell? ((⟨y, 0, none⟩ : Addr).add j) = some (.int .u8 x.toNat) := fun j x hj => by
        have h1 : (d'.toList.take n)[j]? = some (.int .u8 (x.toNat : Int)) := by rw [hv2]; simp [hj]
        have h2 : d'[j]? = some (.int .u8 (x.toNat : Int)) := by simpa using take_get h1
        have ha : (⟨y, 0, none⟩ : Addr).add j = ⟨y, j, none⟩ := by unfold Addr.add; split <;> simp_all
        rw [ha]
        simp [World.cell?, m1, h2]
      rw [← hlen] at hcell
      refine ⟨enter, (bld_text q y c2 d'.size bs w hne hcell (by omega) hsh (by omega) (by omega) hcells).mono ?_⟩
      rintro e w' ⟨rfl, rfl⟩
      have hheap : (w.drew.freeze ⟨y, 0, none⟩ bs.length).heap[y]? = some (.cells d' 5 (if lo2 == hi2 then (0, 0 + bs.length) else (min lo2 0, max hi2 (0 + bs.length)))) := by
        unfold World.freeze
        rw [if_neg (by omega)]
        have : w.drew.heap[y]? = some (.cells d' 5 (lo2, hi2)) := m1
        simp [Array.getElem?_modify, this]
      obtain ⟨s1, s2⟩ := dr1.wipe hg hy (wup_freeze w.drew y bs.length) (by unfold bsz; rw [hheap]; rw [show ({ w with drawn := w.drawn + 1 } : World).heap[y]? = some (.cells d' 5 (lo2, hi2)) from m1])
      exact ⟨_, ι, rfl, s1, Ext.trans rel dr2 s2, .str bs⟩
end Ev
end Go.Proofs.YtbkeeghkpkfeiaaGreatDoor
namespace Go.Proofs.YtbkeeghkpkfeiaaGreatDoor
set_option linter.unusedVariables false
set_option linter.unusedSimpArgs false
open Go.RowKit Go.Maps
namespace Ev
section
variable {P : Program} {B : Nat} {W : World} {ι : Pos → Option Nat} {h : H} {w w' : World}
/-- What lies outside is as it was, and blocks are made. -/
theorem Rel.grown (r : Rel P B W ι h w) (u : Below w.heap.size w w') : Rel P B W ι h w' ∧ Ext ι h w ι h w' := by
  have hold : ∀ y, y < w.heap.size → w'.heap[y]? = w.heap[y]? := fun y hy => u.block y hy
  have hbs : ∀ y, y < w.heap.size → bsz w' y = bsz w y := fun y hy => by unfold bsz; rw [hold y hy]
  have hle : (cx ι h w).Le (cx ι h w') := ⟨Nat.le_refl _, fun _ _ h => h, fun _ _ _ _ e => e, fun p y hp ⟨o', h1⟩ e => hbs y (r.ob p o' y h1 e).lt⟩
  have ext : Ext ι h w ι h w' := ⟨Nat.le_refl _, fun p o' _ hp => ⟨⟨o', hp⟩, rfl⟩, fun p o' y hn hp _ => absurd (r.fresh p o' hp) hn, u.size, hbs, fun y hy _ => hold y hy, u.os, u.tape, u.output⟩
  exact ⟨⟨r.fresh, fun p o' y hp hy => ObjR.mono hle (hold y (r.ob p o' y hp hy).lt) (r.ob p o' y hp hy), r.inj, r.base, r.low, ext.out r⟩, ext⟩
end
/-- The same values, none of them an address. -/
noncomputable def memo (xs0 : List AV) (r0 : AV) (xs : List AV) (h : H) : E := bi (sameL xs0 xs) (.ok r0 h) .no
theorem memo_ok {P : Program} {f : FuncId} {p : List AV → H → E} (hp : OneOk P f p) {xs0 : List AV} {r0 : AV} {h0 : H} {v : Value} (hr : ∀ (c : Cx) u, V c r0 u → u = v) (hr' : ∀ c : Cx, V c r0 v) (hx : ∀ (c d : Cx) us, VL c xs0 us → VL d xs0 us) (e : p xs0 H0 = .ok r0 h0) : OneOk P f (memo xs0 r0) := by
  intro B W fit ι h w xs vs r h' rel hv e1
  obtain ⟨h1, e2⟩ := biE (show bi (sameL xs0 xs) _ E.no = _ from e1)
  obtain ⟨e3, e4⟩ := okE e2
  subst e3 e4
  have := sameL_eq _ _ h1
  subst this
  obtain ⟨g1, g2⟩ := hp w.heap.size w (fit.on rel) (fun _ => none) H0 w xs0 vs r0 h0 (rel_start P w) (hx _ _ _ hv) e
  refine ⟨g1, g2.mono ?_⟩
  rintro e w' ⟨u, ι', h3, h4, h5, h6⟩
  have hu := hr _ _ h6
  subst hu
  obtain ⟨s1, s2⟩ := rel.grown h4.out
  exact ⟨_, ι, h3, s1, s2, hr' _⟩
/-! A table of such calls. -/
theorem concS_mk {c : Cx} {a : AV} {u : Value} (e : concS a = some u) : V c a u ∧ a.one = true := by
  cases a <;> simp only [concS, reduceCtorEq, Option.some.injEq] at e
  · subst e; exact ⟨.bool _, rfl⟩
  · subst e; exact ⟨.int _ _, rfl⟩
  · subst e; exact ⟨.str _, rfl⟩
theorem concL_mk {c : Cx} : ∀ {cs : List AV} {us : List Value}, concL cs = some us → VL c cs us ∧ ∀ a ∈ cs, a.one = true
  | [], us, e => by cases e; exact ⟨.nil, fun a h => by cases h⟩
  | a :: al, us, e => by
    simp only [concL] at e
    split at e
    · rename_i v r h3 h4
      cases e
      obtain ⟨g1, g2⟩ := concS_mk (c := c) h3
      obtain ⟨g3, g4⟩ := concL_mk (c := c) h4
      refine ⟨.cons g1 g3, fun b hb => ?_⟩
      rcases List.mem_cons.1 hb with rfl | hb
      · exact g2
      · exact g4 b hb
    · cases e
theorem conc_mk {c : Cx} {a : AV} {u : Value} (e : conc a = some u) : V c a u := by
  cases a with
  | agg cs =>
    simp only [conc] at e
    split at e
    · rename_i l hl
      cases e
      obtain ⟨g1, g2⟩ := concL_mk (c := c) hl
      exact .agg _ _ g1 g2
    · cases e
  | bool b => exact (concS_mk (a := .bool b) e).1
  | int k n => exact (concS_mk (a := .int k n) e).1
  | str s => exact (concS_mk (a := .str s) e).1
  | _ => cases e
def concs : List AV → Option (List Value)
  | [] => some []
  | a :: l =>
    match conc a, concs l with
    | some v, some r => some (v :: r)
    | _, _ => none
theorem concs_V {c : Cx} : ∀ {cs : List AV} {vs us : List Value}, VL c cs vs → concs cs = some us → vs = us
  | _, _, us, .nil, e => by cases e; rfl
  | _, _, us, .cons h1 h2, e => by
    simp only [concs] at e
    split at e
    · rename_i v r h3 h4
      cases e
      rw [conc_V h1 h3, concs_V h2 h4]
    · cases e
theorem concs_mk {c : Cx} : ∀ {cs : List AV} {us : List Value}, concs cs = some us → VL c cs us
  | [], us, e => by cases e; exact .nil
  | a :: al, us, e => by
    simp only [concs] at e
    split at e
    · rename_i v r h3 h4
      cases e
      exact .cons (conc_mk h3) (concs_mk h4)
    · cases e
def concT (a : AV) : Option Value :=
  match a with
  | .tuple vs =>
    match concs vs with
    | some l => some (.tuple l.toArray)
    | none => none
  | a => conc a
theorem concT_V {c : Cx} {a : AV} {v u : Value} (h : V c a v) (e : concT a = some u) : v = u := by
  cases a with
  | tuple vs =>
    obtain ⟨ws, rfl, hv⟩ := h.tup_inv
    simp only [concT] at e
    split at e
    · rename_i l hl
      cases e
      rw [concs_V hv hl]
    · cases e
  | bool b => exact conc_V (a := .bool b) h e
  | int k n => exact conc_V (a := .int k n) h e
  | str s => exact conc_V (a := .str s) h e
  | agg cs => exact conc_V (a := .agg cs) h e
  | _ => cases e
theorem concT_mk {c : Cx} {a : AV} {u : Value} (e : concT a = some u) : V c a u := by
  cases a with
  | tuple vs =>
    simp only [concT] at e
    split at e
    · rename_i l hl
      cases e
      exact .tuple _ _ (concs_mk hl)
    · cases e
  | bool b => exact conc_mk (a := .bool b) e
  | int k n => exact conc_mk (a := .int k n) e
  | str s => exact conc_mk (a := .str s) e
  | agg cs => exact conc_mk (a := .agg cs) e
  | _ => cases e
noncomputable def memoT (T : List (List AV × AV)) (xs : List AV) (h : H) : E := List.rec (motive := fun _ => E) .no (fun e _ ih => bi (sameL e.1 xs) (.ok e.2 h) ih) T
/-- What an entry must be: values without addresses, and the run gives it. -/
structure Entry (p : List AV → H → E) (e : List AV × AV) : Prop where
  args : (concs e.1).isSome = true
  res : (concT e.2).isSome = true
  run : ∃ h', p e.1 H0 = .ok e.2 h'
theorem memoT_ok {P : Program} {f : FuncId} {p : List AV → H → E} (hp : OneOk P f p) : ∀ (T : List (List AV × AV)), (∀ e ∈ T, Entry p e) → OneOk P f (memoT T)
  | [], _ => fun B W fit ι h w xs vs r h' rel hv e => by cases e
  | e0 :: T, hT => fun B W fit ι h w xs vs r h' rel hv e => by
    have e : bi (sameL e0.1 xs) (.ok e0.2 h) (memoT T xs h) = .ok r h' := e
    cases hs : sameL e0.1 xs with
    | false =>
      rw [hs] at e
      exact memoT_ok hp T (fun x hx => hT x (List.mem_cons_of_mem _ hx)) B W fit ι h w xs vs r h' rel hv e
    | true =>
      have e1 : memo e0.1 e0.2 xs h = .ok r h' := by
        show bi (sameL e0.1 xs) (.ok e0.2 h) Ev.E.no = _
        rw [hs] at e ⊢
        exact e
      obtain ⟨q1, q2, h0, q3⟩ := hT e0 List.mem_cons_self
      obtain ⟨us, hus⟩ := Option.isSome_iff_exists.1 q1
      obtain ⟨v, hv0⟩ := Option.isSome_iff_exists.1 q2
      exact memo_ok hp (v := v) (fun c u hu => concT_V hu hv0) (fun c => concT_mk hv0) (fun c d ws hw => by rw [concs_V hw hus]; exact concs_mk hus) q3 B W fit ι h w xs vs r h' rel hv e1
end Ev
end Go.Proofs.YtbkeeghkpkfeiaaGreatDoor
namespace Go.Proofs.YtbkeeghkpkfeiaaGreatDoor
set_option linter.unusedVariables false
set_option linter.unusedSimpArgs false
open Go.RowKit Go.Maps
namespace Ev
/-- The place of a number in a list, from a number on. -/
noncomputable def place (P : List Pos) (b dead : Pos) : Pos → Pos := List.rec (motive := fun _ => Pos → Pos) (fun _ => dead) (fun p _ ih q => bi (p.beq b) q (ih q.succ)) P
noncomputable def ren (σ : Pos → Pos) (v : AV) : AV :=
  AV.rec (motive_1 := fun _ => AV) (motive_2 := fun _ => List AV) .undef (fun b => .bool b) (fun k n => .int k n) (fun s => .str s) .nilp (fun b o => .ptr (σ b) o) .nils (fun b o n c s => .slice (σ b) o n c s) .nilm (fun b => .map (σ b)) .nilf
    (fun f n _ ih => .func f n ih) (fun t _ ih => .iface t ih) (fun _ ih => .agg ih) (fun _ ih => .tuple ih) [] (fun _ _ a l => a :: l) v
noncomputable def renL (σ : Pos → Pos) (l : List AV) : List AV := List.rec (motive := fun _ => List AV) [] (fun a _ r => ren σ a :: r) l
noncomputable def renE (σ : Pos → Pos) (l : List (AV × AV × Nat)) : List (AV × AV × Nat) := List.rec (motive := fun _ => List (AV × AV × Nat)) [] (fun e _ r => (ren σ e.1, ren σ e.2.1, e.2.2) :: r) l
noncomputable def renO (σ : Pos → Pos) (o : AObj) : AObj := AObj.rec (motive := fun _ => AObj) (fun cs t fz => .cells (renL σ cs) t fz) (fun kt es c => .map kt (renE σ es) c) (fun m s n l => .iter m s n l) o
def noIt : AObj → Bool
  | .iter _ _ _ _ => false
  | _ => true
noncomputable def addO (σ : Pos → Pos) (l : List AObj) : H → H := List.rec (motive := fun _ => H → H) (fun h => h) (fun o _ ih h => ih (h.new (renO σ o))) l
structure Tmpl where
  args : List AV
  res : AV
  pos : List Pos
  objs : List AObj
noncomputable def Tmpl.sub (T : Tmpl) (d : Pos) : Pos → Pos := fun b => place T.pos b d d.succ
noncomputable def memoH (T : Tmpl) (xs : List AV) (h : H) : E := bi (sameL T.args xs) (.ok (ren (T.sub h.nx) T.res) (addO (T.sub h.nx) T.objs { t := h.t, nx := h.nx.succ })) .no

theorem ren_list (σ : Pos → Pos) : ∀ l : List AV, (AV.rec (motive_1 := fun _ => AV) (motive_2 := fun _ => List AV) .undef (fun b => .bool b) (fun k n => .int k n) (fun s => .str s) .nilp (fun b o => .ptr (σ b) o) .nils (fun b o n c s => .slice (σ b) o n c s) .nilm (fun b => .map (σ b)) .nilf
    (fun f n _ ih => .func f n ih) (fun t _ ih => .iface t ih) (fun _ ih => .agg ih) (fun _ ih => .tuple ih) [] (fun _ _ a l => a :: l) (.agg l) : AV) = .agg (renL σ l)
  | [] => rfl
  | a :: l => by
    have := ren_list σ l
    have h2 := AV.agg.inj this
    exact congrArg (fun r => AV.agg (ren σ a :: r)) h2
theorem ren_agg (σ : Pos → Pos) (l : List AV) : ren σ (.agg l) = .agg (renL σ l) := ren_list σ l
theorem ren_tuple (σ : Pos → Pos) (l : List AV) : ren σ (.tuple l) = .tuple (renL σ l) := by
  have h2 := AV.agg.inj (ren_list σ l)
  exact congrArg AV.tuple h2
theorem ren_func (σ : Pos → Pos) (f : FuncId) (n : Nat) (l : List AV) : ren σ (.func f n l) = .func f n (renL σ l) := by
  have h2 := AV.agg.inj (ren_list σ l)
  exact congrArg (AV.func f n) h2
theorem renL_len (σ : Pos → Pos) : ∀ l : List AV, (renL σ l).length = l.length
  | [] => rfl
  | a :: l => congrArg (· + 1) (renL_len σ l)
theorem ren_one (σ : Pos → Pos) (a : AV) : (ren σ a).one = a.one := by cases a <;> rfl
theorem renL_one {σ : Pos → Pos} : ∀ {l : List AV}, (∀ a ∈ l, a.one = true) → ∀ a ∈ renL σ l, a.one = true
  | [], _, a, h => by cases h
  | b :: l, hl, a, h => by
    rcases List.mem_cons.1 (show a ∈ ren σ b :: renL σ l from h) with rfl | h
    · rw [ren_one]; exact hl b List.mem_cons_self
    · exact renL_one (fun x hx => hl x (List.mem_cons_of_mem _ hx)) a h
/-- Numbers that stand for the same blocks. -/
structure Ren (c d : Cx) (σ : Pos → Pos) : Prop where
  nx : ∀ b, (σ b).num < d.nx
  lv : ∀ b, d.lv (σ b) → c.lv b ∧ d.ι (σ b) = c.ι b
  bs : d.bs = c.bs
mutual
theorem V.ren {c d : Cx} {σ : Pos → Pos} (h : Ren c d σ) : ∀ {a : AV} {v : Value}, V c a v → V d (Ev.ren σ a) v
  | _, _, .undef => .undef
  | _, _, .bool b => .bool b
  | _, _, .int k n => .int k n
  | _, _, .str s => .str s
  | _, _, .nilp => .nilp
  | _, _, .ptr b o x o' h1 h2 => .ptr (σ b) o x o' (h.nx b) fun hl => by
    obtain ⟨g1, g2⟩ := h.lv b hl
    obtain ⟨g3, g4⟩ := h2 g1
    exact ⟨g2.trans g3, g4⟩
  | _, _, .nils => .nils
  | _, _, .slice b o n cap sz x o' c' h1 h2 h3 h4 => .slice (σ b) o n cap sz x o' c' (h.nx b) h2 h3 fun hl => by
    obtain ⟨g1, g2⟩ := h.lv b hl
    obtain ⟨g3, g4, g5⟩ := h4 g1
    exact ⟨g2.trans g3, g4, by rw [h.bs]; exact g5⟩
  | _, _, .nilm => .nilm
  | _, _, .map b x h1 h2 => .map (σ b) x (h.nx b) fun hl => by
    obtain ⟨g1, g2⟩ := h.lv b hl
    exact g2.trans (h2 g1)
  | _, _, .nilf => .nilf
  | _, _, .func f n cs vs h1 h2 => by
    rw [ren_func]
    exact .func f n (renL σ cs) vs (h1.ren h) (by rw [renL_len]; exact h2)
  | _, _, .iface t a v h1 h2 => .iface t (Ev.ren σ a) v (h1.ren h) h2
  | _, _, .nili => .nili
  | _, _, .rng k lo hi n h1 h2 => .rng k lo hi n h1 h2
  | _, _, .any j v h1 h2 => .any j v h1 h2
  | _, _, .agg cs vs h1 h2 => by
    rw [ren_agg]
    exact .agg (renL σ cs) vs (h1.ren h) (renL_one h2)
  | _, _, .tuple cs vs h1 => by
    rw [ren_tuple]
    exact .tuple (renL σ cs) vs (h1.ren h)
theorem VL.ren {c d : Cx} {σ : Pos → Pos} (h : Ren c d σ) : ∀ {al : List AV} {vs : List Value}, VL c al vs → VL d (renL σ al) vs
  | _, _, .nil => .nil
  | _, _, .cons h1 h2 => .cons (h1.ren h) (h2.ren h)
end
theorem concS_ren {σ : Pos → Pos} {a : AV} {u : Value} (e : concS a = some u) : ren σ a = a := by
  cases a <;> simp only [concS, reduceCtorEq] at e <;> rfl
theorem concL_ren {σ : Pos → Pos} : ∀ {cs : List AV} {us : List Value}, concL cs = some us → renL σ cs = cs
  | [], us, e => rfl
  | a :: al, us, e => by
    simp only [concL] at e
    split at e
    · rename_i v r h3 h4
      show ren σ a :: renL σ al = _
      rw [concS_ren h3, concL_ren h4]
    · cases e
theorem conc_ren {σ : Pos → Pos} {a : AV} {u : Value} (e : conc a = some u) : ren σ a = a := by
  cases a with
  | agg cs =>
    simp only [conc] at e
    split at e
    · rename_i l hl
      rw [ren_agg, concL_ren hl]
    · cases e
  | bool b => rfl
  | int k n => rfl
  | str s => rfl
  | _ => cases e
theorem ML.ren {P : Program} {kt : TypeId} {c d : Cx} {σ : Pos → Pos} (h : Ren c d σ) : ∀ {es : List (AV × AV × Nat)} {fs : List MapEntry}, ML P kt c es fs → ML P kt d (renE σ es) fs
  | _, _, .nil => .nil
  | _, _, .cons (k := k) (v := v) (n := n) (es := es) h1 h2 ⟨u, h3⟩ h4 h5 h6 h7 => by
    show ML P kt d ((Ev.ren σ k, Ev.ren σ v, n) :: renE σ es) _
    exact .cons (h1.ren h) h2 ⟨u, by rw [conc_ren h3]; exact h3⟩ (h4.ren h) h5 h6 (h7.ren h)
theorem ObjR.ren {P : Program} {c d : Cx} {σ : Pos → Pos} {w : World} {x : Nat} {o : AObj} (h : Ren c d σ) (hn : noIt o = true) (ho : ObjR P c w x o) : ObjR P d w x (renO σ o) := by
  cases o with
  | cells cs t fz =>
    obtain ⟨c', lo, hi, h1, h2, h3, h4, h5⟩ := ho
    exact ⟨c', lo, hi, h1, by rw [renL_len]; exact h2, by rw [renL_len]; exact h3.ren h, renL_one h4, h5⟩
  | map kt es k =>
    obtain ⟨es', h1, h2⟩ := ho
    exact ⟨es', h1, h2.ren h⟩
  | iter m s n l => cases hn
/-! What is there behind it. -/
theorem addO_nx (σ : Pos → Pos) : ∀ (l : List AObj) (h : H), (addO σ l h).nx.num = h.nx.num + l.length
  | [], h => rfl
  | o :: l, h => by
    show (addO σ l (h.new (renO σ o))).nx.num = _
    rw [addO_nx σ l, nx_new]
    simp; omega
theorem addO_old (σ : Pos → Pos) : ∀ (l : List AObj) (h : H) (p : Pos), p.num < h.nx.num → (addO σ l h).obj p = h.obj p
  | [], h, p, hp => rfl
  | o :: l, h, p, hp => by
    show (addO σ l (h.new (renO σ o))).obj p = _
    rw [addO_old σ l _ p (by rw [nx_new]; omega), obj_new_ne h _ (fun e => by rw [e] at hp; omega)]
theorem addO_new (σ : Pos → Pos) : ∀ (l : List AObj) (h : H) (p : Pos), (∀ q o, h.obj q = some o → q.num < h.nx.num) → h.nx.num ≤ p.num → (addO σ l h).obj p = (l[p.num - h.nx.num]?).map (renO σ)
  | [], h, p, hf, hp => by
    show h.obj p = _
    cases ho : h.obj p with
    | none => rfl
    | some o => have := hf p o ho; omega
  | o :: l, h, p, hf, hp => by
    show (addO σ l (h.new (renO σ o))).obj p = _
    by_cases e : p.num = h.nx.num
    · have e2 : p = h.nx := Pos.num_inj e
      subst e2
      rw [addO_old σ l _ _ (by rw [nx_new]; omega), obj_new_same, Nat.sub_self]
      rfl
    · rw [addO_new σ l _ p (fun q o' hq => by
        rw [nx_new]
        by_cases e3 : q = h.nx
        · subst e3; omega
        · rw [obj_new_ne h _ e3] at hq; have := hf q o' hq; omega) (by rw [nx_new]; omega), nx_new]
      rw [show p.num - h.nx.num = (p.num - (h.nx.num + 1)) + 1 by omega]
      rfl
theorem place_spec (b dead : Pos) : ∀ (P : List Pos) (q : Pos), place P b dead q = dead ∧ b ∉ P ∨ ∃ i, P[i]? = some b ∧ (place P b dead q).num = q.num + i
  | [], q => .inl ⟨rfl, by simp⟩
  | p :: P, q => by
    show bi (p.beq b) q (place P b dead q.succ) = dead ∧ _ ∨ ∃ i, _ ∧ (bi (p.beq b) q (place P b dead q.succ)).num = _
    cases h : p.beq b with
    | true =>
      right
      have := (Pos.beq_eq p b).1 h
      subst this
      exact ⟨0, rfl, rfl⟩
    | false =>
      have hne : p ≠ b := fun e => by rw [(Pos.beq_eq p b).2 e] at h; cases h
      rcases place_spec b dead P q.succ with ⟨h1, h2⟩ | ⟨i, h1, h2⟩
      · exact .inl ⟨h1, by simp [h2, Ne.symm hne]⟩
      · right
        refine ⟨i + 1, by simpa using h1, ?_⟩
        show (place P b dead q.succ).num = _
        rw [h2, Pos.num_succ]
        omega
end Ev
end Go.Proofs.YtbkeeghkpkfeiaaGreatDoor
namespace Go.Proofs.YtbkeeghkpkfeiaaGreatDoor
set_option linter.unusedVariables false
set_option linter.unusedSimpArgs false
open Go.RowKit Go.Maps
namespace Ev
/-- What a template must be. -/
structure Good (p : List AV → H → Ev.E) (T : Tmpl) : Prop where
  args : (concs T.args).isSome = true
  len : T.pos.length = T.objs.length
  nodup : T.pos.Nodup
  noit : ∀ o ∈ T.objs, noIt o = true
  run : ∃ h0, p T.args H0 = .ok T.res h0 ∧ ∀ (i : Nat) (q : Pos) (o : AObj), T.pos[i]? = some q → T.objs[i]? = some o → h0.obj q = some o
def newι (ι ι0 : Pos → Option Nat) (P : List Pos) (n : Nat) (p : Pos) : Option Nat :=
  if p.num < n then ι p else if p.num = n then none else
    match P[p.num - (n + 1)]? with
    | some q => ι0 q
    | none => none
theorem memoH_ok {P : Program} {f : FuncId} {p : List AV → H → E} (hp : OneOk P f p) (T : Tmpl) (g : Good p T) : OneOk P f (memoH T) := by
  intro B W fit ι h w xs vs r h' rel hv e
  obtain ⟨hs, e1⟩ := biE (show bi (sameL T.args xs) _ E.no = _ from e)
  have := sameL_eq _ _ hs
  subst this
  obtain ⟨e2, e3⟩ := okE e1
  clear e e1 hs
  obtain ⟨us, hus⟩ := Option.isSome_iff_exists.1 g.args
  obtain ⟨h0, hrun, hobj⟩ := g.run
  have hv0 : ∀ c : Cx, VL c T.args vs := fun c => by rw [concs_V hv hus]; exact concs_mk hus
  obtain ⟨q1, q2⟩ := hp w.heap.size w (fit.on rel) (fun _ => none) H0 w T.args vs T.res h0 (rel_start P w) (hv0 _) hrun
  refine ⟨q1, q2.mono ?_⟩
  rintro e w' ⟨u, ι0, h3, h4, _, h6⟩
  have hgrow : Below w.heap.size w w' := h4.out
  obtain ⟨σ, hσ⟩ : ∃ σ, σ = T.sub h.nx := ⟨_, rfl⟩
  rw [← hσ] at e2 e3
  have hbf : ∀ q o, ({ t := h.t, nx := h.nx.succ } : H).obj q = some o → q.num < ({ t := h.t, nx := h.nx.succ } : H).nx.num := fun q o hq => by
    have := rel.fresh q o hq
    show q.num < h.nx.succ.num
    rw [Pos.num_succ]
    omega
  have hnx : ({ t := h.t, nx := h.nx.succ } : H).nx.num = h.nx.num + 1 := Pos.num_succ h.nx
  have hnx' : h'.nx.num = h.nx.num + 1 + T.objs.length := by rw [← e3, addO_nx, hnx]
  have F1 : ∀ b : Pos, b.num < h.nx.num → h'.obj b = h.obj b := fun b hb => by rw [← e3, addO_old σ _ _ _ (by rw [hnx]; omega)]; rfl
  have F2 : ∀ b : Pos, b.num = h.nx.num → h'.obj b = none := fun b hb => by
    rw [← e3, addO_old σ _ _ _ (by rw [hnx]; omega)]
    cases ho : h.obj b with
    | none => exact ho
    | some o => have := rel.fresh b o ho; omega
  have F3 : ∀ b : Pos, h.nx.num < b.num → h'.obj b = (T.objs[b.num - (h.nx.num + 1)]?).map (renO σ) := fun b hb => by rw [← e3, addO_new σ _ _ _ hbf (by rw [hnx]; omega), hnx]
  obtain ⟨ι', hι⟩ : ∃ ι', ι' = newι ι ι0 T.pos h.nx.num := ⟨_, rfl⟩
  have I1 : ∀ b : Pos, b.num < h.nx.num → ι' b = ι b := fun b hb => by rw [hι]; unfold newι; rw [if_pos hb]
  have I3 : ∀ (b : Pos) (q : Pos), h.nx.num < b.num → T.pos[b.num - (h.nx.num + 1)]? = some q → ι' b = ι0 q := fun b q hb hq => by rw [hι]; unfold newι; rw [if_neg (by omega), if_neg (by omega), hq]
  -- what lives there
  have new : ∀ (b : Pos) (o' : AObj), ¬ b.num < h.nx.num → h'.obj b = some o' → ∃ q o, h.nx.num < b.num ∧ b.num < h'.nx.num ∧ T.pos[b.num - (h.nx.num + 1)]? = some q ∧ h0.obj q = some o ∧ o' = renO σ o ∧ noIt o = true ∧ ι' b = ι0 q := fun b o' hb ho => by
    by_cases he : b.num = h.nx.num
    · rw [F2 b he] at ho; cases ho
    · have hlt : h.nx.num < b.num := by omega
      rw [F3 b hlt] at ho
      obtain ⟨o, g1, g2⟩ := Option.map_eq_some_iff.1 ho
      have hi : b.num - (h.nx.num + 1) < T.objs.length := (List.getElem?_eq_some_iff.1 g1).1
      have hq : T.pos[b.num - (h.nx.num + 1)]? = some (T.pos[b.num - (h.nx.num + 1)]'(by rw [g.len]; exact hi)) := List.getElem?_eq_getElem _
      exact ⟨_, o, hlt, by omega, hq, hobj _ _ _ hq g1, g2.symm, g.noit o (List.mem_of_getElem? g1), I3 b _ hlt hq⟩
  have hren : Ren (cx ι0 h0 w') (cx ι' h' w') σ := by
    refine ⟨fun b => ?_, fun b hl => ?_, rfl⟩
    · show (σ b).num < h'.nx.num
      rcases place_spec b h.nx T.pos h.nx.succ with ⟨g1, _⟩ | ⟨i, g1, g2⟩
      · have : σ b = h.nx := by rw [hσ]; exact g1
        rw [this]; omega
      · have : (σ b).num = h.nx.succ.num + i := by rw [hσ]; exact g2
        rw [this, Pos.num_succ]
        have hi := (List.getElem?_eq_some_iff.1 g1).1
        rw [g.len] at hi
        omega
    · obtain ⟨o', ho⟩ := hl
      rcases place_spec b h.nx T.pos h.nx.succ with ⟨g1, _⟩ | ⟨i, g1, g2⟩
      · have : σ b = h.nx := by rw [hσ]; exact g1
        rw [this, F2 _ rfl] at ho
        cases ho
      · have hn : (σ b).num = h.nx.num + 1 + i := by rw [hσ, ← Pos.num_succ]; exact g2
        obtain ⟨q, o, k1, k2, k3, k4, k5, k6, k7⟩ := new (σ b) o' (by omega) ho
        rw [show (σ b).num - (h.nx.num + 1) = i by omega, g1] at k3
        cases k3
        exact ⟨⟨o, k4⟩, k7⟩
  have hold : ∀ y, y < w.heap.size → w'.heap[y]? = w.heap[y]? := fun y hy => hgrow.block y hy
  have hbs : ∀ y, y < w.heap.size → bsz w' y = bsz w y := fun y hy => by unfold bsz; rw [hold y hy]
  have ext : Ext ι h w ι' h' w' := by
    refine ⟨by omega, fun b o' hb ho => ?_, fun b o' x hn ho hx => ?_, hgrow.size, hbs, fun y hy _ => hold y hy, hgrow.os, hgrow.tape, hgrow.output⟩
    · rw [F1 b hb] at ho
      exact ⟨⟨o', ho⟩, I1 b hb⟩
    · obtain ⟨q, o, k1, k2, k3, k4, k5, k6, k7⟩ := new b o' hn ho
      rw [k7] at hx
      exact .inl (h4.base q o x k4 hx)
  have hle := ext.le rel
  refine ⟨u, ι', h3, ⟨fun b o' ho => ?_, fun b o' y ho hy => ?_, fun b b' o1 o2 y ho ho' hy hy' => ?_, fun b o' y ho hy => ?_, rel.low, ext.out rel⟩, ext, ?_⟩
  · by_cases hb : b.num < h.nx.num
    · omega
    · obtain ⟨q, o, k1, k2, _⟩ := new b o' hb ho
      exact k2
  · by_cases hb : b.num < h.nx.num
    · rw [F1 b hb] at ho
      rw [I1 b hb] at hy
      have h1 := rel.ob b o' y ho hy
      exact ObjR.mono hle (hold y h1.lt) h1
    · obtain ⟨q, o, k1, k2, k3, k4, k5, k6, k7⟩ := new b o' hb ho
      rw [k7] at hy
      rw [k5]
      exact (h4.ob q o y k4 hy).ren hren k6
  · by_cases hb : b.num < h.nx.num
    · rw [F1 b hb] at ho
      rw [I1 b hb] at hy
      by_cases hb' : b'.num < h.nx.num
      · rw [F1 b' hb'] at ho'
        rw [I1 b' hb'] at hy'
        exact rel.inj b b' o1 o2 y ho ho' hy hy'
      · obtain ⟨q, o, k1, k2, k3, k4, k5, k6, k7⟩ := new b' o2 hb' ho'
        rw [k7] at hy'
        have h1 := h4.base q o y k4 hy'
        have h2 := (rel.ob b o1 y ho hy).lt
        omega
    · obtain ⟨q, o, k1, k2, k3, k4, k5, k6, k7⟩ := new b o1 hb ho
      rw [k7] at hy
      by_cases hb' : b'.num < h.nx.num
      · rw [F1 b' hb'] at ho'
        rw [I1 b' hb'] at hy'
        have h1 := h4.base q o y k4 hy
        have h2 := (rel.ob b' o2 y ho' hy').lt
        omega
      · obtain ⟨q', o', j1, j2, j3, j4, j5, j6, j7⟩ := new b' o2 hb' ho'
        rw [j7] at hy'
        have hqq := h4.inj q q' o o' y k4 j4 hy hy'
        subst hqq
        obtain ⟨i1, i2⟩ := List.getElem?_eq_some_iff.1 k3
        obtain ⟨i3, i4⟩ := List.getElem?_eq_some_iff.1 j3
        have := (List.getElem_inj (h₀ := i1) (h₁ := i3) g.nodup).1 (i2.trans i4.symm)
        exact Pos.num_inj (by omega)
  · by_cases hb : b.num < h.nx.num
    · rw [F1 b hb] at ho
      rw [I1 b hb] at hy
      exact rel.base b o' y ho hy
    · obtain ⟨q, o, k1, k2, k3, k4, k5, k6, k7⟩ := new b o' hb ho
      rw [k7] at hy
      have h1 := h4.base q o y k4 hy
      have h2 := rel.low
      have h3 := rel.out.size
      omega
  · rw [← e2]
    exact h6.ren hren
end Ev
end Go.Proofs.YtbkeeghkpkfeiaaGreatDoor
namespace Go.Proofs.YtbkeeghkpkfeiaaGreatDoor
set_option linter.unusedVariables false
set_option linter.unusedSimpArgs false
open Go.RowKit Go.Maps
namespace Ev
noncomputable def sameE (l : List (AV × AV × Nat)) : List (AV × AV × Nat) → Bool :=
  List.rec (motive := fun _ => List (AV × AV × Nat) → Bool) (fun m => List.rec (motive := fun _ => Bool) true (fun _ _ _ => false) m)
    (fun x _ ih m => List.rec (motive := fun _ => Bool) false (fun y m _ => and' (sameAV x.1 y.1) (and' (sameAV x.2.1 y.2.1) (and' (Nat.beq x.2.2 y.2.2) (ih m)))) m) l
noncomputable def sameM (x y : AObj) : Bool :=
  AObj.rec (motive := fun _ => Bool) (fun cs t fz => y.cells? false fun ds u gz => and' (sameL cs ds) (and' (Nat.beq t u) (Nat.beq fz gz)))
    (fun kt es c => y.map? false fun lt fs d => and' (Nat.beq kt lt) (and' (sameE es fs) (Nat.beq c d))) (fun _ _ _ _ => false) x
theorem sameE_eq : ∀ (l m : List (AV × AV × Nat)), sameE l m = true → l = m
  | [], [], _ => rfl
  | [], _ :: _, e => by cases e
  | _ :: _, [], e => by cases e
  | ⟨a, b, n⟩ :: l, ⟨a', b', n'⟩ :: m, e => by
    obtain ⟨h1, e1⟩ := and'_eq (show and' (sameAV a a') (and' (sameAV b b') (and' (Nat.beq n n') (sameE l m))) = true from e)
    obtain ⟨h2, e2⟩ := and'_eq e1
    obtain ⟨h3, e3⟩ := and'_eq e2
    rw [sameAV_eq _ _ h1, sameAV_eq _ _ h2, Nat.eq_of_beq_eq_true h3, sameE_eq l m e3]
theorem sameM_eq {x y : AObj} (e : sameM x y = true) : x = y := by
  cases x with
  | cells cs t fz =>
    cases y with
    | cells ds u gz =>
      obtain ⟨h1, e1⟩ := and'_eq (show and' (sameL cs ds) (and' (Nat.beq t u) (Nat.beq fz gz)) = true from e)
      obtain ⟨h2, h3⟩ := and'_eq e1
      rw [sameL_eq _ _ h1, Nat.eq_of_beq_eq_true h2, Nat.eq_of_beq_eq_true h3]
    | map => cases e
    | iter => cases e
  | map kt es c =>
    cases y with
    | cells => cases e
    | map lt fs d =>
      obtain ⟨h1, e1⟩ := and'_eq (show and' (Nat.beq kt lt) (and' (sameE es fs) (Nat.beq c d)) = true from e)
      obtain ⟨h2, h3⟩ := and'_eq e1
      rw [Nat.eq_of_beq_eq_true h1, sameE_eq _ _ h2, Nat.eq_of_beq_eq_true h3]
    | iter => cases e
  | iter => cases e
noncomputable def objsOk (h : H) (P : List Pos) : List AObj → Bool :=
  List.rec (motive := fun _ => List AObj → Bool) (fun l => List.rec (motive := fun _ => Bool) true (fun _ _ _ => false) l)
    (fun p _ ih l => List.rec (motive := fun _ => Bool) false (fun o l _ => and' (ob (h.obj p) false fun o' => sameM o o') (ih l)) l) P
noncomputable def chkT (e : E) (T : Tmpl) : Bool := E.rec (motive := fun _ => Bool) false (fun v h => and' (sameAV T.res v) (objsOk h T.pos T.objs)) e
theorem objsOk_spec {h : H} : ∀ (P : List Pos) (l : List AObj), objsOk h P l = true → P.length = l.length ∧ ∀ (i : Nat) (q : Pos) (o : AObj), P[i]? = some q → l[i]? = some o → h.obj q = some o
  | [], [], _ => ⟨rfl, fun i q o hq => by simp at hq⟩
  | [], _ :: _, e => by cases e
  | _ :: _, [], e => by cases e
  | p :: P, o :: l, e => by
    obtain ⟨h1, e1⟩ := and'_eq (show and' (ob (h.obj p) false fun o' => sameM o o') (objsOk h P l) = true from e)
    obtain ⟨g1, g2⟩ := objsOk_spec P l e1
    obtain ⟨o', h2, h3⟩ := ob_some (by simp) h1
    refine ⟨by simp [g1], fun i q o2 hq ho => ?_⟩
    cases i with
    | zero =>
      simp only [List.getElem?_cons_zero, Option.some.injEq] at hq ho
      subst hq ho
      rw [h2, sameM_eq h3]
    | succ i => exact g2 i q o2 (by simpa using hq) (by simpa using ho)
def notIn (p : Pos) : List Pos → Bool
  | [] => true
  | q :: l => !p.beq q && notIn p l
def nodupB : List Pos → Bool
  | [] => true
  | p :: l => notIn p l && nodupB l
theorem notIn_spec {p : Pos} : ∀ {l : List Pos}, notIn p l = true → p ∉ l
  | [], _ => by simp
  | q :: l, h => by
    simp only [notIn, Bool.and_eq_true, Bool.not_eq_true'] at h
    intro hm
    rcases List.mem_cons.1 hm with rfl | hm
    · rw [(Pos.beq_eq p p).2 rfl] at h; cases h.1
    · exact notIn_spec h.2 hm
theorem nodupB_spec : ∀ {l : List Pos}, nodupB l = true → l.Nodup
  | [], _ => List.nodup_nil
  | p :: l, h => by
    simp only [nodupB, Bool.and_eq_true] at h
    exact List.nodup_cons.2 ⟨notIn_spec h.1, nodupB_spec h.2⟩
theorem good_of {p : List AV → H → E} {T : Tmpl} (h1 : (concs T.args).isSome = true) (h2 : nodupB T.pos = true) (h3 : T.objs.all noIt = true) (h4 : chkT (p T.args H0) T = true) : Good p T := by
  cases he : p T.args H0 with
  | no => rw [he] at h4; cases h4
  | ok v h0 =>
    rw [he] at h4
    obtain ⟨g1, g2⟩ := and'_eq (show and' (sameAV T.res v) (objsOk h0 T.pos T.objs) = true from h4)
    obtain ⟨g3, g4⟩ := objsOk_spec _ _ g2
    have := sameAV_eq _ _ g1
    exact ⟨h1, g3, nodupB_spec h2, List.all_eq_true.1 h3, h0, by rw [this]; exact he, g4⟩
end Ev
end Go.Proofs.YtbkeeghkpkfeiaaGreatDoor
namespace Go.Proofs.YtbkeeghkpkfeiaaGreatDoor
set_option linter.unusedVariables false
set_option linter.unusedSimpArgs false
open Go.RowKit Go.Maps
namespace Ev
/-- A value in which no address stands. -/
def shutS : AV → Bool
  | .bool _ => true
  | .int _ _ => true
  | .str _ => true
  | .nilp => true
  | .nils => true
  | .nilm => true
  | .nilf => true
  | _ => false
def shut : AV → Bool
  | .agg cs => cs.all shutS
  | a => shutS a
theorem shutS_V {c d : Cx} {a : AV} {v : Value} (hs : shutS a = true) (h : V c a v) : V d a v := by
  cases h with
  | bool b => exact .bool b
  | int k n => exact .int k n
  | str s => exact .str s
  | nilp => exact .nilp
  | nils => exact .nils
  | nilm => exact .nilm
  | nilf => exact .nilf
  | _ => cases hs
theorem shutL_V {c d : Cx} : ∀ {l : List AV} {vs : List Value}, l.all shutS = true → VL c l vs → VL d l vs
  | _, _, _, .nil => .nil
  | _, _, hs, .cons h1 h2 => by
    rw [List.all_cons, Bool.and_eq_true] at hs
    exact .cons (shutS_V hs.1 h1) (shutL_V hs.2 h2)
theorem shut_V {c d : Cx} {a : AV} {v : Value} (hs : shut a = true) (h : V c a v) : V d a v := by
  cases a with
  | agg cs =>
    obtain ⟨vs, rfl, hv, h1⟩ := h.agg_inv
    exact .agg _ _ (shutL_V hs hv) h1
  | _ => exact shutS_V hs h
theorem shuts_V {c d : Cx} : ∀ {l : List AV} {vs : List Value}, l.all shut = true → VL c l vs → VL d l vs
  | _, _, _, .nil => .nil
  | _, _, hs, .cons h1 h2 => by
    rw [List.all_cons, Bool.and_eq_true] at hs
    exact .cons (shut_V hs.1 h1) (shuts_V hs.2 h2)
noncomputable def memoF (T : List (List AV × AV)) (p : List AV → H → E) (xs : List AV) (h : H) : E := List.rec (motive := fun _ => E) (p xs h) (fun e _ ih => bi (sameL e.1 xs) (.ok e.2 h) ih) T
structure EntryN (p : List AV → H → E) (e : List AV × AV) : Prop where
  args : e.1.all shut = true
  res : (concT e.2).isSome = true
  run : ∃ h', p e.1 H0 = .ok e.2 h'
theorem memoF_ok {P : Program} {f : FuncId} {p p0 : List AV → H → E} (hp : OneOk P f p) (hp0 : OneOk P f p0) : ∀ (T : List (List AV × AV)), (∀ e ∈ T, EntryN p e) → OneOk P f (memoF T p0)
  | [], _ => hp0
  | e0 :: T, hT => fun B W fit ι h w xs vs r h' rel hv e => by
    have e : bi (sameL e0.1 xs) (.ok e0.2 h) (memoF T p0 xs h) = .ok r h' := e
    cases hs : sameL e0.1 xs with
    | false =>
      rw [hs] at e
      exact memoF_ok hp hp0 T (fun x hx => hT x (List.mem_cons_of_mem _ hx)) B W fit ι h w xs vs r h' rel hv e
    | true =>
      have e1 : memo e0.1 e0.2 xs h = .ok r h' := by
        show bi (sameL e0.1 xs) (.ok e0.2 h) Ev.E.no = _
        rw [hs] at e ⊢
        exact e
      obtain ⟨q1, q2, h0, q3⟩ := hT e0 List.mem_cons_self
      obtain ⟨v, hv0⟩ := Option.isSome_iff_exists.1 q2
      exact memo_ok hp (v := v) (fun c u hu => concT_V hu hv0) (fun c => concT_mk hv0) (fun c d ws hw => shuts_V q1 hw) q3 B W fit ι h w xs vs r h' rel hv e1
end Ev
end Go.Proofs.YtbkeeghkpkfeiaaGreatDoor
