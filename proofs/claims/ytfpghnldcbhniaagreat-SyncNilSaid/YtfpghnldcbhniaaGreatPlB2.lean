/- strings.Builder in the run: what copyCheck and String give. -/
import Derived.Test.YtfpghnldcbhniaaGreatPlB
import Derived.Shelf.SlIterI.Nil
namespace Go.Proofs.YtfpghnldcbhniaaGreat
set_option linter.unusedVariables false
set_option linter.unusedSimpArgs false
open Go.RowKit Go.Maps Go.Sort Go.Shelf
namespace Ev
theorem take_get {l : List Value} {n i : Nat} {v : Value} (h : (l.take n)[i]? = some v) : l[i]? = some v := by
  rw [List.getElem?_take] at h
  split at h
  · exact h
  · cases h
theorem chkB_ok : OneOk Tryz.prog 211 chkB := by
  intro B W ι h w xs vs r h' rel hv e
  obtain ⟨x, rfl, e1⟩ := one1_ok (show one1 xs E.no _ = _ from e)
  obtain ⟨b, o, rfl, e2⟩ := ptr_ok e1
  obtain ⟨ho, e3⟩ := biE e2
  have ho := Nat.eq_of_beq_eq_true ho
  obtain ⟨cs, t, fz, hb, e4⟩ := at_cells e3
  obtain ⟨ht, e5⟩ := biE e4
  obtain ⟨hfz, e6⟩ := biE e5
  obtain ⟨hlen, e7⟩ := biE e6
  obtain ⟨a, ha, e8⟩ := obE e7
  subst ho
  have hfz := Nat.eq_of_beq_eq_true hfz
  subst hfz
  have hlen := Nat.le_of_ble_eq_true hlen
  rw [llen_eq] at hlen
  clear e e1 e2 e3 e4 e5 e6 e7
  cases hv with
  | cons hx hnil =>
    cases hnil
    obtain ⟨q, o', rfl, j1, j2⟩ := hx.ptr_inv
    obtain ⟨hq, rfl⟩ := j2 ⟨_, hb⟩
    obtain ⟨c', lo, hi, k1, k2, k3, k4, k5⟩ := block_cells rel hb hq
    have ha' : cs[0]? = some a := by rw [← lget_eq]; exact ha
    obtain ⟨v0, hv0, hvm⟩ := k3.get 0 ha'
    have hcell : w.cell? ⟨q, 0, none⟩ = some v0 := by
      have h1 : c'[0]? = some v0 := by simpa using take_get hv0
      simp [World.cell?, k1, h1]
    have enter : ∀ w0, (callFunc 211 #[pq q]).run Tryz.prog w0 = .ok (.enter 211 #[pq q]) w0 := fun w0 => enters_of Tryz.func211 (by kernel_rfl) rfl _ w0
    cases hs : sameAV .nilp a with
    | true =>
      rw [hs] at e8
      have := sameAV_eq _ _ hs
      subst this
      obtain ⟨cs', hp, e9⟩ := obE (show ob (lput [.ptr b 0] 0 cs) E.no _ = _ from e8)
      obtain ⟨e10, e11⟩ := okE e9
      subst e10 e11
      cases hvm
      have hsh : w.shape? q = some (t, c'.size) := by simp [World.shape?, k1]
      have hfr : w.frozen? ⟨q, 0, none⟩ = false := by
        simp only [World.frozen?, k1]
        rw [Bool.and_eq_false_iff]
        by_cases hlo : lo ≤ 0
        · right
          rw [decide_eq_false_iff_not]
          intro hhi
          have := k5 0 hlo hhi (by omega)
          omega
        · left
          exact decide_eq_false hlo
      obtain ⟨g1, g2, g3⟩ := store_block rel hb hq (Nat.le_refl 0) (VL.one (V.ptr b 0 q 0 j1 (fun _ => ⟨hq, rfl⟩))) (by intro a ha; rw [List.mem_singleton.1 ha]; rfl) hp
      refine ⟨enter, (check_fresh q t c'.size w hcell hsh ht (by omega) hfr).mono ?_⟩
      rintro e w' ⟨rfl, rfl⟩
      exact ⟨_, ι, rfl, g2, g3, .tuple [] [] .nil⟩
    | false =>
      rw [hs] at e8
      obtain ⟨hs2, e9⟩ := biE (show bi (sameAV (.ptr b 0) a) _ E.no = _ from e8)
      obtain ⟨e10, e11⟩ := okE e9
      subst e10 e11
      have := sameAV_eq _ _ hs2
      subst this
      obtain ⟨q2, o2, rfl, j3, j4⟩ := hvm.ptr_inv
      obtain ⟨hq2, rfl⟩ := j4 ⟨_, hb⟩
      have : q2 = q := by
        have h1 : (cx ι h w).ι b = some q := hq
        rw [h1] at hq2
        exact (Option.some.inj hq2).symm
      subst this
      refine ⟨enter, (check_used q2 w hcell).mono ?_⟩
      rintro e w' ⟨rfl, rfl⟩
      exact ⟨_, ι, rfl, rel, Ext.refl _ _ _, .tuple [] [] .nil⟩
theorem bytesOk_VL {c : Cx} : ∀ {cs : List AV} {vs : List Value} {s : List UInt8}, VL c cs vs → bytesOf cs = some s → bytesOk cs = true → vs = s.map fun x => Value.int .u8 (x.toNat : Int)
  | _, _, s, .nil, e, _ => by cases e; rfl
  | _, _, s, .cons (a := a) (al := al) h1 h2, e, e' => by
    cases a with
    | int k n =>
      obtain ⟨hk, e⟩ := bi_some (by simp) (show bi (eqK k .u8) (Int.cas n (fun m => ob (bytesOf al) none fun r => some (UInt8.ofNat m :: r)) fun _ => none) none = some s from e)
      cases eqK_eq hk
      cases n with
      | negSucc n => cases e
      | ofNat n =>
        obtain ⟨r, e1, e2⟩ := ob_some (by simp) (show ob (bytesOf al) none (fun r => some (UInt8.ofNat n :: r)) = some s from e)
        cases e2
        obtain ⟨h3, h4⟩ := and'_eq (show and' (Nat.blt n 256) (bytesOk al) = true from e')
        rw [blt_eq] at h3
        have h3 := of_decide_eq_true h3
        rw [bytesOk_VL h2 e1 h4, h1.int_inv]
        simp [Nat.mod_eq_of_lt h3]
    | _ => cases e
theorem wup_freeze (w : World) (q n : Nat) : WUp w (w.freeze ⟨q, 0, none⟩ n) q := by
  unfold World.freeze
  split
  · exact WUp.refl w q
  · exact ⟨rfl, rfl, rfl, by simp, fun y hy => by simp [Array.getElem?_modify, Ne.symm hy]⟩
theorem strB_ok : OneOk Tryz.prog 168 strB := by
  intro B W ι h w xs vs r h' rel hv e
  obtain ⟨x, rfl, e1⟩ := one1_ok (show one1 xs E.no _ = _ from e)
  obtain ⟨b, o, rfl, e2⟩ := ptr_ok e1
  obtain ⟨ho, e3⟩ := biE e2
  have ho := Nat.eq_of_beq_eq_true ho
  obtain ⟨cs, t, fz, hb, e4⟩ := at_cells e3
  obtain ⟨a, ha, e8⟩ := obE e4
  subst ho
  clear e e1 e2 e3 e4
  cases hv with
  | cons hx hnil =>
    cases hnil
    obtain ⟨q, o', rfl, j1, j2⟩ := hx.ptr_inv
    obtain ⟨hq, rfl⟩ := j2 ⟨_, hb⟩
    obtain ⟨c', lo, hi, k1, k2, k3, k4, k5⟩ := block_cells rel hb hq
    have ha' : cs[1]? = some a := by rw [← lget_eq]; exact ha
    obtain ⟨v0, hv0, hvm⟩ := k3.get 1 ha'
    have hcell : w.cell? ⟨q, 1, none⟩ = some v0 := by
      have h1 : c'[1]? = some v0 := by simpa using take_get hv0
      simp [World.cell?, k1, h1]
    have enter : ∀ w0, (callFunc 168 #[pq q]).run Tryz.prog w0 = .ok (.enter 168 #[pq q]) w0 := fun w0 => enters_of Tryz.func168 (by kernel_rfl) rfl _ w0
    obtain ⟨dr1, dr2⟩ := rel.drew
    rcases slice_ok' e8 with ⟨rfl, e9⟩ | ⟨g, og, n, cap, sz, rfl, e9⟩
    · obtain ⟨e10, e11⟩ := okE e9
      subst e10 e11
      cases hvm
      refine ⟨enter, (bld_none q w hcell).mono ?_⟩
      rintro e w' ⟨rfl, rfl⟩
      exact ⟨_, ι, rfl, dr1, dr2, .str []⟩
    · obtain ⟨hc, e10⟩ := biE e9
      obtain ⟨hog, hc⟩ := and'_eq hc
      obtain ⟨hsz, hc⟩ := and'_eq hc
      obtain ⟨hn0, hn1⟩ := and'_eq hc
      have hog := Nat.eq_of_beq_eq_true hog
      have hsz := Nat.eq_of_beq_eq_true hsz
      rw [blt_eq] at hn0 hn1
      have hn0 := of_decide_eq_true hn0
      have hn1 := of_decide_eq_true hn1
      subst hog hsz
      obtain ⟨ds, t2, fz2, hg, e11⟩ := at_cells e10
      obtain ⟨ht2, e12⟩ := biE e11
      have ht2 := Nat.eq_of_beq_eq_true ht2
      subst ht2
      obtain ⟨l, hl, e13⟩ := obE e12
      obtain ⟨bs, hbs, e14⟩ := obE e13
      obtain ⟨hok, e15⟩ := biE e14
      obtain ⟨e16, e17⟩ := okE e15
      subst e16 e17
      obtain ⟨hl1, rfl⟩ := ltake_some hl
      obtain ⟨y, o2, c2, rfl, g1, g2, g3, g4⟩ := hvm.slice_inv
      obtain ⟨hy, hy2, hy3⟩ := g4 ⟨_, hg⟩
      have ho2 : o2 = 0 := by
        rcases hy2 with h1 | h1
        · exact h1
        · omega
      subst ho2
      obtain ⟨d', lo2, hi2, m1, m2, m3, m4, m5⟩ := block_cells rel hg hy
      have hv2 := bytesOk_VL (m3.take n) hbs hok
      rw [List.take_take, Nat.min_eq_left hl1] at hv2
      have hlen : bs.length = n := by
        have := congrArg List.length hv2
        simp at this
        omega
      have hne : bs ≠ [] := by
        intro h0
        rw [h0] at hlen
        simp at hlen
        omega
      have hsh : w.shape? y = some (5, d'.size) := by simp [World.shape?, m1]
      have hcells : ∀ j x, bs[j]? = some x → w.cell? ((⟨y, 0, none⟩ : Addr).add j) = some (.int .u8 x.toNat) := fun j x hj => by
        have h1 : (d'.toList.take n)[j]? = some (.int .u8 (x.toNat : Int)) := by rw [hv2]; simp [hj]
        have h2 : d'[j]? = some (.int .u8 (x.toNat : Int)) := by simpa using take_get h1
        have ha : (⟨y, 0, none⟩ : Addr).add j = ⟨y, j, none⟩ := by unfold Addr.add; split <;> simp_all
        rw [ha]
        simp [World.cell?, m1, h2]
      rw [← hlen] at hcell
      refine ⟨enter, (bld_text q y c2 d'.size bs w hne hcell (by omega) hsh (by omega) (by omega) hcells).mono ?_⟩
      rintro e w' ⟨rfl, rfl⟩
      have hheap : (w.drew.freeze ⟨y, 0, none⟩ bs.length).heap[y]? = some (.cells d' 5 (if lo2 == hi2 then (0, 0 + bs.length) else (min lo2 0, max hi2 (0 + bs.length)))) := by
        unfold World.freeze
        rw [if_neg (by omega)]
        have : w.drew.heap[y]? = some (.cells d' 5 (lo2, hi2)) := m1
        simp [Array.getElem?_modify, this]
      obtain ⟨s1, s2⟩ := dr1.wipe hg hy (wup_freeze w.drew y bs.length) (by unfold bsz; rw [hheap]; rw [show ({ w with drawn := w.drawn + 1 } : World).heap[y]? = some (.cells d' 5 (lo2, hi2)) from m1])
      exact ⟨_, ι, rfl, s1, Ext.trans rel dr2 s2, .str bs⟩
end Ev
end Go.Proofs.YtfpghnldcbhniaaGreat
