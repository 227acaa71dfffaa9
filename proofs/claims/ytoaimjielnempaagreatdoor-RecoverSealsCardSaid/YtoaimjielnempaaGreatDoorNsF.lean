/- slices.AppendSeq(nil, maps.Keys(m)) in the run: of a map without entries, of a map with one. slices.Sorted(maps.Keys(m)) in the run: of a map of strings, whatever its entries. maps.Clone in the run. strconv.Atoi("index") in the run: an error. -/
import Derived.RangeFuncNested
import Derived.RangeFuncBound
import Derived.RangeFuncCalls
import Derived.RangeFuncLeaves
import Derived.RangeFuncBox
import Derived.Shelf.Abstract
import Derived.Shelf.RegionOpen
import Derived.WalkKit
import Derived.OwnWalkIn
import Derived.TacticsInMore
import Derived.LoopNIn
import Derived.LoopIn
import Derived.Maps.RangeRun
import Derived.Test.YtoaimjielnempaaGreatDoorNsE
import Derived.Test.YtoaimjielnempaaGreatDoorNsD
import Derived.Shelf.SlIter.Nil
import Derived.Shelf.SlIter.Collect
import Derived.Shelf.SortM.Plain
import Derived.Shelf.SortM.SortNone
import Derived.Ground.GgzProg
import Derived.Ground.SlgmProg
import Derived.Shelf.SlMaps.Clone
import Derived.Shelf.Strconv.AtoiAll
import Derived.Shelf.Lay
import Derived.Ground.NamesProg
namespace Go.Proofs.YtoaimjielnempaaGreatDoor
set_option linter.unusedVariables false
set_option linter.unusedSimpArgs false
open Go.RowKit Go.Maps Go.Shelf
attribute [local go_sem] Oper.semAt_some
namespace Ev

noncomputable def two1 {α β : Type} (l : List α) (d : β) (f : α → α → β) : β := List.rec (motive := fun _ => β) d (fun x l _ => one1 l d (f x)) l
theorem two1_ok {α : Type} {l : List α} {f : α → α → E} {r : AV} {h' : H} (e : two1 l .no f = .ok r h') : ∃ x y, l = [x, y] ∧ f x y = .ok r h' := by
  cases l with
  | nil => cases e
  | cons x l =>
    obtain ⟨y, rfl, e⟩ := one1_ok (show one1 l .no (f x) = _ from e)
    exact ⟨x, y, rfl, e⟩
theorem func_okE {v : AV} {f : FuncId → Nat → List AV → E} {r : AV} {h : H} (e : v.func? E.no f = .ok r h) : ∃ g n cs, v = .func g n cs ∧ f g n cs = .ok r h := by
  cases v <;> first | cases e | exact ⟨_, _, _, rfl, e⟩
/-- The nil slice and maps.Keys' iterator: the map's entries. -/
noncomputable def keysAt (okg : FuncId → Bool) (xs : List AV) (h : H) (f : FuncId → TypeId → List (AV × AV × Nat) → Nat → E) : E :=
  two1 xs .no fun s q => s.slice? .no (q.func? .no fun g n caps => bi (and' (okg g) (Nat.beq n 0)) (one1 caps .no fun c => c.ptr? .no fun b o => bi (Nat.beq o 0) (cellsAt h b .no fun cs _ _ => ob (lget cs 0) .no fun m => m.map? .no .no fun mb => mapAt h mb .no fun kt es ck => f g kt es ck) .no) .no) fun _ _ _ _ _ => .no

section
variable {P : Program} {B : Nat} {W : World} {ι : Pos → Option Nat} {h h' : H} {w w' : World} {r : AV}
theorem V.nils_inv {c : Cx} {v : Value} (hv : V c .nils v) : v = .slice none 0 0 := by cases hv; rfl
theorem keysAt_ok {okg : FuncId → Bool} {xs : List AV} {vs : List Value} {f : FuncId → TypeId → List (AV × AV × Nat) → Nat → E} (rel : Rel P B W ι h w) (hv : VL (cx ι h w) xs vs) (e : keysAt okg xs h f = .ok r h') :
    ∃ (g q qm : Nat) (es' : Array MapEntry) (kt : TypeId) (es : List (AV × AV × Nat)) (ck : Nat), vs = [.slice none 0 0, .func (.func g) #[] #[.pointer (some ⟨q, 0, none⟩)]] ∧ okg g = true ∧ q < w.heap.size ∧
      w.cell? ⟨q, 0, none⟩ = some (.map (some qm)) ∧ w.heap[qm]? = some (.map es' ck) ∧ ML P kt (cx ι h w) es es'.toList ∧ f g kt es ck = .ok r h' := by
  obtain ⟨s, x, rfl, e1⟩ := two1_ok (show two1 xs E.no _ = _ from e)
  rcases slice_ok e1 with ⟨rfl, e1⟩ | ⟨_, _, _, _, _, _, e1⟩ | e1
  · obtain ⟨g, n, caps, rfl, e2⟩ := func_okE e1
    obtain ⟨hb1, e3⟩ := biE e2
    obtain ⟨hg, hn⟩ := and'_eq hb1
    have hn := Nat.eq_of_beq_eq_true hn
    obtain ⟨c, rfl, e4⟩ := one1_ok e3
    obtain ⟨b, o, rfl, e5⟩ := ptr_ok e4
    obtain ⟨ho, e6⟩ := biE e5
    have ho := Nat.eq_of_beq_eq_true ho
    obtain ⟨cs, t, fz, hb, e7⟩ := at_cells e6
    obtain ⟨m, hm, e8⟩ := obE e7
    obtain ⟨mb, rfl, e9⟩ : ∃ b, m = .map b ∧ _ := by
      rcases map_ok e8 with ⟨_, h⟩ | h
      · cases h
      · exact h
    obtain ⟨kt, es, ck, hmb, e10⟩ := at_map e9
    subst hn ho
    cases hv with
    | cons hs hv =>
      cases hv with
      | cons hx hnil =>
        cases hnil
        rw [hs.nils_inv]
        cases hx with
        | func _ _ _ us hc _ =>
          cases hc with
          | cons hp hnil =>
            cases hnil
            obtain ⟨q, o', rfl, j1, j2⟩ := hp.ptr_inv
            obtain ⟨hq, rfl⟩ := j2 ⟨_, hb⟩
            obtain ⟨c', lo, hi, k1, k2, k3, k4, k5⟩ := block_cells rel hb hq
            have hm' : cs[0]? = some (.map mb) := by rw [← lget_eq]; exact hm
            obtain ⟨v0, hv0, hvm⟩ := k3.get 0 hm'
            obtain ⟨qm, rfl, i1, i2⟩ := hvm.map_inv
            have hqm := i2 ⟨_, hmb⟩
            obtain ⟨es', m1, m2⟩ := rel.ob mb _ qm hmb hqm
            have hq0 : q < w.heap.size := (Array.getElem?_eq_some_iff.1 k1).1
            have hcell : w.cell? ⟨q, 0, none⟩ = some (.map (some qm)) := by
              have h1 : c'[0]? = some (.map (some qm)) := by
                have h2 := hv0
                rw [List.getElem?_take] at h2
                split at h2
                · simpa using h2
                · cases h2
              simp [World.cell?, k1, h1]
            exact ⟨g, q, qm, es', kt, es, ck, rfl, hg, hq0, hcell, m1, m2, e10⟩
  · cases e1
  · cases e1
/-- Blocks are made, the others are as they were. -/
theorem Rel.later (r : Rel P B W ι h w) (u : Below w.heap.size w w') : Rel P B W ι h w' ∧ Ext ι h w ι h w' := by
  have hold : ∀ y, y < w.heap.size → w'.heap[y]? = w.heap[y]? := fun y hy => u.block y hy
  have hbs : ∀ y, y < w.heap.size → bsz w' y = bsz w y := fun y hy => by unfold bsz; rw [hold y hy]
  have ext : Ext ι h w ι h w' := ⟨Nat.le_refl _, fun _ o _ e => ⟨⟨o, e⟩, rfl⟩, fun b o' x _ e hx => .inr ⟨b, o', e, hx⟩, u.size, hbs, fun y hy _ => hold y hy, u.os, u.tape, u.output⟩
  have hle := ext.le r
  exact ⟨⟨r.fresh, fun p o y hp hy => ObjR.mono hle (hold y (r.ob p o y hp hy).lt) (r.ob p o y hp hy), r.inj, r.base, r.low, ext.out r⟩, ext⟩

/-- An iterator over a map without entries gives nothing. -/
def KeysNil (P : Program) (g : Nat) : Prop := ∀ (q qm ck l : Nat) (W : World), W.cell? ⟨q, 0, none⟩ = some (.map (some qm)) → W.heap[qm]? = some (.map #[] ck) →
  Calls P g #[.func (.yield l) #[] #[], .pointer (some ⟨q, 0, none⟩)] W fun e W' => (∃ v, e = .returned v) ∧ Below W.heap.size W W'
theorem cell_lt {a : Addr} {v : Value} (h : w.cell? a = some v) : a.block < w.heap.size := by
  by_cases hlt : a.block < w.heap.size
  · exact hlt
  · have : w.heap[a.block]? = none := Array.getElem?_eq_none (by omega)
    simp [World.cell?, this] at h
theorem stops_nil {g q qm ck n : Nat} (hk : KeysNil P g) (hm : w.cell? ⟨q, 0, none⟩ = some (.map (some qm))) (hq : w.heap[qm]? = some (.map #[] ck)) :
    SeqStopsK (α := Empty) Fence.wide n P g #[.pointer (some ⟨q, 0, none⟩)] (fun x => x.elim) (fun _ _ => True) (fun xs => xs = []) (fun _ => False) 0 w := by
  intro l J Jx W hW hJ hJx _ h0
  refine (callsIn_wide.2 (hk q qm ck l W ((hW.cell (p := ⟨q, 0, none⟩) (cell_lt hm)).trans hm) ((hW.block qm (Array.getElem?_eq_some_iff.1 hq).1).trans hq))).mono ?_
  rintro e W' ⟨hv, hb⟩
  exact ⟨hv, .inl ⟨[], rfl, hJ [] W W' none h0 ⟨hb.os, hb.tape, hb.output, hb.size, fun k hk _ => hb.block k hk⟩ (fun r e => by cases e)⟩⟩
theorem next_nil (W : World) (ty : TypeId) (q ck : Nat) (hq : W.heap[q]? = some (.map #[] ck)) :
    (Instr.next (.pointer (some ⟨W.heap.size, 0, none⟩)) false ty).run P (W.alloc (.mapIter (some q) ck #[] ck)) = .ok (.tuple #[.bool false]) (W.alloc (.mapIter (some q) ck #[] ck)) := by
  rcases run_next_map W ty q ck ck #[] #[] ck hq (by simp) (Nat.le_refl _) with ⟨_, h⟩ | ⟨e, he, _⟩
  · exact h
  · simp [leftOf] at he
end
end Ev
end Go.Proofs.YtoaimjielnempaaGreatDoor
namespace Go.Proofs.YtoaimjielnempaaGreatDoor
set_option linter.unusedVariables false
set_option linter.unusedSimpArgs false
open Go.RowKit Go.Maps Go.Sort Go.Shelf
namespace Ev
shelf_lay_g SlLaysZ.n7 Ggz 7 at Tryz 119 as keysF
shelf_lay_g SlLaysZ.n6 Ggz 6 at Tryz 118 as sortedS
shelf_lay_g SlLaysM.n6 Slgm 6 at Tryz 201 as sortS
theorem sortsS (m : Nat) : AnyZ.SortsIn Tryz.prog sortedS_ren Fence.wide m :=
  ⟨fun blk off cap ss W hH hblk hsz => callsIn_wide.2 (AnyM.slices_Sort_string sortS blk off cap ss W hH hblk hsz),
   fun p cap W => callsIn_wide.2 (AnyM.slices_Sort_string_none sortS p cap W)⟩
set_option maxHeartbeats 1000000 in
theorem sortedS_calls {g q : Nat} {D0 : DataW Unit} {w : World} (hseq : SeqGives Fence.wide 3 Tryz.prog g #[.pointer (some ⟨q, 0, none⟩)] encStr (fun ss => ss.Perm (strKeys D0)) (Maps.size D0) w) (eg : ∀ args w, (callFunc g args).run Tryz.prog w = .ok (.enter g args) w) (hmax : Maps.size D0 ≤ maxLen) (hbytes : Maps.size D0 * 16 ≤ 140737488355328) :
    Calls Tryz.prog 118 #[.func (.func g) #[] #[.pointer (some ⟨q, 0, none⟩)]] w fun e w' => ∃ (v : Value) (ss : List (List UInt8)), e = .returned v ∧ ss.Perm (strKeys D0) ∧
      w'.ownsRow w.heap.size 9 1 v ss.length ((ss.mergeSort (fun x y => decide (x ≤ y))).map encStr) ∧ (v = .slice none 0 0 ↔ ss = []) ∧ Below w.heap.size w w' := by
  refine (callsIn_wide (n := 6)).1 ?_
  have cS := AnyZ.sorted_in sortedS Fence.wide 6 trivial trivial trivial trivial rfl (by omega) (sortsS _) (enters_of Tryz.func201 (by kernel_rfl) rfl) g #[.pointer (some ⟨q, 0, none⟩)] trivial eg _ _ hmax hbytes _ hseq
  exact cS

/-! The entries' keys, in order. -/
noncomputable def keyStrs (es : List (AV × AV × Nat)) : Option (List (List UInt8)) :=
  List.rec (motive := fun _ => Option (List (List UInt8))) (some []) (fun e _ ih => e.1.str? none fun s => ob ih none fun r => some (s :: r)) es
noncomputable def bornOkS (ck : Nat) (es : List (AV × AV × Nat)) : Nat → Bool :=
  List.rec (motive := fun _ => Nat → Bool) (fun lo => Nat.ble lo ck) (fun e _ ih lo => and' (Nat.ble lo e.2.2) (ih (Nat.succ e.2.2))) es
noncomputable def insS (z : List UInt8) (l : List (List UInt8)) : List (List UInt8) := List.rec (motive := fun _ => List (List UInt8)) [z] (fun y l ih => bi (ltBytes y z) (y :: ih) (z :: y :: l)) l
noncomputable def isortS (l : List (List UInt8)) : List (List UInt8) := List.rec (motive := fun _ => List (List UInt8)) [] (fun z _ ih => insS z ih) l
noncomputable def asStrs (l : List (List UInt8)) : List AV := List.rec (motive := fun _ => List AV) [] (fun z _ r => .str z :: r) l
noncomputable def llenS (l : List (List UInt8)) : Nat := List.rec (motive := fun _ => Nat) 0 (fun _ _ n => Nat.succ n) l
theorem llenS_eq (l : List (List UInt8)) : llenS l = l.length := by
  induction l with
  | nil => rfl
  | cons a l ih => show Nat.succ (llenS l) = _; rw [ih]; rfl
theorem asStrs_eq (l : List (List UInt8)) : asStrs l = l.map fun z => .str z := by
  induction l with
  | nil => rfl
  | cons a l ih => show AV.str a :: asStrs l = _; rw [ih]; rfl
theorem less_dec : ∀ (x y : List UInt8), Op.bytesLess x y = decide (x < y)
  | [], [] => by simp [Op.bytesLess]
  | _ :: _, [] => by simp [Op.bytesLess]
  | [], _ :: _ => by simp [Op.bytesLess]
  | a :: x, b :: y => by
    rw [Op.bytesLess, less_dec x y]
    simp only [List.cons_lt_cons_iff]
    by_cases h1 : a < b <;> by_cases h2 : a = b <;> by_cases h3 : x < y <;> simp [h1, h2, h3]
theorem ltS (x y : List UInt8) : ltBytes x y = decide (x < y) := by rw [ltBytes_eq, less_dec]
theorem insS_perm (z : List UInt8) (l : List (List UInt8)) : (insS z l).Perm (z :: l) := by
  induction l with
  | nil => exact List.Perm.refl _
  | cons y l ih =>
    show (bi (ltBytes y z) (y :: insS z l) (z :: y :: l)).Perm _
    cases ltBytes y z with
    | true => exact (List.Perm.cons y ih).trans (List.Perm.swap z y l)
    | false => exact List.Perm.refl _
theorem isortS_perm (l : List (List UInt8)) : (isortS l).Perm l := by
  induction l with
  | nil => exact List.Perm.refl _
  | cons y l ih => exact (insS_perm y (isortS l)).trans (List.Perm.cons y ih)
theorem insS_sorted (z : List UInt8) (l : List (List UInt8)) (h : l.Pairwise (· ≤ ·)) : (insS z l).Pairwise (· ≤ ·) := by
  induction l with
  | nil => exact List.pairwise_singleton _ _
  | cons y l ih =>
    have h1 := List.pairwise_cons.1 h
    show (bi (ltBytes y z) (y :: insS z l) (z :: y :: l)).Pairwise _
    cases hb : ltBytes y z with
    | true =>
      have hlt : y < z := by rw [ltS] at hb; exact of_decide_eq_true hb
      refine List.pairwise_cons.2 ⟨fun a ha => ?_, ih h1.2⟩
      rcases List.mem_cons.1 ((insS_perm z l).mem_iff.1 ha) with rfl | ha
      · exact List.le_of_lt hlt
      · exact h1.1 a ha
    | false =>
      have hle : z ≤ y := by rw [ltS] at hb; exact List.not_lt.1 (of_decide_eq_false hb)
      refine List.pairwise_cons.2 ⟨fun a ha => ?_, h⟩
      rcases List.mem_cons.1 ha with rfl | ha
      · exact hle
      · exact List.le_trans hle (h1.1 a ha)
theorem isortS_sorted (l : List (List UInt8)) : (isortS l).Pairwise (· ≤ ·) := by
  induction l with
  | nil => exact List.Pairwise.nil
  | cons y l ih => exact insS_sorted y _ ih
theorem isortS_eq {l ss : List (List UInt8)} (h : ss.Perm l) : ss.mergeSort (fun x y => decide (x ≤ y)) = isortS l := by
  have tr : ∀ a b c : List UInt8, decide (a ≤ b) = true → decide (b ≤ c) = true → decide (a ≤ c) = true := fun a b c h1 h2 => by simp only [decide_eq_true_eq] at *; exact List.le_trans h1 h2
  have tot : ∀ a b : List UInt8, (decide (a ≤ b) || decide (b ≤ a)) = true := fun a b => by simp only [Bool.or_eq_true, decide_eq_true_eq]; exact List.le_total a b
  refine List.Perm.eq_of_pairwise (le := fun a b => a ≤ b) (fun a b _ _ h1 h2 => List.le_antisymm h1 h2) ((List.pairwise_mergeSort tr tot ss).imp (fun {a b} h => by simpa using h)) (isortS_sorted l) (((List.mergeSort_perm ss _).trans h).trans (isortS_perm l).symm)
section
variable {P : Program} {B : Nat} {W : World} {ι : Pos → Option Nat} {h h' : H} {w w' : World} {r : AV} {c : Cx} {kt : TypeId}
theorem bornS_ok {ck : Nat} : ∀ {es : List (AV × AV × Nat)} {lo : Nat} {fs : List MapEntry}, bornOkS ck es lo = true → ML P kt c es fs → (∀ x ∈ fs, lo ≤ x.born ∧ x.born < ck) ∧ (fs.map (·.born)).Nodup ∧ (fs.map (·.key)).Nodup ∧ lo + fs.length ≤ ck
  | [], lo, _, hb, .nil => ⟨fun x h => (by cases h), by simp, by simp, by have := Nat.le_of_ble_eq_true (show Nat.ble lo ck = true from hb); simpa using this⟩
  | (k, v, n) :: es, lo, e :: fs, hb, .cons h1 h2 h3 h4 h5 h6 h7 => by
    obtain ⟨g1, g2⟩ := and'_eq (show and' (Nat.ble lo n) (bornOkS ck es (Nat.succ n)) = true from hb)
    have g1 := Nat.le_of_ble_eq_true g1
    obtain ⟨i1, i2, i3, i4⟩ := bornS_ok g2 h7
    have hck : n < ck := by omega
    refine ⟨fun x hx => ?_, ?_, ?_, by simp; omega⟩
    · rcases List.mem_cons.1 hx with rfl | hx
      · rw [h5]; exact ⟨g1, hck⟩
      · have := i1 x hx; omega
    · rw [List.map_cons, List.nodup_cons]
      refine ⟨fun hm => ?_, i2⟩
      obtain ⟨x, hx, hb⟩ := List.mem_map.1 hm
      have := (i1 x hx).1
      rw [hb, h5] at this
      omega
    · rw [List.map_cons, List.nodup_cons]
      refine ⟨fun hm => ?_, i3⟩
      obtain ⟨x, hx, hb⟩ := List.mem_map.1 hm
      exact h6 x hx hb
theorem strs_ok (hu : P.underlying kt = some .string) : ∀ {es : List (AV × AV × Nat)} {zs : List (List UInt8)} {fs : List MapEntry}, keyStrs es = some zs → ML P kt c es fs →
    (∀ x ∈ fs, ∃ y, Go.WideElems.rd (H := Unit) P kt (fun _ => some (.nil, [])) x = some y) ∧ (fs.map (Go.WideElems.rg (H := Unit) P kt (fun _ => some (.nil, [])))).map (fun p => strOf p.1) = zs
  | [], zs, _, e, .nil => by cases e; exact ⟨fun x h => (by cases h), rfl⟩
  | (k, v, n) :: es, zs, e :: fs, hz, .cons h1 h2 h3 h4 h5 h6 h7 => by
    cases k with
    | str z =>
      obtain ⟨rs, hr, hz⟩ := ob_some (by simp) (show ob (keyStrs es) none (fun r => some (z :: r)) = some zs from hz)
      cases hz
      obtain ⟨i1, i2⟩ := strs_ok hu hr h7
      obtain ⟨l, hl⟩ := h2
      have hkey := h1.str_inv
      have hl' : l = .string z := by
        rw [hkey] at hl
        simp [keyOf, mapKey, hu] at hl
        exact hl.2.symm
      subst hl'
      have hrd : Go.WideElems.rd (H := Unit) P kt (fun _ => some (.nil, [])) e = some (.string z, .nil) := by
        simp [Go.WideElems.rd, hl]
      refine ⟨fun x hx => ?_, ?_⟩
      · rcases List.mem_cons.1 hx with rfl | hx
        · exact ⟨_, hrd⟩
        · exact i1 x hx
      · rw [List.map_cons, List.map_cons, i2]
        simp [Go.WideElems.rg, hrd, strOf]
    | _ => cases hz
/-- A new row of texts. -/
theorem rowS_CR {t : TypeId} {u : Value} {zs : List (List UInt8)} {n : Nat} (rel : Rel P B W ι h w) (hn : zs.length = Nat.succ n) (hrow : w'.ownsRow w.heap.size t 1 u zs.length (zs.map encStr)) (hb : Below w.heap.size w w') :
    CR P B W ι h w (.slice h.nx 0 zs.length none 1) (h.new (.cells (asStrs zs) t 0)) (.returned u) w' := by
  have hVL : ∀ (c : Cx) (l : List (List UInt8)), VL c (l.map fun z => .str z) (l.map encStr) := fun c l => by
    induction l with
    | nil => exact .nil
    | cons a l ih => exact .cons (.str _) ih
  rcases hrow.2 with ⟨rfl, hz⟩ | ⟨gb, cap, cur, rfl, hbase, hgb, r1, r2, r3, r4⟩
  · omega
  · have hobj : ObjR P (cx ι h w) w' gb (.cells (asStrs zs) t 0) := by
      rw [asStrs_eq]
      refine ⟨cur, 0, 0, hgb, ?_, ?_, ?_, fun i _ hi => by omega⟩
      · simp at r1 r3 ⊢; omega
      · have : cur.toList.take (zs.map fun z => AV.str z).length = zs.map encStr := by simpa using r4
        rw [this]
        exact hVL _ _
      · intro b hb
        obtain ⟨z, _, rfl⟩ := List.mem_map.1 hb
        rfl
    obtain ⟨s1, s2⟩ := rel.newAt hb hbase hobj
    refine ⟨_, _, rfl, s1, s2, .slice _ _ _ _ _ _ _ _ ?_ r1 (fun k hk => by cases hk) fun _ => ⟨upd_same _ _ _, .inl rfl, ?_⟩⟩
    · show h.nx.num < (h.new _).nx.num
      rw [nx_new]; omega
    · show 0 + cap * 1 ≤ bsz w' gb
      unfold bsz
      rw [hgb]
      simp at r3 ⊢
      omega
end
noncomputable def okFiles (g : FuncId) : Bool := Nat.beq g 202
noncomputable def sortSP (xs : List AV) (h : H) : E := keysAt okFiles (.nils :: xs) h fun g kt es ck =>
  bi (Nat.beq kt 9) (bi (bornOkS ck es 0) (bi (Nat.ble ck 1000000) (ob (keyStrs es) .no fun zs => Nat.cas (llenS zs) (.ok .nils h) fun n => .ok (.slice h.nx 0 (Nat.succ n) none 1) (h.new (.cells (asStrs (isortS zs)) 9 0))) .no) .no) .no
theorem sortSP_ok : OneOk Tryz.prog 118 sortSP := by
  intro B W fit ι h w xs vs r h' rel hv e
  obtain ⟨g, q, qm, es', kt, es, ck, hvs, hg, hq0, hcell, m1, m2, e1⟩ := keysAt_ok rel (VL.cons V.nils hv) (show keysAt okFiles (.nils :: xs) h _ = _ from e)
  have hvs : vs = [.func (.func g) #[] #[.pointer (some ⟨q, 0, none⟩)]] := (List.cons.inj hvs).2
  subst hvs
  obtain ⟨hkt, e2⟩ := biE e1
  obtain ⟨hbo, e2⟩ := biE e2
  obtain ⟨hck, e2⟩ := biE e2
  obtain ⟨zs, hz, e3⟩ := obE e2
  have hkt := Nat.eq_of_beq_eq_true hkt
  have hck := Nat.le_of_ble_eq_true hck
  subst hkt
  obtain rfl := Nat.eq_of_beq_eq_true hg
  have eg : ∀ (args : Array Value) (w : World), (callFunc 202 args).run Tryz.prog w = .ok (.enter 202 args) w := enters_of Tryz.func202 (by kernel_rfl) rfl
  obtain ⟨b1, b2, b3, b4⟩ := bornS_ok hbo m2
  obtain ⟨c1, c2⟩ := strs_ok (P := Tryz.prog) (kt := 9) (by kernel_rfl) hz m2
  have hsize : es'.size ≤ 1000000 := by
    have h1 : 0 + es'.toList.length ≤ ck := b4
    simp at h1
    omega
  have hlen : zs.length = es'.size := by rw [← c2]; simp
  have hown : w.ownsMap (H := Unit) Tryz.prog 9 (fun _ => some (.nil, [])) qm es'.size (.map ((es'.toList.map (Go.WideElems.rg (H := Unit) Tryz.prog 9 (fun _ => some (.nil, [])))).foldr DataW.insert [])) :=
    ⟨es', ck, m1, ⟨Nat.le_trans hsize (by decide), ⟨fun x hx => (b1 x hx).2, b2, b3⟩, c1⟩, Nat.le_refl _, rfl⟩
  have hperm0 : (strKeys (DataW.map ((es'.toList.map (Go.WideElems.rg (H := Unit) Tryz.prog 9 (fun _ => some (.nil, [])))).foldr DataW.insert []))).Perm zs := by
    rw [← c2]
    exact (Go.WideShapes.sorted_perm _).map _
  have hms : Maps.size (DataW.map ((es'.toList.map (Go.WideElems.rg (H := Unit) Tryz.prog 9 (fun _ => some (.nil, [])))).foldr DataW.insert [])) = es'.size := by
    have h1 := (Go.WideShapes.sorted_perm (es'.toList.map (Go.WideElems.rg (H := Unit) Tryz.prog 9 (fun _ => some (.nil, []))))).length_eq
    simpa [Maps.size] using h1
  refine ⟨fun w0 => enters_of Tryz.func118 (by kernel_rfl) rfl _ w0, ?_⟩
  have hk := AnyZ.keys_gives (ρ := keysF_ren) { keysF with } Fence.wide 3 trivial rfl (by omega) q qm es'.size _ w hq0 hcell hown
  refine (sortedS_calls hk eg (by rw [hms]; exact Nat.le_trans hsize (by decide)) (by rw [hms]; omega)).mono ?_
  rintro e w' ⟨v, ss, rfl, hperm, hrow, hnil, hb⟩
  have hp := hperm.trans hperm0
  have hl2 : ss.length = zs.length := hp.length_eq
  rw [isortS_eq hp] at hrow
  have hl3 : (isortS zs).length = zs.length := (isortS_perm zs).length_eq
  rw [llenS_eq] at e3
  cases hn : zs.length with
  | zero =>
    rw [hn] at e3
    obtain ⟨e4, e5⟩ := okE (show E.ok .nils h = _ from e3)
    subst e4 e5
    have hss : ss = [] := List.eq_nil_of_length_eq_zero (by omega)
    rw [hnil.2 hss]
    obtain ⟨s1, s2⟩ := rel.later hb
    exact ⟨_, ι, rfl, s1, s2, .nils⟩
  | succ n =>
    rw [hn] at e3
    obtain ⟨e4, e5⟩ := okE (show E.ok (.slice h.nx 0 (Nat.succ n) none 1) (h.new (.cells (asStrs (isortS zs)) 9 0)) = _ from e3)
    subst e4 e5
    have h1 := rowS_CR (t := 9) (zs := isortS zs) (n := n) rel (by omega) (by rw [hl3, ← hl2]; exact hrow) hb
    rw [hl3, hn] at h1
    exact h1
end Ev
end Go.Proofs.YtoaimjielnempaaGreatDoor
namespace Go.Proofs.YtoaimjielnempaaGreatDoor
set_option linter.unusedVariables false
set_option linter.unusedSimpArgs false
open Go.RowKit Go.Maps
namespace Ev
noncomputable def cloneP (xs : List AV) (h : H) : E := one1 xs .no fun x => x.map? .no (.ok .nilm h) fun b => mapAt h b .no fun kt es ck => .ok (.map h.nx) (h.new (.map kt es ck))
theorem clone_ok {P : Program} {f : FuncId} (enter : ∀ vs w0, (callFunc f vs).run P w0 = .ok (.enter f vs) w0)
    (hc : ∀ (b : Nat) (es : Array MapEntry) (ck : Nat) (w : World), w.heap[b]? = some (.map es ck) → Calls P f #[.map (some b)] w fun e w' => e = .returned (.map (some w.heap.size)) ∧ w' = w.alloc (.map es ck))
    (hn : ∀ w : World, Calls P f #[.map none] w fun e w' => e = .returned (.map none) ∧ w' = w) : OneOk P f cloneP := by
  intro B W fit ι h w xs vs r h' rel hv e
  obtain ⟨x, rfl, e1⟩ := one1_ok (show one1 xs E.no _ = _ from e)
  cases hv with
  | cons hx hnil =>
    cases hnil
    rcases map_ok e1 with ⟨rfl, e2⟩ | ⟨b, rfl, e2⟩
    · obtain ⟨e3, e4⟩ := okE e2
      subst e3 e4
      cases hx
      refine ⟨fun w0 => enter _ w0, (hn w).mono ?_⟩
      rintro e w' ⟨rfl, rfl⟩
      exact ⟨_, ι, rfl, rel, Ext.refl _ _ _, .nilm⟩
    · obtain ⟨kt, es, ck, hb, e3⟩ := at_map e2
      obtain ⟨e4, e5⟩ := okE e3
      subst e4 e5
      obtain ⟨q, rfl, i1, i2⟩ := hx.map_inv
      have hq := i2 ⟨_, hb⟩
      obtain ⟨es', m1, m2⟩ := rel.ob b _ q hb hq
      refine ⟨fun w0 => enter _ w0, (hc q es' ck w m1).mono ?_⟩
      rintro e w' ⟨rfl, rfl⟩
      obtain ⟨s1, s2⟩ := rel.new (o := .map kt es ck) (wnew_alloc w (.map es' ck)) ⟨es', heap_new (wnew_alloc w _), m2⟩
      refine ⟨_, _, rfl, s1, s2, .map _ _ ?_ fun _ => upd_same _ _ _⟩
      show h.nx.num < (h.new _).nx.num
      rw [nx_new]; omega
end Ev
end Go.Proofs.YtoaimjielnempaaGreatDoor
namespace Go.Proofs.YtoaimjielnempaaGreatDoor
set_option linter.unusedVariables false
set_option linter.unusedSimpArgs false
open Go.RowKit Go.Maps Go.Shelf
namespace Ev
shelf_lay LaysC.n172 Nm 172 at Tryz as atoiL
def idxB : List UInt8 := [105, 110, 100, 101, 120]
noncomputable def atoiP (xs : List AV) (h : H) : E := one1 xs .no fun x => x.str? .no fun s => bi (eqBytes s idxB) (.ok (.tuple [.int .i64 0, .iface 16777218 .undef]) h) .no
theorem atoi_calls (ev : Value) (w : World) (hv : w.cell? ⟨errB, 0, none⟩ = some ev) (hev : ev = .nilIface ∨ ∃ te pe, ev = .iface te pe) :
    Calls Tryz.prog 150 #[.string ⟨idxB.toArray⟩] w fun e w' => (∃ t N, e = .returned (.tuple #[.int .i64 0, .iface t (.pointer (some ⟨N, 0, none⟩))])) ∧ RowKit.Below w.heap.size w w' :=
  (Any.strconv_Atoi_syntax atoiL ⟨idxB.toArray⟩ (by decide) (by decide +kernel) ev w hv hev).mono fun e w' ⟨N, h1, _, _, h2⟩ => ⟨⟨_, N, h1⟩, h2⟩
theorem atoiP_ok : OneOk Tryz.prog 150 atoiP := by
  intro B W fit ι h w xs vs r h' rel hv e
  obtain ⟨x, rfl, e1⟩ := one1_ok (show one1 xs E.no _ = _ from e)
  obtain ⟨s, rfl, e2⟩ := str_ok e1
  obtain ⟨hs, e3⟩ := biE e2
  have hs : s = idxB := by rw [eqBytes_eq] at hs; exact of_decide_eq_true hs
  obtain ⟨e4, e5⟩ := okE e3
  subst hs e4 e5
  cases hv with
  | cons hx hnil =>
    cases hnil
    cases hx
    obtain ⟨ev, h1, h2⟩ := fit.now rel
    refine ⟨fun w0 => enters_of Tryz.func150 (by kernel_rfl) rfl _ w0, (atoi_calls ev w h1 h2).mono ?_⟩
    rintro e w' ⟨⟨t, N, rfl⟩, hb⟩
    obtain ⟨s1, s2⟩ := rel.later hb
    exact ⟨_, ι, rfl, s1, s2, .tuple _ [.int .i64 0, .iface t (.pointer (some ⟨N, 0, none⟩))] (.cons (.int _ _) (.cons (.any 0 _ rfl (fun _ h => by cases h)) .nil))⟩
end Ev
end Go.Proofs.YtoaimjielnempaaGreatDoor
