/- slices.AppendSeq(nil, maps.Keys(m)) in the run: of a map without entries, of a map with one. The walks of the iterators over empty maps, and of slices.AppendSeq over them. slices.AppendSeq(nil, maps.Keys(m)) in the run: the shelf's contracts at maps of one entry, int and string keys. strconv.Atoi("index") in the run: an error. maps.Clone in the run. strings.Repeat in the run. strings.Clone in the run. -/
import Derived.RangeFuncNested
import Derived.RangeFuncBound
import Derived.RangeFuncCalls
import Derived.RangeFuncLeaves
import Derived.RangeFuncBox
import Derived.Shelf.Abstract
import Derived.Shelf.RegionOpen
import Derived.WalkKit
import Derived.OwnWalkIn
import Derived.TacticsInMore
import Derived.LoopNIn
import Derived.LoopIn
import Derived.Maps.RangeRun
import Derived.Test.YtbkeeghkpkfeiaaGreatDoorNsE
import Derived.Test.YtbkeeghkpkfeiaaGreatDoorNsD
import Derived.Shelf.SlIterI.Collect
import Derived.Shelf.SlIter.Collect
import Derived.Ground.GgzProg
import Derived.Shelf.Strconv.AtoiAll
import Derived.Shelf.Lay
import Derived.Ground.NamesProg
import Derived.Shelf.SlMaps.Clone
import Derived.Shelf.Strings.Repeat
import Derived.Shelf.Strconv.Clone
namespace Go.Proofs.YtbkeeghkpkfeiaaGreatDoor
set_option linter.unusedVariables false
set_option linter.unusedSimpArgs false
open Go.RowKit Go.Maps Go.Shelf
attribute [local go_sem] Oper.semAt_some
namespace Ev

noncomputable def two1 {α β : Type} (l : List α) (d : β) (f : α → α → β) : β := List.rec (motive := fun _ => β) d (fun x l _ => one1 l d (f x)) l
theorem two1_ok {α : Type} {l : List α} {f : α → α → E} {r : AV} {h' : H} (e : two1 l .no f = .ok r h') : ∃ x y, l = [x, y] ∧ f x y = .ok r h' := by
  cases l with
  | nil => cases e
  | cons x l =>
    obtain ⟨y, rfl, e⟩ := one1_ok (show one1 l .no (f x) = _ from e)
    exact ⟨x, y, rfl, e⟩
theorem func_okE {v : AV} {f : FuncId → Nat → List AV → E} {r : AV} {h : H} (e : v.func? E.no f = .ok r h) : ∃ g n cs, v = .func g n cs ∧ f g n cs = .ok r h := by
  cases v <;> first | cases e | exact ⟨_, _, _, rfl, e⟩
/-- The nil slice and maps.Keys' iterator: the map's entries. -/
noncomputable def keysAt (okg : FuncId → Bool) (xs : List AV) (h : H) (f : FuncId → TypeId → List (AV × AV × Nat) → Nat → E) : E :=
  two1 xs .no fun s q => s.slice? .no (q.func? .no fun g n caps => bi (and' (okg g) (Nat.beq n 0)) (one1 caps .no fun c => c.ptr? .no fun b o => bi (Nat.beq o 0) (cellsAt h b .no fun cs _ _ => ob (lget cs 0) .no fun m => m.map? .no .no fun mb => mapAt h mb .no fun kt es ck => f g kt es ck) .no) .no) fun _ _ _ _ _ => .no

section
variable {P : Program} {B : Nat} {W : World} {ι : Pos → Option Nat} {h h' : H} {w w' : World} {r : AV}
theorem V.nils_inv {c : Cx} {v : Value} (hv : V c .nils v) : v = .slice none 0 0 := by cases hv; rfl
theorem keysAt_ok {okg : FuncId → Bool} {xs : List AV} {vs : List Value} {f : FuncId → TypeId → List (AV × AV × Nat) → Nat → E} (rel : Rel P B W ι h w) (hv : VL (cx ι h w) xs vs) (e : keysAt okg xs h f = .ok r h') :
    ∃ (g q qm : Nat) (es' : Array MapEntry) (kt : TypeId) (es : List (AV × AV × Nat)) (ck : Nat), vs = [.slice none 0 0, .func (.func g) #[] #[.pointer (some ⟨q, 0, none⟩)]] ∧ okg g = true ∧ q < w.heap.size ∧
      w.cell? ⟨q, 0, none⟩ = some (.map (some qm)) ∧ w.heap[qm]? = some (.map es' ck) ∧ ML P kt (cx ι h w) es es'.toList ∧ f g kt es ck = .ok r h' := by
  obtain ⟨s, x, rfl, e1⟩ := two1_ok (show two1 xs E.no _ = _ from e)
  rcases slice_ok e1 with ⟨rfl, e1⟩ | ⟨_, _, _, _, _, _, e1⟩ | e1
  · obtain ⟨g, n, caps, rfl, e2⟩ := func_okE e1
    obtain ⟨hb1, e3⟩ := biE e2
    obtain ⟨hg, hn⟩ := and'_eq hb1
    have hn := Nat.eq_of_beq_eq_true hn
    obtain ⟨c, rfl, e4⟩ := one1_ok e3
    obtain ⟨b, o, rfl, e5⟩ := ptr_ok e4
    obtain ⟨ho, e6⟩ := biE e5
    have ho := Nat.eq_of_beq_eq_true ho
    obtain ⟨cs, t, fz, hb, e7⟩ := at_cells e6
    obtain ⟨m, hm, e8⟩ := obE e7
    obtain ⟨mb, rfl, e9⟩ : ∃ b, m = .map b ∧ _ := by
      rcases map_ok e8 with ⟨_, h⟩ | h
      · cases h
      · exact h
    obtain ⟨kt, es, ck, hmb, e10⟩ := at_map e9
    subst hn ho
    cases hv with
    | cons hs hv =>
      cases hv with
      | cons hx hnil =>
        cases hnil
        rw [hs.nils_inv]
        cases hx with
        | func _ _ _ us hc _ =>
          cases hc with
          | cons hp hnil =>
            cases hnil
            obtain ⟨q, o', rfl, j1, j2⟩ := hp.ptr_inv
            obtain ⟨hq, rfl⟩ := j2 ⟨_, hb⟩
            obtain ⟨c', lo, hi, k1, k2, k3, k4, k5⟩ := block_cells rel hb hq
            have hm' : cs[0]? = some (.map mb) := by rw [← lget_eq]; exact hm
            obtain ⟨v0, hv0, hvm⟩ := k3.get 0 hm'
            obtain ⟨qm, rfl, i1, i2⟩ := hvm.map_inv
            have hqm := i2 ⟨_, hmb⟩
            obtain ⟨es', m1, m2⟩ := rel.ob mb _ qm hmb hqm
            have hq0 : q < w.heap.size := (Array.getElem?_eq_some_iff.1 k1).1
            have hcell : w.cell? ⟨q, 0, none⟩ = some (.map (some qm)) := by
              have h1 : c'[0]? = some (.map (some qm)) := by
                have h2 := hv0
                rw [List.getElem?_take] at h2
                split at h2
                · simpa using h2
                · cases h2
              simp [World.cell?, k1, h1]
            exact ⟨g, q, qm, es', kt, es, ck, rfl, hg, hq0, hcell, m1, m2, e10⟩
  · cases e1
  · cases e1
/-- Blocks are made, the others are as they were. -/
theorem Rel.later (r : Rel P B W ι h w) (u : Below w.heap.size w w') : Rel P B W ι h w' ∧ Ext ι h w ι h w' := by
  have hold : ∀ y, y < w.heap.size → w'.heap[y]? = w.heap[y]? := fun y hy => u.block y hy
  have hbs : ∀ y, y < w.heap.size → bsz w' y = bsz w y := fun y hy => by unfold bsz; rw [hold y hy]
  have ext : Ext ι h w ι h w' := ⟨Nat.le_refl _, fun _ o _ e => ⟨⟨o, e⟩, rfl⟩, fun b o' x _ e hx => .inr ⟨b, o', e, hx⟩, u.size, hbs, fun y hy _ => hold y hy, u.os, u.tape, u.output⟩
  have hle := ext.le r
  exact ⟨⟨r.fresh, fun p o y hp hy => ObjR.mono hle (hold y (r.ob p o y hp hy).lt) (r.ob p o y hp hy), r.inj, r.base, r.low, ext.out r⟩, ext⟩

/-- An iterator over a map without entries gives nothing. -/
def KeysNil (P : Program) (g : Nat) : Prop := ∀ (q qm ck l : Nat) (W : World), W.cell? ⟨q, 0, none⟩ = some (.map (some qm)) → W.heap[qm]? = some (.map #[] ck) →
  Calls P g #[.func (.yield l) #[] #[], .pointer (some ⟨q, 0, none⟩)] W fun e W' => (∃ v, e = .returned v) ∧ Below W.heap.size W W'
theorem cell_lt {a : Addr} {v : Value} (h : w.cell? a = some v) : a.block < w.heap.size := by
  by_cases hlt : a.block < w.heap.size
  · exact hlt
  · have : w.heap[a.block]? = none := Array.getElem?_eq_none (by omega)
    simp [World.cell?, this] at h
theorem stops_nil {g q qm ck n : Nat} (hk : KeysNil P g) (hm : w.cell? ⟨q, 0, none⟩ = some (.map (some qm))) (hq : w.heap[qm]? = some (.map #[] ck)) :
    SeqStopsK (α := Empty) Fence.wide n P g #[.pointer (some ⟨q, 0, none⟩)] (fun x => x.elim) (fun _ _ => True) (fun xs => xs = []) (fun _ => False) 0 w := by
  intro l J Jx W hW hJ hJx _ h0
  refine (callsIn_wide.2 (hk q qm ck l W ((hW.cell (p := ⟨q, 0, none⟩) (cell_lt hm)).trans hm) ((hW.block qm (Array.getElem?_eq_some_iff.1 hq).1).trans hq))).mono ?_
  rintro e W' ⟨hv, hb⟩
  exact ⟨hv, .inl ⟨[], rfl, hJ [] W W' none h0 ⟨hb.os, hb.tape, hb.output, hb.size, fun k hk _ => hb.block k hk⟩ (fun r e => by cases e)⟩⟩
theorem next_nil (W : World) (ty : TypeId) (q ck : Nat) (hq : W.heap[q]? = some (.map #[] ck)) :
    (Instr.next (.pointer (some ⟨W.heap.size, 0, none⟩)) false ty).run P (W.alloc (.mapIter (some q) ck #[] ck)) = .ok (.tuple #[.bool false]) (W.alloc (.mapIter (some q) ck #[] ck)) := by
  rcases run_next_map W ty q ck ck #[] #[] ck hq (by simp) (Nat.le_refl _) with ⟨_, h⟩ | ⟨e, he, _⟩
  · exact h
  · simp [leftOf] at he
end
end Ev
end Go.Proofs.YtbkeeghkpkfeiaaGreatDoor
namespace Go.Proofs.YtbkeeghkpkfeiaaGreatDoor
set_option linter.unusedVariables false
set_option linter.unusedSimpArgs false
open Go.RowKit Go.Maps Go.Shelf
attribute [local go_sem] Oper.semAt_some
namespace Ev

set_option maxRecDepth 100000 in
set_option maxHeartbeats 1000000 in
/-- maps.Keys[map[int]*bedrock/node.link,int,*bedrock/node.link]$1 -/
theorem keysNil119 : KeysNil Tryz.prog 119 := by
  intro q qm ck l W hm hq
  refine (callsIn_wide (n := 3)).1 ?_
  refine callsIn_of_wp Tryz.func119 rfl trivial ?_ rfl
  simp only [Tryz.ntmps119, List.size_toArray, List.length_cons, List.length_nil, Nat.reduceAdd, Nat.reduceSub, Array.replicate_succ, Array.replicate_zero, List.push_toArray, List.append_toArray, List.nil_append, List.cons_append]
  have hrg := run_range_map (P := Tryz.prog) W 90 3 _ qm #[] ck Tryz.underlying90 hq
  have hnx := fun ty => next_nil (P := Tryz.prog) W ty qm ck hq
  gi_wp2
  refine wpIn_loop_rounds 1 ?_
  rw [roundsIn_succ]
  gi_wp2
  go_end0
  exact ⟨⟨_, rfl⟩, (Below.refl _ _).alloc (Nat.le_refl _) _⟩

set_option maxRecDepth 100000 in
set_option maxHeartbeats 1000000 in
/-- maps.Keys[map[uint32]int64,uint32,int64]$1 -/
theorem keysNil260 : KeysNil Tryz.prog 260 := by
  intro q qm ck l W hm hq
  refine (callsIn_wide (n := 3)).1 ?_
  refine callsIn_of_wp Tryz.func260 rfl trivial ?_ rfl
  simp only [Tryz.ntmps260, List.size_toArray, List.length_cons, List.length_nil, Nat.reduceAdd, Nat.reduceSub, Array.replicate_succ, Array.replicate_zero, List.push_toArray, List.append_toArray, List.nil_append, List.cons_append]
  have hrg := run_range_map (P := Tryz.prog) W 177 35 _ qm #[] ck Tryz.underlying177 hq
  have hnx := fun ty => next_nil (P := Tryz.prog) W ty qm ck hq
  gi_wp2
  refine wpIn_loop_rounds 1 ?_
  rw [roundsIn_succ]
  gi_wp2
  go_end0
  exact ⟨⟨_, rfl⟩, (Below.refl _ _).alloc (Nat.le_refl _) _⟩

set_option maxRecDepth 100000 in
set_option maxHeartbeats 1000000 in
/-- maps.Keys[map[int]*bedrock/sync.peer,int,*bedrock/sync.peer]$1 -/
theorem keysNil617 : KeysNil Tryz.prog 617 := by
  intro q qm ck l W hm hq
  refine (callsIn_wide (n := 3)).1 ?_
  refine callsIn_of_wp Tryz.func617 rfl trivial ?_ rfl
  simp only [Tryz.ntmps617, List.size_toArray, List.length_cons, List.length_nil, Nat.reduceAdd, Nat.reduceSub, Array.replicate_succ, Array.replicate_zero, List.push_toArray, List.append_toArray, List.nil_append, List.cons_append]
  have hrg := run_range_map (P := Tryz.prog) W 288 3 _ qm #[] ck Tryz.underlying288 hq
  have hnx := fun ty => next_nil (P := Tryz.prog) W ty qm ck hq
  gi_wp2
  refine wpIn_loop_rounds 1 ?_
  rw [roundsIn_succ]
  gi_wp2
  go_end0
  exact ⟨⟨_, rfl⟩, (Below.refl _ _).alloc (Nat.le_refl _) _⟩

set_option maxRecDepth 100000 in
set_option maxHeartbeats 1000000 in
/-- maps.Keys[map[int]*bedrock/relay.peer,int,*bedrock/relay.peer]$1 -/
theorem keysNil690 : KeysNil Tryz.prog 690 := by
  intro q qm ck l W hm hq
  refine (callsIn_wide (n := 3)).1 ?_
  refine callsIn_of_wp Tryz.func690 rfl trivial ?_ rfl
  simp only [Tryz.ntmps690, List.size_toArray, List.length_cons, List.length_nil, Nat.reduceAdd, Nat.reduceSub, Array.replicate_succ, Array.replicate_zero, List.push_toArray, List.append_toArray, List.nil_append, List.cons_append]
  have hrg := run_range_map (P := Tryz.prog) W 291 3 _ qm #[] ck Tryz.underlying291 hq
  have hnx := fun ty => next_nil (P := Tryz.prog) W ty qm ck hq
  gi_wp2
  refine wpIn_loop_rounds 1 ?_
  rw [roundsIn_succ]
  gi_wp2
  go_end0
  exact ⟨⟨_, rfl⟩, (Below.refl _ _).alloc (Nat.le_refl _) _⟩

set_option maxRecDepth 100000 in
set_option maxHeartbeats 1000000 in
/-- maps.Keys[bedrock/disk.files,string,string]$1 -/
theorem keysNil656 : KeysNil Tryz.prog 656 := by
  intro q qm ck l W hm hq
  refine (callsIn_wide (n := 3)).1 ?_
  refine callsIn_of_wp Tryz.func656 rfl trivial ?_ rfl
  simp only [Tryz.ntmps656, List.size_toArray, List.length_cons, List.length_nil, Nat.reduceAdd, Nat.reduceSub, Array.replicate_succ, Array.replicate_zero, List.push_toArray, List.append_toArray, List.nil_append, List.cons_append]
  have hrg := run_range_map (P := Tryz.prog) W 160 9 _ qm #[] ck Tryz.underlying160 hq
  have hnx := fun ty => next_nil (P := Tryz.prog) W ty qm ck hq
  gi_wp2
  refine wpIn_loop_rounds 1 ?_
  rw [roundsIn_succ]
  gi_wp2
  go_end0
  exact ⟨⟨_, rfl⟩, (Below.refl _ _).alloc (Nat.le_refl _) _⟩

set_option maxRecDepth 100000 in
set_option maxHeartbeats 1000000 in
/-- maps.Keys[bedrock/pool.set[bedrock/api.Hash],bedrock/api.Hash,bool]$1 -/
theorem keysNil739 : KeysNil Tryz.prog 739 := by
  intro q qm ck l W hm hq
  refine (callsIn_wide (n := 3)).1 ?_
  refine callsIn_of_wp Tryz.func739 rfl trivial ?_ rfl
  simp only [Tryz.ntmps739, List.size_toArray, List.length_cons, List.length_nil, Nat.reduceAdd, Nat.reduceSub, Array.replicate_succ, Array.replicate_zero, List.push_toArray, List.append_toArray, List.nil_append, List.cons_append]
  have hrg := run_range_map (P := Tryz.prog) W 667 51 _ qm #[] ck Tryz.underlying667 hq
  have hnx := fun ty => next_nil (P := Tryz.prog) W ty qm ck hq
  gi_wp2
  refine wpIn_loop_rounds 1 ?_
  rw [roundsIn_succ]
  gi_wp2
  go_end0
  exact ⟨⟨_, rfl⟩, (Below.refl _ _).alloc (Nat.le_refl _) _⟩

set_option maxRecDepth 100000 in
set_option maxHeartbeats 1000000 in
/-- slices.AppendSeq[[]int,int] -/
theorem app252 {g q qm ck : Nat} {w : World} (eg : ∀ args w, (callFunc g args).run Tryz.prog w = .ok (.enter g args) w) (hk : KeysNil Tryz.prog g) (hm : w.cell? ⟨q, 0, none⟩ = some (.map (some qm))) (hq : w.heap[qm]? = some (.map #[] ck)) :
    Calls Tryz.prog 252 #[.slice none 0 0, .func (.func g) #[] #[.pointer (some ⟨q, 0, none⟩)]] w fun e w' => e = .returned (.slice none 0 0) ∧ Below w.heap.size w w' := by
  refine (callsIn_wide (n := 6)).1 ?_
  refine callsIn_of_wp_marks Tryz.func252 rfl trivial ?_ rfl
  simp only [Tryz.ntmps252, List.size_toArray, List.length_cons, List.length_nil, Nat.reduceAdd, Nat.reduceSub, Array.replicate_succ, Array.replicate_zero, List.push_toArray, List.append_toArray, List.nil_append, List.cons_append]
  gi_wp2
  have hB0 : Below w.heap.size w (w.alloc (.cells #[.slice none 0 0] 27)) := (Below.refl _ w).alloc (Nat.le_refl _) _
  have bx := Boxed.new w 27 (.slice none 0 0)
  refine wpIn_rangeFunc_ownF (α := Empty) (Kp := fun _ _ => True) (S := fun xs => xs = []) (Sp := fun _ => False) (N := 0) (encs := fun x => x.elim) rfl (by omega) (gf := g) (lb := #[.pointer (some ⟨q, 0, none⟩)]) rfl trivial eg
    (stops_nil (qm := qm) (ck := ck) hk ((hB0.cell (p := ⟨q, 0, none⟩) (cell_lt hm)).trans hm) ((hB0.block qm (Array.getElem?_eq_some_iff.1 hq).1).trans hq)) (fun _ _ => trivial) (fun _ _ _ _ _ _ _ _ => trivial) (Below.refl _ _) (fun x => x.elim)
    (fun pre W => (W.cell? ⟨w.heap.size, 0, none⟩ = some (.slice none 0 0) ∧ W.frozen? ⟨w.heap.size, 0, none⟩ = false) ∧ Below w.heap.size w W)
    (fun _ _ _ => False)
    (OwnFrom.and (Own.from (fun s A B row hs hg hr => ⟨cell_kept hs.1 hg hr, (frozen_kept hs.1 hg hr).trans hs.2⟩) _) (ownFrom_below (Nat.le_refl _) (by simp)))
    (fun _ _ _ _ _ hs _ _ => hs)
    ⟨⟨bx.cell, bx.frozen⟩, hB0⟩
    (fun x => x.elim) (fun _ x => x.elim) (fun _ _ x => x.elim) ?done ?stop
  case done =>
    rintro D ys W hD rfl ⟨⟨hc, _⟩, hB⟩ hK
    gi_wp2
    refine ⟨by simp, .inl ⟨_, _, rfl, run_takeDeferred hK, ?_⟩⟩
    exact ⟨_, results_tmp rfl _ _ _, rfl, hB.trans (belowK_b (w := w) (Nat.le_refl _) W D _ _ (by simp at hD; omega) hK rfl rfl)⟩
  case stop =>
    rintro D c pre W _ _ h _
    exact h.elim

set_option maxRecDepth 100000 in
set_option maxHeartbeats 1000000 in
/-- slices.AppendSeq[[]string,string] -/
theorem app715 {g q qm ck : Nat} {w : World} (eg : ∀ args w, (callFunc g args).run Tryz.prog w = .ok (.enter g args) w) (hk : KeysNil Tryz.prog g) (hm : w.cell? ⟨q, 0, none⟩ = some (.map (some qm))) (hq : w.heap[qm]? = some (.map #[] ck)) :
    Calls Tryz.prog 715 #[.slice none 0 0, .func (.func g) #[] #[.pointer (some ⟨q, 0, none⟩)]] w fun e w' => e = .returned (.slice none 0 0) ∧ Below w.heap.size w w' := by
  refine (callsIn_wide (n := 6)).1 ?_
  refine callsIn_of_wp_marks Tryz.func715 rfl trivial ?_ rfl
  simp only [Tryz.ntmps715, List.size_toArray, List.length_cons, List.length_nil, Nat.reduceAdd, Nat.reduceSub, Array.replicate_succ, Array.replicate_zero, List.push_toArray, List.append_toArray, List.nil_append, List.cons_append]
  gi_wp2
  have hB0 : Below w.heap.size w (w.alloc (.cells #[.slice none 0 0] 52)) := (Below.refl _ w).alloc (Nat.le_refl _) _
  have bx := Boxed.new w 52 (.slice none 0 0)
  refine wpIn_rangeFunc_ownF (α := Empty) (Kp := fun _ _ => True) (S := fun xs => xs = []) (Sp := fun _ => False) (N := 0) (encs := fun x => x.elim) rfl (by omega) (gf := g) (lb := #[.pointer (some ⟨q, 0, none⟩)]) rfl trivial eg
    (stops_nil (qm := qm) (ck := ck) hk ((hB0.cell (p := ⟨q, 0, none⟩) (cell_lt hm)).trans hm) ((hB0.block qm (Array.getElem?_eq_some_iff.1 hq).1).trans hq)) (fun _ _ => trivial) (fun _ _ _ _ _ _ _ _ => trivial) (Below.refl _ _) (fun x => x.elim)
    (fun pre W => (W.cell? ⟨w.heap.size, 0, none⟩ = some (.slice none 0 0) ∧ W.frozen? ⟨w.heap.size, 0, none⟩ = false) ∧ Below w.heap.size w W)
    (fun _ _ _ => False)
    (OwnFrom.and (Own.from (fun s A B row hs hg hr => ⟨cell_kept hs.1 hg hr, (frozen_kept hs.1 hg hr).trans hs.2⟩) _) (ownFrom_below (Nat.le_refl _) (by simp)))
    (fun _ _ _ _ _ hs _ _ => hs)
    ⟨⟨bx.cell, bx.frozen⟩, hB0⟩
    (fun x => x.elim) (fun _ x => x.elim) (fun _ _ x => x.elim) ?done ?stop
  case done =>
    rintro D ys W hD rfl ⟨⟨hc, _⟩, hB⟩ hK
    gi_wp2
    refine ⟨by simp, .inl ⟨_, _, rfl, run_takeDeferred hK, ?_⟩⟩
    exact ⟨_, results_tmp rfl _ _ _, rfl, hB.trans (belowK_b (w := w) (Nat.le_refl _) W D _ _ (by simp at hD; omega) hK rfl rfl)⟩
  case stop =>
    rintro D c pre W _ _ h _
    exact h.elim

set_option maxRecDepth 100000 in
set_option maxHeartbeats 1000000 in
/-- slices.AppendSeq[[]uint32,uint32] -/
theorem app429 {g q qm ck : Nat} {w : World} (eg : ∀ args w, (callFunc g args).run Tryz.prog w = .ok (.enter g args) w) (hk : KeysNil Tryz.prog g) (hm : w.cell? ⟨q, 0, none⟩ = some (.map (some qm))) (hq : w.heap[qm]? = some (.map #[] ck)) :
    Calls Tryz.prog 429 #[.slice none 0 0, .func (.func g) #[] #[.pointer (some ⟨q, 0, none⟩)]] w fun e w' => e = .returned (.slice none 0 0) ∧ Below w.heap.size w w' := by
  refine (callsIn_wide (n := 6)).1 ?_
  refine callsIn_of_wp_marks Tryz.func429 rfl trivial ?_ rfl
  simp only [Tryz.ntmps429, List.size_toArray, List.length_cons, List.length_nil, Nat.reduceAdd, Nat.reduceSub, Array.replicate_succ, Array.replicate_zero, List.push_toArray, List.append_toArray, List.nil_append, List.cons_append]
  gi_wp2
  have hB0 : Below w.heap.size w (w.alloc (.cells #[.slice none 0 0] 248)) := (Below.refl _ w).alloc (Nat.le_refl _) _
  have bx := Boxed.new w 248 (.slice none 0 0)
  refine wpIn_rangeFunc_ownF (α := Empty) (Kp := fun _ _ => True) (S := fun xs => xs = []) (Sp := fun _ => False) (N := 0) (encs := fun x => x.elim) rfl (by omega) (gf := g) (lb := #[.pointer (some ⟨q, 0, none⟩)]) rfl trivial eg
    (stops_nil (qm := qm) (ck := ck) hk ((hB0.cell (p := ⟨q, 0, none⟩) (cell_lt hm)).trans hm) ((hB0.block qm (Array.getElem?_eq_some_iff.1 hq).1).trans hq)) (fun _ _ => trivial) (fun _ _ _ _ _ _ _ _ => trivial) (Below.refl _ _) (fun x => x.elim)
    (fun pre W => (W.cell? ⟨w.heap.size, 0, none⟩ = some (.slice none 0 0) ∧ W.frozen? ⟨w.heap.size, 0, none⟩ = false) ∧ Below w.heap.size w W)
    (fun _ _ _ => False)
    (OwnFrom.and (Own.from (fun s A B row hs hg hr => ⟨cell_kept hs.1 hg hr, (frozen_kept hs.1 hg hr).trans hs.2⟩) _) (ownFrom_below (Nat.le_refl _) (by simp)))
    (fun _ _ _ _ _ hs _ _ => hs)
    ⟨⟨bx.cell, bx.frozen⟩, hB0⟩
    (fun x => x.elim) (fun _ x => x.elim) (fun _ _ x => x.elim) ?done ?stop
  case done =>
    rintro D ys W hD rfl ⟨⟨hc, _⟩, hB⟩ hK
    gi_wp2
    refine ⟨by simp, .inl ⟨_, _, rfl, run_takeDeferred hK, ?_⟩⟩
    exact ⟨_, results_tmp rfl _ _ _, rfl, hB.trans (belowK_b (w := w) (Nat.le_refl _) W D _ _ (by simp at hD; omega) hK rfl rfl)⟩
  case stop =>
    rintro D c pre W _ _ h _
    exact h.elim

set_option maxRecDepth 100000 in
set_option maxHeartbeats 1000000 in
/-- slices.AppendSeq[[]bedrock/api.Hash,bedrock/api.Hash] -/
theorem app642 {g q qm ck : Nat} {w : World} (eg : ∀ args w, (callFunc g args).run Tryz.prog w = .ok (.enter g args) w) (hk : KeysNil Tryz.prog g) (hm : w.cell? ⟨q, 0, none⟩ = some (.map (some qm))) (hq : w.heap[qm]? = some (.map #[] ck)) :
    Calls Tryz.prog 642 #[.slice none 0 0, .func (.func g) #[] #[.pointer (some ⟨q, 0, none⟩)]] w fun e w' => e = .returned (.slice none 0 0) ∧ Below w.heap.size w w' := by
  refine (callsIn_wide (n := 6)).1 ?_
  refine callsIn_of_wp_marks Tryz.func642 rfl trivial ?_ rfl
  simp only [Tryz.ntmps642, List.size_toArray, List.length_cons, List.length_nil, Nat.reduceAdd, Nat.reduceSub, Array.replicate_succ, Array.replicate_zero, List.push_toArray, List.append_toArray, List.nil_append, List.cons_append]
  gi_wp2
  have hB0 : Below w.heap.size w (w.alloc (.cells #[.slice none 0 0] 49)) := (Below.refl _ w).alloc (Nat.le_refl _) _
  have bx := Boxed.new w 49 (.slice none 0 0)
  refine wpIn_rangeFunc_ownF (α := Empty) (Kp := fun _ _ => True) (S := fun xs => xs = []) (Sp := fun _ => False) (N := 0) (encs := fun x => x.elim) rfl (by omega) (gf := g) (lb := #[.pointer (some ⟨q, 0, none⟩)]) rfl trivial eg
    (stops_nil (qm := qm) (ck := ck) hk ((hB0.cell (p := ⟨q, 0, none⟩) (cell_lt hm)).trans hm) ((hB0.block qm (Array.getElem?_eq_some_iff.1 hq).1).trans hq)) (fun _ _ => trivial) (fun _ _ _ _ _ _ _ _ => trivial) (Below.refl _ _) (fun x => x.elim)
    (fun pre W => (W.cell? ⟨w.heap.size, 0, none⟩ = some (.slice none 0 0) ∧ W.frozen? ⟨w.heap.size, 0, none⟩ = false) ∧ Below w.heap.size w W)
    (fun _ _ _ => False)
    (OwnFrom.and (Own.from (fun s A B row hs hg hr => ⟨cell_kept hs.1 hg hr, (frozen_kept hs.1 hg hr).trans hs.2⟩) _) (ownFrom_below (Nat.le_refl _) (by simp)))
    (fun _ _ _ _ _ hs _ _ => hs)
    ⟨⟨bx.cell, bx.frozen⟩, hB0⟩
    (fun x => x.elim) (fun _ x => x.elim) (fun _ _ x => x.elim) ?done ?stop
  case done =>
    rintro D ys W hD rfl ⟨⟨hc, _⟩, hB⟩ hK
    gi_wp2
    refine ⟨by simp, .inl ⟨_, _, rfl, run_takeDeferred hK, ?_⟩⟩
    exact ⟨_, results_tmp rfl _ _ _, rfl, hB.trans (belowK_b (w := w) (Nat.le_refl _) W D _ _ (by simp at hD; omega) hK rfl rfl)⟩
  case stop =>
    rintro D c pre W _ _ h _
    exact h.elim
end Ev
end Go.Proofs.YtbkeeghkpkfeiaaGreatDoor
namespace Go.Proofs.YtbkeeghkpkfeiaaGreatDoor
set_option linter.unusedVariables false
set_option linter.unusedSimpArgs false
open Go.RowKit Go.Maps Go.Sort Go.Shelf
namespace Ev
shelf_lay_g SlLaysZI.n7 Ggz 7 at Tryz 43 as keysN
shelf_lay_g SlLaysZI.n7 Ggz 7 at Tryz 489 as keysY
shelf_lay_g SlLaysZI.n7 Ggz 7 at Tryz 618 as keysR
shelf_lay_g SlLaysZ.n7 Ggz 7 at Tryz 579 as keysF
shelf_lay_g SlLaysZI.n11 Ggz 11 at Tryz 252 as appI
shelf_lay_g SlLaysZ.n11 Ggz 11 at Tryz 715 as appS

section
variable {P : Program} {B : Nat} {W : World} {ι : Pos → Option Nat} {h h' : H} {w w' : World} {r : AV}
theorem own_one {kt : TypeId} {x : MapEntry} {l : Lit} {qm ck : Nat} (m1 : w.heap[qm]? = some (.map #[x] ck)) (hx3 : keyOf P kt x.key = some l) (hlt : x.born < ck) :
    w.ownsMap (H := Unit) P kt (fun _ => some (.nil, [])) qm 1 (.map [(l, .nil)]) := by
  have hrd : Go.WideElems.rd (H := Unit) P kt (fun _ => some (.nil, [])) x = some (l, .nil) := by
    simp [Go.WideElems.rd, hx3]
  have hrg : Go.WideElems.rg (H := Unit) P kt (fun _ => some (.nil, [])) x = (l, .nil) := by
    simp [Go.WideElems.rg, hrd]
  refine ⟨#[x], ck, m1, ⟨show 1 ≤ maxLen by decide, ⟨fun y hy => ?_, by simp, by simp⟩, fun y hy => ?_⟩, by simp, ?_⟩
  · have : y = x := by simpa using hy
    subst this
    exact hlt
  · have : y = x := by simpa using hy
    subst this
    exact ⟨_, hrd⟩
  · simp [hrg, DataW.insert]
/-- A new row of one cell. -/
theorem row_CR {t : TypeId} {a : AV} {u v : Value} (rel : Rel P B W ι h w) (hv : ∀ c : Cx, V c a v) (ha : a.one = true) (hrow : w'.ownsRow w.heap.size t 1 u 1 [v]) (hb : Below w.heap.size w w') :
    CR P B W ι h w (.slice h.nx 0 1 none 1) (h.new (.cells [a] t 0)) (.returned u) w' := by
  rcases hrow.2 with ⟨rfl, hz⟩ | ⟨gb, cap, cur, rfl, hbase, hgb, r1, r2, r3, r4⟩
  · cases hz
  · have hobj : ObjR P (cx ι h w) w' gb (.cells [a] t 0) := by
      refine ⟨cur, 0, 0, hgb, ?_, ?_, ?_, fun i _ hi => by omega⟩
      · simp at r1 r3 ⊢; omega
      · have : cur.toList.take [a].length = [v] := by simpa using r4
        rw [this]
        exact .cons (hv _) .nil
      · intro b hb
        rw [List.mem_singleton.1 hb]
        exact ha
    obtain ⟨s1, s2⟩ := rel.newAt hb hbase hobj
    refine ⟨_, _, rfl, s1, s2, .slice _ _ _ _ _ _ _ _ ?_ r1 (fun k hk => by cases hk) fun _ => ⟨upd_same _ _ _, .inl rfl, ?_⟩⟩
    · show h.nx.num < (h.new _).nx.num
      rw [nx_new]; omega
    · show 0 + cap * 1 ≤ bsz w' gb
      unfold bsz
      rw [hgb]
      simp at r3 ⊢
      omega
theorem ML.one_inv {P : Program} {kt : TypeId} {c : Cx} {e : AV × AV × Nat} {fs : List MapEntry} (m : ML P kt c [e] fs) : ∃ x, fs = [x] ∧ V c e.1 x.key ∧ (∃ l, keyOf P kt x.key = some l) ∧ x.born = e.2.2 := by
  cases m with
  | cons h1 h2 h3 h4 h5 h6 h7 => cases h7; exact ⟨_, rfl, h1, h2, h5⟩

noncomputable def appP (okg : FuncId → Bool) (t : TypeId) (key : AV → Bool) (xs : List AV) (h : H) : E := keysAt okg xs h fun g kt es ck =>
  List.rec (motive := fun _ => E) (.ok .nils h) (fun e l _ => List.rec (motive := fun _ => E) (bi (and' (key e.1) (and' (Nat.beq kt t) (Nat.blt e.2.2 ck))) (.ok (.slice h.nx 0 1 none 1) (h.new (.cells [e.1] t 0))) .no) (fun _ _ _ => .no) l) es
theorem appP_ok {f : FuncId} {okg : FuncId → Bool} {t : TypeId} {key : AV → Bool} (enter : ∀ vs w0, (callFunc f vs).run P w0 = .ok (.enter f vs) w0)
    (l0 : ∀ (g q qm ck : Nat) (w : World), okg g = true → w.cell? ⟨q, 0, none⟩ = some (.map (some qm)) → w.heap[qm]? = some (.map #[] ck) →
      Calls P f #[.slice none 0 0, .func (.func g) #[] #[.pointer (some ⟨q, 0, none⟩)]] w fun e w' => e = .returned (.slice none 0 0) ∧ Below w.heap.size w w')
    (l1 : ∀ (g q qm ck : Nat) (w : World) (x : MapEntry) (a : AV) (l : Lit), okg g = true → key a = true → (∀ c : Cx, V c a x.key) → keyOf P t x.key = some l → x.born < ck → w.cell? ⟨q, 0, none⟩ = some (.map (some qm)) → w.heap[qm]? = some (.map #[x] ck) →
      Calls P f #[.slice none 0 0, .func (.func g) #[] #[.pointer (some ⟨q, 0, none⟩)]] w fun e w' => ∃ u, e = .returned u ∧ w'.ownsRow w.heap.size t 1 u 1 [x.key] ∧ Below w.heap.size w w')
    (hkey : ∀ (a : AV) (c : Cx) (v : Value), key a = true → V c a v → a.one = true ∧ ∀ c' : Cx, V c' a v) : OneOk P f (appP okg t key) := by
  intro B W fit ι h w xs vs r h' rel hv e
  obtain ⟨g, q, qm, es', kt, es, ck, rfl, hg, hq0, hcell, m1, m2, e1⟩ := keysAt_ok rel hv (show keysAt okg xs h _ = _ from e)
  refine ⟨fun w0 => enter _ w0, ?_⟩
  cases es with
  | nil =>
    have hes : es' = #[] := by cases hx : es'.toList with
      | nil => rw [← Array.toArray_toList (xs := es'), hx]
      | cons y l => rw [hx] at m2; cases m2
    subst hes
    obtain ⟨e2, e3⟩ := okE (show E.ok .nils h = _ from e1)
    subst e2 e3
    refine (l0 g q qm ck w hg hcell m1).mono ?_
    rintro e w' ⟨rfl, hb⟩
    obtain ⟨s1, s2⟩ := rel.later hb
    exact ⟨_, ι, rfl, s1, s2, .nils⟩
  | cons y l =>
    cases l with
    | cons z l => cases e1
    | nil =>
      obtain ⟨hb1, e2⟩ := biE (show bi (and' (key y.1) (and' (Nat.beq kt t) (Nat.blt y.2.2 ck))) _ E.no = _ from e1)
      obtain ⟨hk, hb2⟩ := and'_eq hb1
      obtain ⟨hkt, hlt⟩ := and'_eq hb2
      have hkt := Nat.eq_of_beq_eq_true hkt
      rw [blt_eq] at hlt
      have hlt : y.2.2 < ck := of_decide_eq_true hlt
      obtain ⟨e3, e4⟩ := okE e2
      subst e3 e4 hkt
      obtain ⟨x, hx1, hx2, ⟨l, hx3⟩, hx4⟩ := m2.one_inv
      have hes : es' = #[x] := by rw [← Array.toArray_toList (xs := es'), hx1]
      subst hes
      obtain ⟨k1, k2⟩ := hkey y.1 _ _ hk hx2
      refine (l1 g q qm ck w x y.1 l hg hk k2 hx3 (by rw [hx4]; exact hlt) hcell m1).mono ?_
      rintro e w' ⟨u, rfl, hrow, hb⟩
      exact row_CR rel k2 k1 hrow hb
end

def KeysInt (g : Nat) : Prop := ∀ (n q qm nn : Nat) (D0 : DataW Unit) (w : World), 1 ≤ n → q < w.heap.size → w.cell? ⟨q, 0, none⟩ = some (.map (some qm)) → w.ownsMap (H := Unit) Tryz.prog 3 (fun _ => some (.nil, [])) qm nn D0 →
  SeqGives Fence.wide n Tryz.prog g #[.pointer (some ⟨q, 0, none⟩)] encZ (fun ss => ss.Perm (intKeys D0)) (Maps.size D0) w
theorem keysIntN : KeysInt 119 := fun n q qm nn D0 w hn hq hm hown => AnyZI.keys_gives (ρ := keysN_ren) { keysN with } Fence.wide n trivial rfl hn q qm nn D0 w hq hm hown
theorem keysIntY : KeysInt 617 := fun n q qm nn D0 w hn hq hm hown => AnyZI.keys_gives (ρ := keysY_ren) { keysY with } Fence.wide n trivial rfl hn q qm nn D0 w hq hm hown
theorem keysIntR : KeysInt 690 := fun n q qm nn D0 w hn hq hm hown => AnyZI.keys_gives (ρ := keysR_ren) { keysR with } Fence.wide n trivial rfl hn q qm nn D0 w hq hm hown
theorem appI_one {g q qm ck : Nat} {w : World} {x : MapEntry} {z : Int} (hk : KeysInt g) (eg : ∀ args w, (callFunc g args).run Tryz.prog w = .ok (.enter g args) w) (hx : x.key = .int .i64 z) (hx3 : keyOf Tryz.prog 3 x.key = some (.int .i64 z)) (hlt : x.born < ck) (hm : w.cell? ⟨q, 0, none⟩ = some (.map (some qm))) (m1 : w.heap[qm]? = some (.map #[x] ck)) :
    Calls Tryz.prog 252 #[.slice none 0 0, .func (.func g) #[] #[.pointer (some ⟨q, 0, none⟩)]] w fun e w' => ∃ u, e = .returned u ∧ w'.ownsRow w.heap.size 3 1 u 1 [x.key] ∧ Below w.heap.size w w' := by
  refine (callsIn_wide (n := 6)).1 ?_
  have cS := AnyZI.appendSeq_in appI Fence.wide 6 trivial rfl (by omega) g #[.pointer (some ⟨q, 0, none⟩)] trivial eg _ _ (show 1 ≤ maxLen by decide) (show 1 * 8 ≤ 140737488355328 by decide) w (hk 5 q qm 1 _ w (by omega) (cell_lt hm) hm (own_one m1 hx3 hlt))
  refine cS.mono ?_
  rintro e w' ⟨v, ss, rfl, hperm, hrow, hnil, hb⟩
  have hss : ss = [z] := by
    have h1 : intKeys (DataW.map [(Lit.int .i64 z, (.nil : DataW Unit))]) = [z] := rfl
    rw [h1] at hperm
    exact List.perm_singleton.1 hperm
  subst hss
  exact ⟨v, rfl, by rw [hx]; exact hrow, hb⟩
def KeysStr (g : Nat) : Prop := ∀ (n q qm : Nat) (D0 : DataW Unit) (w : World), 1 ≤ n → q < w.heap.size → w.cell? ⟨q, 0, none⟩ = some (.map (some qm)) → w.ownsMap (H := Unit) Tryz.prog 9 (fun _ => some (.nil, [])) qm 1 D0 →
  SeqGives Fence.wide n Tryz.prog g #[.pointer (some ⟨q, 0, none⟩)] encStr (fun ss => ss.Perm (strKeys D0)) (Maps.size D0) w
theorem keysStrF : KeysStr 656 := fun n q qm D0 w hn hq hm hown => AnyZ.keys_gives (ρ := keysF_ren) { keysF with } Fence.wide n trivial rfl hn q qm 1 D0 w hq hm hown
theorem appS_one {g q qm ck : Nat} {w : World} {x : MapEntry} {s : List UInt8} (hk : KeysStr g) (eg : ∀ args w, (callFunc g args).run Tryz.prog w = .ok (.enter g args) w) (hx : x.key = .string ⟨s.toArray⟩) (hx3 : keyOf Tryz.prog 9 x.key = some (.string s)) (hlt : x.born < ck) (hm : w.cell? ⟨q, 0, none⟩ = some (.map (some qm))) (m1 : w.heap[qm]? = some (.map #[x] ck)) :
    Calls Tryz.prog 715 #[.slice none 0 0, .func (.func g) #[] #[.pointer (some ⟨q, 0, none⟩)]] w fun e w' => ∃ u, e = .returned u ∧ w'.ownsRow w.heap.size 9 1 u 1 [x.key] ∧ Below w.heap.size w w' := by
  refine (callsIn_wide (n := 6)).1 ?_
  have cS := AnyZ.appendSeq_in appS Fence.wide 6 trivial rfl (by omega) g #[.pointer (some ⟨q, 0, none⟩)] trivial eg _ _ (show 1 ≤ maxLen by decide) (show 1 * 16 ≤ 140737488355328 by decide) w (hk 5 q qm _ w (by omega) (cell_lt hm) hm (own_one m1 hx3 hlt))
  refine cS.mono ?_
  rintro e w' ⟨v, ss, rfl, hperm, hrow, hnil, hb⟩
  have hss : ss = [s] := by
    have h1 : strKeys (DataW.map [(Lit.string s, (.nil : DataW Unit))]) = [s] := rfl
    rw [h1] at hperm
    exact List.perm_singleton.1 hperm
  subst hss
  exact ⟨v, rfl, by rw [hx]; exact hrow, hb⟩
end Ev
end Go.Proofs.YtbkeeghkpkfeiaaGreatDoor
namespace Go.Proofs.YtbkeeghkpkfeiaaGreatDoor
set_option linter.unusedVariables false
set_option linter.unusedSimpArgs false
open Go.RowKit Go.Maps Go.Shelf
namespace Ev
shelf_lay LaysC.n172 Nm 172 at Tryz as atoiL
def idxB : List UInt8 := [105, 110, 100, 101, 120]
noncomputable def atoiP (xs : List AV) (h : H) : E := one1 xs .no fun x => x.str? .no fun s => bi (eqBytes s idxB) (.ok (.tuple [.int .i64 0, .iface 16777218 .undef]) h) .no
theorem atoi_calls (ev : Value) (w : World) (hv : w.cell? ⟨errB, 0, none⟩ = some ev) (hev : ev = .nilIface ∨ ∃ te pe, ev = .iface te pe) :
    Calls Tryz.prog 449 #[.string ⟨idxB.toArray⟩] w fun e w' => (∃ t N, e = .returned (.tuple #[.int .i64 0, .iface t (.pointer (some ⟨N, 0, none⟩))])) ∧ RowKit.Below w.heap.size w w' :=
  (Any.strconv_Atoi_syntax atoiL ⟨idxB.toArray⟩ (by decide) (by decide +kernel) ev w hv hev).mono fun e w' ⟨N, h1, _, _, h2⟩ => ⟨⟨_, N, h1⟩, h2⟩
theorem atoiP_ok : OneOk Tryz.prog 449 atoiP := by
  intro B W fit ι h w xs vs r h' rel hv e
  obtain ⟨x, rfl, e1⟩ := one1_ok (show one1 xs E.no _ = _ from e)
  obtain ⟨s, rfl, e2⟩ := str_ok e1
  obtain ⟨hs, e3⟩ := biE e2
  have hs : s = idxB := by rw [eqBytes_eq] at hs; exact of_decide_eq_true hs
  obtain ⟨e4, e5⟩ := okE e3
  subst hs e4 e5
  cases hv with
  | cons hx hnil =>
    cases hnil
    cases hx
    obtain ⟨ev, h1, h2⟩ := fit.now rel
    refine ⟨fun w0 => enters_of Tryz.func449 (by kernel_rfl) rfl _ w0, (atoi_calls ev w h1 h2).mono ?_⟩
    rintro e w' ⟨⟨t, N, rfl⟩, hb⟩
    obtain ⟨s1, s2⟩ := rel.later hb
    exact ⟨_, ι, rfl, s1, s2, .tuple _ [.int .i64 0, .iface t (.pointer (some ⟨N, 0, none⟩))] (.cons (.int _ _) (.cons (.any 0 _ rfl (fun _ h => by cases h)) .nil))⟩
end Ev
end Go.Proofs.YtbkeeghkpkfeiaaGreatDoor
namespace Go.Proofs.YtbkeeghkpkfeiaaGreatDoor
set_option linter.unusedVariables false
set_option linter.unusedSimpArgs false
open Go.RowKit Go.Maps
namespace Ev
noncomputable def cloneP (xs : List AV) (h : H) : E := one1 xs .no fun x => x.map? .no (.ok .nilm h) fun b => mapAt h b .no fun kt es ck => .ok (.map h.nx) (h.new (.map kt es ck))
theorem clone_ok {P : Program} {f : FuncId} (enter : ∀ vs w0, (callFunc f vs).run P w0 = .ok (.enter f vs) w0)
    (hc : ∀ (b : Nat) (es : Array MapEntry) (ck : Nat) (w : World), w.heap[b]? = some (.map es ck) → Calls P f #[.map (some b)] w fun e w' => e = .returned (.map (some w.heap.size)) ∧ w' = w.alloc (.map es ck))
    (hn : ∀ w : World, Calls P f #[.map none] w fun e w' => e = .returned (.map none) ∧ w' = w) : OneOk P f cloneP := by
  intro B W fit ι h w xs vs r h' rel hv e
  obtain ⟨x, rfl, e1⟩ := one1_ok (show one1 xs E.no _ = _ from e)
  cases hv with
  | cons hx hnil =>
    cases hnil
    rcases map_ok e1 with ⟨rfl, e2⟩ | ⟨b, rfl, e2⟩
    · obtain ⟨e3, e4⟩ := okE e2
      subst e3 e4
      cases hx
      refine ⟨fun w0 => enter _ w0, (hn w).mono ?_⟩
      rintro e w' ⟨rfl, rfl⟩
      exact ⟨_, ι, rfl, rel, Ext.refl _ _ _, .nilm⟩
    · obtain ⟨kt, es, ck, hb, e3⟩ := at_map e2
      obtain ⟨e4, e5⟩ := okE e3
      subst e4 e5
      obtain ⟨q, rfl, i1, i2⟩ := hx.map_inv
      have hq := i2 ⟨_, hb⟩
      obtain ⟨es', m1, m2⟩ := rel.ob b _ q hb hq
      refine ⟨fun w0 => enter _ w0, (hc q es' ck w m1).mono ?_⟩
      rintro e w' ⟨rfl, rfl⟩
      obtain ⟨s1, s2⟩ := rel.new (o := .map kt es ck) (wnew_alloc w (.map es' ck)) ⟨es', heap_new (wnew_alloc w _), m2⟩
      refine ⟨_, _, rfl, s1, s2, .map _ _ ?_ fun _ => upd_same _ _ _⟩
      show h.nx.num < (h.new _).nx.num
      rw [nx_new]; omega
end Ev
end Go.Proofs.YtbkeeghkpkfeiaaGreatDoor
namespace Go.Proofs.YtbkeeghkpkfeiaaGreatDoor
set_option linter.unusedVariables false
set_option linter.unusedSimpArgs false
open Go.RowKit Go.Maps Go.Shelf
namespace Ev
shelf_lay Lays.n105 Nm 105 at Tryz as repL
theorem repX : Builder.Extra Tryz.prog repL_ren where
  sizeBuilder := by kernel_rfl
  liesBuilder := by kernel_rfl
  t5 := repL.t5
  a5 := repL.a5
  z5 := repL.z5
  v5 := repL.v5
  infoByte := by kernel_rfl
  cellsByte := by kernel_rfl
  sizeByte := by kernel_rfl
  neB5 := by decide
noncomputable def repP (xs : List AV) (h : H) : E := two1 xs .no fun x y => x.str? .no fun s => y.int? .no fun k n => Int.cas n (fun n => bi (and' (eqK k .i64) (and' (Nat.ble n 1000000) (Nat.ble (s.length * n) 1000000))) (.ok (.str (Lib.repeatL s n)) h) .no) fun _ => .no
theorem rep_calls (s : List UInt8) (n : Nat) (w : World) (hn : n ≤ 1000000) (hs : s.length * n ≤ 1000000) :
    Calls Tryz.prog 116 #[.string ⟨s.toArray⟩, .int .i64 (.ofNat n)] w fun e w' => e = .returned (.string ⟨(Lib.repeatL s n).toArray⟩) ∧ RowKit.Below w.heap.size w w' := by
  have hz : (ByteArray.mk s.toArray).size = s.length := by simp [ByteArray.size]
  exact Any.strings_Repeat repL repX ⟨s.toArray⟩ n w (by omega) (by rw [hz]; omega)
theorem repP_ok : OneOk Tryz.prog 116 repP := by
  intro B W fit ι h w xs vs r h' rel hv e
  obtain ⟨x, y, rfl, e1⟩ := two1_ok (show two1 xs E.no _ = _ from e)
  obtain ⟨s, rfl, e2⟩ := str_ok e1
  obtain ⟨k, n, rfl, e3⟩ := int_ok e2
  cases n with
  | negSucc n => cases e3
  | ofNat n =>
    obtain ⟨hb, e4⟩ := biE (show bi (and' (eqK k .i64) (and' (Nat.ble n 1000000) (Nat.ble (s.length * n) 1000000))) _ E.no = _ from e3)
    obtain ⟨hk, hb⟩ := and'_eq hb
    obtain ⟨hn, hs⟩ := and'_eq hb
    have hk := eqK_eq hk
    have hn := Nat.le_of_ble_eq_true hn
    have hs := Nat.le_of_ble_eq_true hs
    obtain ⟨e5, e6⟩ := okE e4
    subst hk e5 e6
    cases hv with
    | cons hx hv =>
      cases hv with
      | cons hy hnil =>
        cases hnil
        rw [hx.str_inv, hy.int_inv]
        refine ⟨fun w0 => enters_of Tryz.func116 (by kernel_rfl) rfl _ w0, (rep_calls s n w hn hs).mono ?_⟩
        rintro e w' ⟨rfl, hb⟩
        obtain ⟨s1, s2⟩ := rel.later hb
        exact ⟨_, ι, rfl, s1, s2, .str _⟩
end Ev
end Go.Proofs.YtbkeeghkpkfeiaaGreatDoor
namespace Go.Proofs.YtbkeeghkpkfeiaaGreatDoor
set_option linter.unusedVariables false
set_option linter.unusedSimpArgs false
open Go.RowKit Go.Maps Go.Shelf
namespace Ev
shelf_lay LaysM.n316 Nm 316 at Tryz as clL
noncomputable def clP (xs : List AV) (h : H) : E := one1 xs .no fun x => x.str? .no fun s => bi (Nat.ble s.length 1000000) (.ok (.str s) h) .no
theorem clP_ok : OneOk Tryz.prog 322 clP := by
  intro B W fit ι h w xs vs r h' rel hv e
  obtain ⟨x, rfl, e1⟩ := one1_ok (show one1 xs E.no _ = _ from e)
  obtain ⟨s, rfl, e2⟩ := str_ok e1
  obtain ⟨hs, e3⟩ := biE e2
  have hs := Nat.le_of_ble_eq_true hs
  obtain ⟨e4, e5⟩ := okE e3
  subst e4 e5
  cases hv with
  | cons hx hnil =>
    cases hnil
    rw [hx.str_inv]
    have hl : (ByteArray.mk s.toArray).size = s.length := by simp [ByteArray.size]
    refine ⟨fun w0 => enters_of Tryz.func322 (by kernel_rfl) rfl _ w0, (Any.stringslite_Clone clL ⟨s.toArray⟩ w (by rw [hl]; omega)).mono ?_⟩
    rintro e w' ⟨rfl, hb⟩
    obtain ⟨s1, s2⟩ := rel.later hb
    exact ⟨_, ι, rfl, s1, s2, .str _⟩
end Ev
end Go.Proofs.YtbkeeghkpkfeiaaGreatDoor
