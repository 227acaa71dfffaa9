/- Shaken, of a peer that is there. Code up to a range over a map, by the run; and a world in which blocks that the run no longer knows were written. Status: what the loop counts. Status: behind the loop. -/
import Derived.Test.YtbkeeghkpkfeiaaGreatDoorBase
import Derived.Test.YtbkeeghkpkfeiaaGreatDoorNsD
import Derived.Maps.RangeRun
import Derived.Deep.MidRow
namespace Go.Proofs.YtbkeeghkpkfeiaaGreatDoor
set_option linter.unusedVariables false
set_option linter.unusedSimpArgs false
open Go.RowKit Go.Maps
namespace Ev
set_option maxHeartbeats 1000000 in
theorem shaken_calls (p : Nat) (v k : Bool) (w : World) (hv : w.cell? ⟨p, 246, none⟩ = some (.bool v)) (hk : w.cell? ⟨p, 247, none⟩ = some (.bool k)) :
    Calls Tryz.prog 34 #[.pointer (some ⟨p, 0, none⟩)] w fun e w' => e = .returned (.bool (v && k)) ∧ w = w' := by
  cases v <;> cases k
  all_goals
    go_enter Tryz.func34, Tryz.ntmps34
    go_wp2
    go_ret
    exact ⟨rfl, rfl⟩
end Ev
end Go.Proofs.YtbkeeghkpkfeiaaGreatDoor
namespace Go.Proofs.YtbkeeghkpkfeiaaGreatDoor
set_option linter.unusedVariables false
set_option linter.unusedSimpArgs false
open Go.RowKit Go.Maps
namespace Ev
def preC : Nat → Code → Code
  | 0, .seq (.seq r _) _ => r
  | n + 1, .seq a b => .seq a (preC n b)
  | _, _ => .skip
def blkC : Nat → Code → Code
  | 0, .seq (.seq _ b) _ => b
  | n + 1, .seq _ b => blkC n b
  | _, c => c
def tlC : Nat → Code → Code
  | 0, .seq (.seq _ _) t => t
  | n + 1, .seq _ b => tlC n b
  | _, c => c
def shpC : Nat → Code → Bool
  | 0, .seq (.seq _ _) _ => true
  | n + 1, .seq _ b => shpC n b
  | _, _ => false
section
variable {P : Program} {B : Nat} {W : World} {ι : Pos → Option Nat} {h h' : H} {w w' : World} {fr fr' : Fr} {a : Act} {r : AV} {nt N : Nat} {o : Oper} {c : Cx} {kk : K}
variable {inf : TypeId → Option TypeInfo} {und : TypeId → Option TypeDesc} {kf : TypeId → AV → Bool} {ext : FuncId → Option (List Opd → XOp)}
theorem pre_ok (E : Env P inf und kf) (X : ExtOk P ext) (KO : KOK P B W kk) (hmix : P.follows .mixedOrders = true) (hn : nt ≤ 1000000) {Qx : Exit → Act → World → Prop} : ∀ (n : Nat) (code : Code) {ι : Pos → Option Nat} {h : H} {w : World} {fr : Fr} {a : Act},
    shpC n code = true → FR nt (cx ι h w) fr a → Rel P B W ι h w → bc (cCode inf und kf ext N nt (preC n code)) kk fr h = .n fr' h' →
    (∀ ι1 a1 w1, FR nt (cx ι1 h' w1) fr' a1 → Rel P B W ι1 h' w1 → Ext ι h w ι1 h' w1 → (blkC n code).wp P (Exit.then ((tlC n code).wp P Qx) Qx) a1 w1) → code.wp P Qx a w
  | 0, .seq (.seq x b) t, ι, h, w, fr, a, hs, hf, rel, e, K => by
    refine wp_seq (wp_seq (code_ok (N := N) E X KO hmix hn x hf rel ?_))
    have e : bc (cCode inf und kf ext N nt x) kk fr h = .n fr' h' := e
    rw [e]
    exact fun ι1 a1 w1 f1 r1 x1 => K ι1 a1 w1 f1 r1 x1
  | n + 1, .seq x b, ι, h, w, fr, a, hs, hf, rel, e, K => by
    refine wp_seq (code_ok (N := N) E X KO hmix hn x hf rel ?_)
    have e : rr (bc (cCode inf und kf ext N nt x) kk fr h) (fun fr h => bc (cCode inf und kf ext N nt (preC n b)) kk fr h) (fun id fr h => .x id fr h) = .n fr' h' := e
    cases e1 : bc (cCode inf und kf ext N nt x) kk fr h with
    | no => rw [e1] at e; cases e
    | x id fr1 h1 => rw [e1] at e; cases e
    | r fr1 h1 => rw [e1] at e; cases e
    | n fr1 h1 =>
      rw [e1] at e
      exact fun ι1 a1 w1 f1 r1 x1 => pre_ok E X KO hmix hn n b hs f1 r1 e fun ι2 a2 w2 f2 r2 x2 => K ι2 a2 w2 f2 r2 (x1.trans rel x2)
  | 0, .skip, _, _, _, _, _, hs, _, _, _, _ => by cases hs
  | 0, .region .., _, _, _, _, _, hs, _, _, _, _ => by cases hs
  | 0, .cond .., _, _, _, _, _, hs, _, _, _, _ => by cases hs
  | 0, .block .., _, _, _, _, _, hs, _, _, _, _ => by cases hs
  | 0, .loop .., _, _, _, _, _, hs, _, _, _, _ => by cases hs
  | 0, .exit .., _, _, _, _, _, hs, _, _, _, _ => by cases hs
  | 0, .scope .., _, _, _, _, _, hs, _, _, _, _ => by cases hs
  | 0, .ret, _, _, _, _, _, hs, _, _, _, _ => by cases hs
  | 0, .label .., _, _, _, _, _, hs, _, _, _, _ => by cases hs
  | 0, .goto .., _, _, _, _, _, hs, _, _, _, _ => by cases hs
  | 0, .rangeFunc .., _, _, _, _, _, hs, _, _, _, _ => by cases hs
  | 0, .refuse .., _, _, _, _, _, hs, _, _, _, _ => by cases hs
  | 0, .seq .skip _, _, _, _, _, _, hs, _, _, _, _ => by cases hs
  | 0, .seq (.region ..) _, _, _, _, _, _, hs, _, _, _, _ => by cases hs
  | 0, .seq (.cond ..) _, _, _, _, _, _, hs, _, _, _, _ => by cases hs
  | 0, .seq (.block ..) _, _, _, _, _, _, hs, _, _, _, _ => by cases hs
  | 0, .seq (.loop ..) _, _, _, _, _, _, hs, _, _, _, _ => by cases hs
  | 0, .seq (.exit ..) _, _, _, _, _, _, hs, _, _, _, _ => by cases hs
  | 0, .seq (.scope ..) _, _, _, _, _, _, hs, _, _, _, _ => by cases hs
  | 0, .seq .ret _, _, _, _, _, _, hs, _, _, _, _ => by cases hs
  | 0, .seq (.label ..) _, _, _, _, _, _, hs, _, _, _, _ => by cases hs
  | 0, .seq (.goto ..) _, _, _, _, _, _, hs, _, _, _, _ => by cases hs
  | 0, .seq (.rangeFunc ..) _, _, _, _, _, _, hs, _, _, _, _ => by cases hs
  | 0, .seq (.refuse ..) _, _, _, _, _, _, hs, _, _, _, _ => by cases hs
  | n + 1, .skip, _, _, _, _, _, hs, _, _, _, _ => by cases hs
  | n + 1, .region .., _, _, _, _, _, hs, _, _, _, _ => by cases hs
  | n + 1, .cond .., _, _, _, _, _, hs, _, _, _, _ => by cases hs
  | n + 1, .block .., _, _, _, _, _, hs, _, _, _, _ => by cases hs
  | n + 1, .loop .., _, _, _, _, _, hs, _, _, _, _ => by cases hs
  | n + 1, .exit .., _, _, _, _, _, hs, _, _, _, _ => by cases hs
  | n + 1, .scope .., _, _, _, _, _, hs, _, _, _, _ => by cases hs
  | n + 1, .ret, _, _, _, _, _, hs, _, _, _, _ => by cases hs
  | n + 1, .label .., _, _, _, _, _, hs, _, _, _, _ => by cases hs
  | n + 1, .goto .., _, _, _, _, _, hs, _, _, _, _ => by cases hs
  | n + 1, .rangeFunc .., _, _, _, _, _, hs, _, _, _, _ => by cases hs
  | n + 1, .refuse .., _, _, _, _, _, hs, _, _, _, _ => by cases hs
theorem ObjR.le {d : Cx} {x : Nat} {ob : AObj} (hl : c.Le d) (hw : w'.heap[x]? = w.heap[x]?) (ho : ObjR P c w x ob) : ObjR P d w' x ob := by
  cases ob with
  | cells cs t fz =>
    obtain ⟨c', lo, hi, h1, h2, h3, h4, h5⟩ := ho
    exact ⟨c', lo, hi, hw.trans h1, h2, h3.mono hl, h4, h5⟩
  | map kt es k =>
    obtain ⟨es', h1, h2⟩ := ho
    exact ⟨es', hw.trans h1, h2.mono hl⟩
  | iter m s n l =>
    obtain ⟨m', h1, h2⟩ := ho
    exact ⟨m', hw.trans h1, h2.mono hl⟩
/-- Fewer blocks are known, and of the others some were written. -/
theorem Rel.off {h2 : H} (r : Rel P B W ι h w) (hsub : ∀ b o, h2.obj b = some o → h.obj b = some o) (hnx : h2.nx = h.nx) (hsz : w'.heap.size = w.heap.size) (hos : w'.os = w.os) (htape : w'.tape = w.tape) (hout : w'.output = w.output)
    (hch : ∀ x, x < w.heap.size → w'.heap[x]? = w.heap[x]? ∨ ((∃ b o, h.obj b = some o ∧ ι b = some x ∧ h2.obj b = none) ∧ bsz w' x = bsz w x)) :
    Rel P B W ι h2 w' ∧ Ext ι h w ι h2 w' := by
  have hbs : ∀ x, x < w.heap.size → bsz w' x = bsz w x := fun x hx => by
    rcases hch x hx with e | e
    · unfold bsz; rw [e]
    · exact e.2
  have hlive : ∀ b o x, h2.obj b = some o → ι b = some x → w'.heap[x]? = w.heap[x]? := fun b o x ho hx => by
    have h1 := hsub b o ho
    rcases hch x (r.ob b o x h1 hx).lt with e | ⟨⟨b', o', e1, e2, e3⟩, _⟩
    · exact e
    · rw [r.inj b b' o o' x h1 e1 hx e2] at ho
      rw [e3] at ho; cases ho
  have hle : (cx ι h w).Le (cx ι h2 w') := ⟨by show h.nx.num ≤ h2.nx.num; rw [hnx]; exact Nat.le_refl _, fun b _ ⟨o, ho⟩ => ⟨o, hsub b o ho⟩, fun b x _ _ hx => hx, fun b x _ ⟨o, ho⟩ hx => hbs x (r.ob b o x (hsub b o ho) hx).lt⟩
  have hx : Ext ι h w ι h2 w' := ⟨hle.nx, fun b o _ ho => ⟨⟨o, hsub b o ho⟩, rfl⟩, fun b o x _ ho hx => .inr ⟨b, o, hsub b o ho, hx⟩, by omega, hbs, fun x hx hn => by
    rcases hch x hx with e | ⟨⟨b, o, e1, e2, _⟩, _⟩
    · exact e
    · exact absurd e2 (hn b o e1), hos, htape, hout⟩
  refine ⟨⟨fun b o ho => by rw [hnx]; exact r.fresh b o (hsub b o ho), fun b o x ho hx' => (r.ob b o x (hsub b o ho) hx').le hle (hlive b o x ho hx'), fun b b' o o' x h1 h2' => r.inj b b' o o' x (hsub b o h1) (hsub b' o' h2'), fun b o x ho => r.base b o x (hsub b o ho), r.low, hx.out r⟩, hx⟩
end
end Ev
end Go.Proofs.YtbkeeghkpkfeiaaGreatDoor
namespace Go.Proofs.YtbkeeghkpkfeiaaGreatDoor
set_option linter.unusedVariables false
set_option linter.unusedSimpArgs false
open Go.RowKit Go.Maps Go.ChangeMaps Go.MapKept
namespace Ev
/-- A peer's entry: whether it is shaken. -/
def Ent (w : World) (xi xs : Nat) (fl : MapEntry → Bool) (e : MapEntry) : Prop := ∃ l p v k, e.val = .pointer (some ⟨l, 0, none⟩) ∧ w.cell? ⟨l, 0, none⟩ = some (.pointer (some ⟨p, 0, none⟩)) ∧ w.cell? ⟨p, 246, none⟩ = some (.bool v) ∧ w.cell? ⟨p, 247, none⟩ = some (.bool k) ∧
  fl e = (v && k) ∧ l ≠ xi ∧ l ≠ xs ∧ p ≠ xi ∧ p ≠ xs
def cntS (es : Array MapEntry) (fl : MapEntry → Bool) (seen : Array Nat) : Nat := (es.toList.filter fun e => seen.contains e.born && fl e).length
theorem cntS_none (es : Array MapEntry) (fl : MapEntry → Bool) : cntS es fl #[] = 0 := by
  unfold cntS
  rw [List.filter_eq_nil_iff.2]
  · rfl
  · intro x hx; simp
theorem cntS_le (es : Array MapEntry) (fl : MapEntry → Bool) (seen : Array Nat) : cntS es fl seen ≤ es.size := by
  have := List.length_filter_le (fun e : MapEntry => seen.contains e.born && fl e) es.toList
  simpa [cntS] using this
theorem cntS_all {es : Array MapEntry} {fl : MapEntry → Bool} {seen : Array Nat} (h : (leftOf es seen).size = 0) : cntS es fl seen = (es.toList.filter fl).length := by
  unfold cntS
  congr 1
  refine List.filter_congr fun x hx => ?_
  rw [all_seen es seen h x hx, Bool.true_and]
theorem cntS_push {es : Array MapEntry} {fl : MapEntry → Bool} {seen : Array Nat} {e : MapEntry} (hn : (es.toList.map (·.born)).Nodup) (he : e ∈ es.toList) (hs : seen.contains e.born = false) : cntS es fl (seen.push e.born) = cntS es fl seen + (if fl e = true then 1 else 0) := by
  have main : ∀ l : List MapEntry, (l.map (·.born)).Nodup → e ∈ l → (l.filter fun x => (seen.push e.born).contains x.born && fl x).length = (l.filter fun x => seen.contains x.born && fl x).length + (if fl e = true then 1 else 0) := by
    intro l
    induction l with
    | nil => intro _ h; cases h
    | cons x l ih =>
      intro hn he
      rw [List.map_cons, List.nodup_cons] at hn
      have hc : (seen.push e.born).contains x.born = (seen.contains x.born || x.born == e.born) := by rw [contains_push]
      rcases List.mem_cons.1 he with rfl | he
      · have hrest : ∀ y ∈ l, (seen.push e.born).contains y.born = seen.contains y.born := fun y hy => by
          rw [contains_push]
          have : (y.born == e.born) = false := by
            simp only [beq_eq_false_iff_ne, ne_eq]
            intro h
            exact hn.1 (h ▸ List.mem_map.2 ⟨y, hy, rfl⟩)
          rw [this, Bool.or_false]
        have h2 : (l.filter fun x => (seen.push e.born).contains x.born && fl x) = l.filter fun x => seen.contains x.born && fl x := List.filter_congr fun y hy => by rw [hrest y hy]
        simp only [List.filter_cons, hc, hs, beq_self_eq_true, Bool.false_or, Bool.true_and, h2, Bool.false_and]
        cases fl e <;> simp
      · have hne : (x.born == e.born) = false := by
          simp only [beq_eq_false_iff_ne, ne_eq]
          intro h
          exact hn.1 (h ▸ List.mem_map.2 ⟨e, he, rfl⟩)
        simp only [List.filter_cons, hc, hne, Bool.or_false]
        cases (seen.contains x.born && fl x) with
        | true => simp only [if_true, List.length_cons, ih hn.2 he]; omega
        | false => simp only [Bool.false_eq_true, if_false, ih hn.2 he]
  exact main _ hn he
structure Lp (w1 w : World) (xi xs qm ck : Nat) (es : Array MapEntry) (cs : Array Value) (t : TypeId) (f : Nat × Nat) (fl : MapEntry → Bool) (seen : Array Nat) : Prop where
  size : w.heap.size = w1.heap.size
  os : w.os = w1.os
  tape : w.tape = w1.tape
  output : w.output = w1.output
  it : w.heap[xi]? = some (.mapIter (some qm) ck seen ck)
  st : w.heap[xs]? = some (.cells (cs.setIfInBounds 67 (.int .i64 (cntS es fl seen))) t f)
  keep : ∀ x, x ≠ xi → x ≠ xs → w.heap[x]? = w1.heap[x]?
/-- The world behind a step. -/
structure Nx (w1 w : World) (xi xs qm ck : Nat) (cs : Array Value) (t : TypeId) (f : Nat × Nat) (n : Nat) (seen : Array Nat) : Prop where
  size : w.heap.size = w1.heap.size
  os : w.os = w1.os
  tape : w.tape = w1.tape
  output : w.output = w1.output
  it : w.heap[xi]? = some (.mapIter (some qm) ck seen ck)
  st : w.heap[xs]? = some (.cells (cs.setIfInBounds 67 (.int .i64 n)) t f)
  keep : ∀ x, x ≠ xi → x ≠ xs → w.heap[x]? = w1.heap[x]?
section
variable {w1 w w2 : World} {xi xs qm ck : Nat} {es : Array MapEntry} {cs : Array Value} {t : TypeId} {f : Nat × Nat} {fl : MapEntry → Bool} {seen : Array Nat}
theorem seen_of (h : w.heap[xi]? = some (.mapIter (some qm) ck seen ck)) : w.iterSeen xi = seen := by
  unfold World.iterSeen; rw [h]
theorem Lp.start (hit : w1.heap[xi]? = some (.mapIter (some qm) ck #[] ck)) (hst : w1.heap[xs]? = some (.cells cs t f)) (h67 : cs[67]? = some (.int .i64 0)) : Lp w1 w1 xi xs qm ck es cs t f fl #[] := by
  refine ⟨rfl, rfl, rfl, rfl, hit, ?_, fun _ _ _ => rfl⟩
  rw [cntS_none, hst]
  congr 2
  apply Array.ext_getElem?
  intro i
  rw [Array.getElem?_setIfInBounds]
  by_cases hi : 67 = i
  · subst hi
    rw [h67]
    have : 67 < cs.size := (Array.getElem?_eq_some_iff.1 h67).1
    simp [this]
  · rw [if_neg hi]
theorem Lp.next (L : Lp w1 w xi xs qm ck es cs t f fl seen) {e : MapEntry} (he : e ∈ (leftOf es seen).toList) (hal : w2 = w ∨ w2 = w.drew) (hne : xs ≠ xi) :
    Nx w1 (Go.ChangeMaps.setBlock w2 xi (.mapIter (some qm) ck (seen.push e.born) ck)) xi xs qm ck cs t f (cntS es fl seen) (seen.push e.born) := by
  have h2 : w2.heap = w.heap ∧ w2.os = w.os ∧ w2.tape = w.tape ∧ w2.output = w.output := by rcases hal with rfl | rfl <;> exact ⟨rfl, rfl, rfl, rfl⟩
  have hr : w2.heap[xi]? = some (.mapIter (some qm) ck seen ck) := by rw [h2.1]; exact L.it
  have hset := heap_set (o' := .mapIter (some qm) ck (seen.push e.born) ck) hr
  refine ⟨?_, h2.2.1.trans L.os, h2.2.2.1.trans L.tape, h2.2.2.2.trans L.output, hset.1, ?_, fun x h3 h4 => ?_⟩
  · simp [Go.ChangeMaps.setBlock, h2.1, L.size]
  · exact (hset.2 xs hne).trans (by rw [h2.1]; exact L.st)
  · exact (hset.2 x h3).trans (by rw [h2.1]; exact L.keep x h3 h4)
theorem Nx.same {e : MapEntry} (N : Nx w1 w xi xs qm ck cs t f (cntS es fl seen) (seen.push e.born)) (hn : (es.toList.map (·.born)).Nodup) (he : e ∈ (leftOf es seen).toList) (hf : fl e = false) : Lp w1 w xi xs qm ck es cs t f fl (seen.push e.born) := by
  refine ⟨N.size, N.os, N.tape, N.output, N.it, ?_, N.keep⟩
  rw [cntS_push hn (mem_left he).1 (mem_left he).2, hf]
  exact N.st
theorem Nx.more {e : MapEntry} (N : Nx w1 w xi xs qm ck cs t f (cntS es fl seen) (seen.push e.born)) (hn : (es.toList.map (·.born)).Nodup) (he : e ∈ (leftOf es seen).toList) (hf : fl e = true) (hne : xs ≠ xi) :
    Lp w1 (w.setCell ⟨xs, 67, none⟩ (.int .i64 ((cntS es fl seen : Int) + 1))) xi xs qm ck es cs t f fl (seen.push e.born) := by
  have hcell : ∀ x, (w.setCell ⟨xs, 67, none⟩ (.int .i64 ((cntS es fl seen : Int) + 1))).heap[x]? = if x = xs then some (.cells (cs.setIfInBounds 67 (.int .i64 ((cntS es fl seen : Int) + 1))) t f) else w.heap[x]? := fun x => by
    have h := N.st
    by_cases hx : x = xs
    · subst hx
      simp [World.setCell, Array.getElem?_modify, h, Array.setIfInBounds_setIfInBounds]
    · have : ¬ xs = x := fun h => hx h.symm
      simp [World.setCell, Array.getElem?_modify, this, hx]
  refine ⟨by simpa [World.setCell] using N.size, N.os, N.tape, N.output, ?_, ?_, fun x h3 h4 => ?_⟩
  · rw [hcell, if_neg (fun h => hne h.symm)]; exact N.it
  · rw [hcell, if_pos rfl, cntS_push hn (mem_left he).1 (mem_left he).2, hf]
    rfl
  · rw [hcell, if_neg h4]; exact N.keep x h3 h4
end
end Ev
end Go.Proofs.YtbkeeghkpkfeiaaGreatDoor
namespace Go.Proofs.YtbkeeghkpkfeiaaGreatDoor
set_option linter.unusedVariables false
set_option linter.unusedSimpArgs false
open Go.RowKit Go.Maps
namespace Ev
section
variable {P : Program} {w w' w2 : World} {a : Act} {o : Oper} {ops : Array Oper} {Qx : Exit → Act → World → Prop} {u : Value} {l : List Oper}
theorem list_val (hg : o.guard = none) (h : (execOp a.eval o).run P w = .ok (.value u) w') (K : wpList P ops Qx l (a.put o.dst u) w') : wpList P ops Qx (o :: l) a w := by
  unfold wpList
  have hw : Region.wanted o (yielded ops a.tmps) = true := by unfold Region.wanted; rw [hg]
  rw [if_pos hw]
  left
  unfold Oper.wp
  rw [h, Oper.upon_value]
  exact K
theorem list_skip (hg : o.guard = none) (h : (execOp a.eval o).run P w = .ok .skip w') (K : wpList P ops Qx l (a.put o.dst undef) w') : wpList P ops Qx (o :: l) a w := by
  unfold wpList
  have hw : Region.wanted o (yielded ops a.tmps) = true := by unfold Region.wanted; rw [hg]
  rw [if_pos hw]
  left
  unfold Oper.wp
  rw [h, Oper.upon_skip]
  exact K
end
noncomputable def stCode : Code := match Tryz.f15.body with | some c => c | none => .skip
theorem info_st : (Tryz.prog.info? 60).map (·.size) = some 74 := by kernel_rfl
theorem und_st0 : (Tryz.prog.underlying 60).map (·.isRow) = some true := by kernel_rfl
theorem und_st : ∃ d, Tryz.prog.underlying 60 = some d ∧ d.isRow = true := by
  have h := und_st0
  cases e : Tryz.prog.underlying 60 with
  | none => rw [e] at h; cases h
  | some d => rw [e] at h; exact ⟨d, rfl, Option.some.inj h⟩
theorem size_st (w : World) : (sizeOf 60).run Tryz.prog w = .ok 74 w := by kernel_rfl
theorem tail_ok {Qx : Exit → Act → World → Prop} {xs x2 : Nat} {c c2 : Array Value} {t t2 : TypeId} {f f2 : Nat × Nat} {a : Act} {w : World}
    (hz : a.tmps.size = 96) (hd : a.defers = []) (h2 : a.tmps.getD 2 undef = .pointer (some ⟨x2, 0, none⟩)) (h5 : a.tmps.getD 5 undef = .pointer (some ⟨xs, 0, none⟩))
    (hs : w.heap[xs]? = some (.cells c t f)) (hc : 74 ≤ c.size) (hs2 : w.heap[x2]? = some (.cells c2 t2 f2)) (hc2 : 74 ≤ c2.size) (hf2 : ∀ j, j < 74 → ¬ (f2.1 ≤ j ∧ j < f2.2)) (h1 : ∀ v ∈ c.toList.take 74, v.oneCell' = true)
    (K : ∀ a', a'.defers = [] → a'.tmps.getD 2 undef = .pointer (some ⟨x2, 0, none⟩) → Qx .ret a' (w.setCells x2 0 (c.toList.take 74))) :
    (tlC 10 stCode).wp Tryz.prog Qx a w := by
  show (Code.seq (Code.region _ #[_, _] false) Code.ret).wp Tryz.prog Qx a w
  have hlen : (c.toList.take 74).length = 74 := by simp; omega
  obtain ⟨d, hu, hr⟩ := und_st
  have hld : (Instr.loadAt 60 (.pointer (some ⟨xs, 0, none⟩))).run Tryz.prog w = .ok (.agg (c.toList.take 74).toArray) w :=
    run_loadAt_mid w xs 0 _ _ d (by simpa using range_of_block hs 0 74 (by omega)) hu hr (by rw [hlen]; exact info_st)
  have hst : (Instr.storeAt 60 (.pointer (some ⟨x2, 0, none⟩)) (.agg (c.toList.take 74).toArray)).run Tryz.prog w = .ok () (w.setCells x2 0 (c.toList.take 74)) := by
    have hst := run_storeCells_cells (P := Tryz.prog) x2 0 (c.toList.take 74) 0 w (fun j hj => by
      simp only [World.cell?, hs2]
      simp at hj ⊢
      omega) (fun j hj => by
      simp only [World.frozen?, hs2]
      rw [hlen] at hj
      have := hf2 j hj
      simpa using this) h1
    have hcs : (Value.agg (c.toList.take 74).toArray).cells = (c.toList.take 74).toArray := rfl
    simp only [Instr.storeAt, Instr.sureAddr, Sem.run_bind, Sem.run_pure, Result.andThen_ok, storeVar, size_st, hcs, List.size_toArray, hlen, ne_eq, not_true, if_false]
    exact hst
  refine wp_seq (wp_region_list ?_)
  refine list_val (u := .agg (c.toList.take 74).toArray) (w' := w) rfl ?_ ?_
  · show (do let v ← Instr.loadAt 60 (a.tmps.getD 5 undef); pure (.value v) : Sem Next).run Tryz.prog w = _
    rw [h5]
    simp only [Sem.run_bind, hld, Result.andThen_ok, Sem.run_pure]
  have p2 : (a.put (some 95) (.agg (c.toList.take 74).toArray)).tmps.getD 2 undef = .pointer (some ⟨x2, 0, none⟩) := (put_at.2 (by decide)).trans h2
  have p95 : (a.put (some 95) (.agg (c.toList.take 74).toArray)).tmps.getD 95 undef = .agg (c.toList.take 74).toArray := put_at.1 rfl (by omega)
  refine list_skip (w' := w.setCells x2 0 (c.toList.take 74)) rfl ?_ ?_
  · show (do Instr.storeAt 60 ((a.put (some 95) (.agg (c.toList.take 74).toArray)).tmps.getD 2 undef) ((a.put (some 95) (.agg (c.toList.take 74).toArray)).tmps.getD 95 undef); pure .skip : Sem Next).run Tryz.prog w = _
    rw [p2, p95]
    simp only [Sem.run_bind, hst, Result.andThen_ok, Sem.run_pure]
  · exact wp_ret (K _ hd p2)
end Ev
end Go.Proofs.YtbkeeghkpkfeiaaGreatDoor
