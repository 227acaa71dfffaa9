/- Steps of a range over a map. -/
import Derived.Test.YtfpghnldcbhniaaGreatEvL
namespace Go.Proofs.YtfpghnldcbhniaaGreat
set_option linter.unusedVariables false
set_option linter.unusedSimpArgs false
open Go.RowKit Go.Maps
namespace Ev

section
variable {P : Program} {B : Nat} {W : World} {ι : Pos → Option Nat} {h h' : H} {w w' : World} {fr : Fr} {x y z : Opd} {a : AV} {vx vy vz : Value} {r : AV} {kt : TypeId} {c : Cx}
theorem mem_eq (n : Nat) : ∀ l : List Nat, mem n l = l.contains n
  | [] => rfl
  | a :: l => by
    show bi (Nat.beq a n) true (mem n l) = _
    rw [mem_eq n l, List.contains_cons]
    by_cases e : a = n
    · subst e; simp [bi]
    · have h1 : Nat.beq a n = false := by rw [Bool.eq_false_iff]; exact fun h => e (Nat.eq_of_beq_eq_true h)
      have h2 : (n == a) = false := by simp; exact fun h => e h.symm
      rw [h1, h2]
      simp [bi]
theorem ML.left (seen : List Nat) : ∀ {es : List (AV × AV × Nat)} {fs : List MapEntry}, ML P kt c es fs → ML P kt c (mleft seen es) (fs.filter fun e => !seen.contains e.born)
  | _, _, .nil => .nil
  | _, _, .cons (k := k) (v := v) (n := n) (e := e) (es := es) (fs := fs) h1 h2 h3 h4 h5 h6 h7 => by
    have ih := ML.left seen h7
    show ML P kt c (bi (mem n seen) (mleft seen es) ((k, v, n) :: mleft seen es)) _
    rw [mem_eq, List.filter_cons, h5]
    cases hb : seen.contains n with
    | true => simpa [bi] using ih
    | false =>
      simp only [bi, Bool.not_false, if_true]
      exact .cons h1 h2 h3 h4 h5 (fun f hf => h6 f (List.mem_filter.1 hf).1) ih
theorem ML.born (n : Nat) : ∀ {es : List (AV × AV × Nat)} {fs : List MapEntry} {kv : AV × AV}, ML P kt c es fs → mborn n es = some kv → ∃ e, fs.find? (·.born == n) = some e ∧ V c kv.1 e.key ∧ V c kv.2 e.val
  | _, _, _, .nil, e => by cases e
  | _, _, kv, .cons (k := k) (v := v) (n := m) (e := e') (es := es) (fs := fs) h1 h2 h3 h4 h5 h6 h7, e => by
    have e : bi (Nat.beq m n) (some (k, v)) (mborn n es) = some kv := e
    rw [List.find?_cons, h5]
    by_cases hm : m = n
    · subst hm
      have : Nat.beq m m = true := by simp
      rw [this] at e
      simp only [bi, Option.some.injEq] at e
      subst e
      simp
      exact ⟨h1, h4⟩
    · have h8 : Nat.beq m n = false := by rw [Bool.eq_false_iff]; exact fun h => hm (Nat.eq_of_beq_eq_true h)
      rw [h8] at e
      have h9 : (m == n) = false := by simpa using hm
      rw [h9]
      exact ML.born n h7 (by simpa [bi] using e)
theorem still_ok {seen : List Nat} {last : Nat} {es : List (AV × AV × Nat)} {fs : List MapEntry} (hm : ML P kt c es fs) (e : stillOk seen last es = true) :
    (!seen.isEmpty && !fs.isEmpty && fs.all (fun e => decide (e.born ≥ last))) = false := by
  cases seen with
  | nil => rfl
  | cons s seen =>
    cases hm with
    | nil => rfl
    | cons h1 h2 h3 h4 h5 h6 h7 =>
      rename_i k v n e0 es fs
      have e : List.rec (motive := fun _ => Bool) false (fun e _ r => bi (Nat.blt e.2.2 last) true r) ((k, v, n) :: es) = true := e
      have gen : ∀ {es : List (AV × AV × Nat)} {fs : List MapEntry}, ML P kt c es fs → List.rec (motive := fun _ => Bool) false (fun (e : AV × AV × Nat) _ r => bi (Nat.blt e.2.2 last) true r) es = true → fs.all (fun e => decide (e.born ≥ last)) = false := by
        intro es fs hm
        induction hm with
        | nil => intro e; cases e
        | cons h1 h2 h3 h4 h5 h6 h7 ih =>
          intro e
          rename_i k v n e0 es fs
          have e : bi (Nat.blt n last) true (List.rec (motive := fun _ => Bool) false (fun (e : AV × AV × Nat) _ r => bi (Nat.blt e.2.2 last) true r) es) = true := e
          rw [List.all_cons, h5]
          cases hb : Nat.blt n last with
          | true =>
            rw [blt_eq] at hb
            have := of_decide_eq_true hb
            have : ¬ (n ≥ last) := by omega
            simp [this]
          | false =>
            rw [hb] at e
            rw [ih e, Bool.and_false]
      have := gen (ML.cons h1 h2 h3 h4 h5 h6 h7) e
      simp [this]
theorem it_at {p : Pos} {f : Option Pos → Nat → List Nat → Nat → E} (e : ob (h.obj p) E.no (fun it => it.iter? .no f) = .ok r h') : ∃ m s n l, h.obj p = some (.iter m s n l) ∧ f m s n l = .ok r h' := by
  obtain ⟨o, ho, e⟩ := obE e
  cases o with
  | cells => cases e
  | map => cases e
  | iter m s n l => exact ⟨m, s, n, l, ho, e⟩
theorem ML.nilOf {fs : List MapEntry} (h : ML P kt c [] fs) : fs = [] := by cases h; rfl
theorem e_nxt {ty : TypeId} (rel : Rel P B W ι h w) (hx : V (cx ι h w) (x fr) vx) (e : xNxt x fr h = .ok r h') :
    ∃ ι' w' u, (Instr.next vx false ty).run P w = .ok u w' ∧ Rel P B W ι' h' w' ∧ Ext ι h w ι' h' w' ∧ V (cx ι' h' w') r u := by
  obtain ⟨p, o, ex, e⟩ := ptr_ok (show (x fr).ptr? E.no _ = _ from e)
  obtain ⟨g0, e⟩ := biE e
  have g0 := Nat.eq_of_beq_eq_true g0
  subst g0
  obtain ⟨m, since, seen, last, hp, e⟩ := it_at e
  rw [ex] at hx
  obtain ⟨q, o', rfl, j1, j2⟩ := hx.ptr_inv
  obtain ⟨hq, ho'⟩ := j2 ⟨_, hp⟩
  subst ho'
  obtain ⟨m', k1, k2⟩ := rel.ob p _ q hp hq
  have hget : (getObj q).run P w = .ok (.mapIter m' since seen.toArray last) w := by simp [getObj, Sem.run, k1]
  cases m with
  | none =>
    obtain ⟨e2, e3⟩ := okE e
    subst e2 e3
    cases k2
    refine ⟨ι, w, .tuple #[.bool false], ?_, rel, Ext.refl _ _ _, .tuple _ [.bool false] (.cons (.bool _) .nil)⟩
    simp only [Instr.next, Sem.run_bind, hget, Result.andThen_ok, Sem.run_pure]
  | some b =>
    obtain ⟨t', es, n, hb, e⟩ := at_map (show mapAt h b .no _ = _ from e)
    obtain ⟨g1, e⟩ := biE e
    obtain ⟨qm, hm', i1, i2⟩ := V.map_inv k2
    cases hm'
    have hqm := i2 ⟨_, hb⟩
    obtain ⟨es', m1, m2⟩ := rel.ob b _ qm hb hqm
    have hget2 : (getObj qm).run P w = .ok (.map es' n) w := by simp [getObj, Sem.run, m1]
    have hst := still_ok m2 g1
    have hst' : (!seen.toArray.isEmpty && !es'.isEmpty && es'.all (fun e => decide (e.born ≥ last))) = false := by
      rw [← hst]; simp
    have hleft := m2.left seen
    have hl' : (es'.filter fun e => !seen.toArray.contains e.born).toList = es'.toList.filter fun e => !seen.contains e.born := by
      simp
    cases hml : mleft seen es with
    | nil =>
      rw [hml] at hleft
      have hnil := hleft.nilOf
      rw [← hl'] at hnil
      have hnil : (es'.filter fun e => !seen.toArray.contains e.born) = #[] := by simpa using hnil
      have e : nxtE h p b since seen es n = .ok r h' := e
      unfold nxtE at e
      rw [hml] at e
      obtain ⟨e2, e3⟩ := okE e
      subst e2 e3
      refine ⟨ι, w, .tuple #[.bool false], ?_, rel, Ext.refl _ _ _, .tuple _ [.bool false] (.cons (.bool _) .nil)⟩
      simp only [Instr.next, Sem.run_bind, hget, hget2, Result.andThen_ok, Sem.run_pure, hst', hnil]
      simp [choose, Sem.run, Question.forced]
    | cons e1 l =>
      have e : nxtE h p b since seen es n = .ok r h' := e
      unfold nxtE at e
      rw [hml] at e
      cases l with
      | cons _ _ => cases e
      | nil =>
        obtain ⟨ka, va, na⟩ := e1
        obtain ⟨g2, e⟩ := biE (show bi _ _ _ = _ from e)
        obtain ⟨e2, e3⟩ := okE e
        subst e2 e3
        rw [hml, ← hl'] at hleft
        generalize hf : (es'.filter fun e => !seen.toArray.contains e.born) = left at hleft
        have hleft : ∃ e0, left = #[e0] ∧ V (cx ι h w) ka e0.key ∧ V (cx ι h w) va e0.val ∧ e0.born = na := by
          obtain ⟨L⟩ := left
          cases hleft with
          | cons h1 h2 h3 h4 h5 h6 h7 => cases h7; exact ⟨_, rfl, h1, h4, h5⟩
        obtain ⟨e0, rfl, v1, v2, rfl⟩ := hleft
        rw [blt_eq] at g2
        have g2 : e0.born < since := of_decide_eq_true g2
        have hset : (setObj q (.mapIter (some qm) since (seen.toArray.push e0.born) n)).run P w = .ok () { w with heap := w.heap.setIfInBounds q (.mapIter (some qm) since (seen.toArray.push e0.born) n) } := by simp [setObj, Sem.run, k1]
        have hbs : bsz { w with heap := w.heap.setIfInBounds q (.mapIter (some qm) since (seen.toArray.push e0.born) n) } q = bsz w q := by
          unfold bsz
          rw [heap_setObj k1, k1]
        obtain ⟨s1, s2⟩ := rel.put (o := .iter (some b) since (seen ++ [e0.born]) n) hp hq (wup_setObj w q _) hbs ⟨some qm, by rw [heap_setObj k1]; simp, k2⟩
        refine ⟨ι, _, .tuple #[.bool true, e0.key, e0.val], ?_, s1, s2, ?_⟩
        · simp only [Instr.next, Sem.run_bind, hget, hget2, Result.andThen_ok, Sem.run_pure, hst', hf]
          have hset' := hset
          rw [show seen.toArray.push e0.born = (seen ++ [e0.born]).toArray by simp] at hset'
          simp [choose, Sem.run, Question.forced, g2, hset']
        · exact .tuple _ [.bool true, e0.key, e0.val] (.cons (.bool _) (.cons (v1.mono (s2.le rel)) (.cons (v2.mono (s2.le rel)) .nil)))
theorem r_entry (rel : Rel P B W ι h w) (hx : V (cx ι h w) (x fr) vx) (e : xEntry x fr h = .ok r h') :
    h' = h ∧ ∃ u, V (cx ι h w) r u ∧ (Instr.entry vx).run P w = .ok u w := by
  obtain ⟨p, o, ex, e⟩ := ptr_ok (show (x fr).ptr? E.no _ = _ from e)
  obtain ⟨g0, e⟩ := biE e
  have g0 := Nat.eq_of_beq_eq_true g0
  subst g0
  obtain ⟨m, since, seen, last, hp, e⟩ := it_at e
  obtain ⟨b, hm, e'⟩ := obE e
  clear e
  subst hm
  obtain ⟨n, hn, e⟩ := obE e'
  clear e'
  obtain ⟨t', es, k, hb, e⟩ := at_map e
  obtain ⟨g1, ee⟩ := biE e
  clear e
  have g1 := Nat.eq_of_beq_eq_true g1
  subst g1
  obtain ⟨kv, hkv, e⟩ := obE ee
  obtain ⟨e2, e3⟩ := okE e
  subst e2
  rw [ex] at hx
  obtain ⟨q, o', rfl, j1, j2⟩ := hx.ptr_inv
  obtain ⟨hq, ho'⟩ := j2 ⟨_, hp⟩
  subst ho'
  obtain ⟨m', k1, k2⟩ := rel.ob p _ q hp hq
  obtain ⟨qm, hm', i1, i2⟩ := V.map_inv k2
  cases hm'
  have hqm := i2 ⟨_, hb⟩
  obtain ⟨es', m1, m2⟩ := rel.ob b _ qm hb hqm
  have hget : (getObj q).run P w = .ok (.mapIter (some qm) since seen.toArray k) w := by simp [getObj, Sem.run, k1]
  have hget2 : (getObj qm).run P w = .ok (.map es' k) w := by simp [getObj, Sem.run, m1]
  obtain ⟨e0, f1, f2, f3⟩ := m2.born n hkv
  have hfind : es'.find? (·.born == n) = some e0 := by rw [← Array.find?_toList]; exact f1
  have hback : seen.toArray.back? = some n := by rw [List.back?_toArray]; exact hn
  refine ⟨e3.symm, .tuple #[e0.key, e0.val], .tuple _ [e0.key, e0.val] (.cons f2 (.cons f3 .nil)), ?_⟩
  simp only [Instr.entry, Sem.run_bind, hget, hget2, Result.andThen_ok, Sem.run_pure, hback, hfind]
  simp
end
end Ev
end Go.Proofs.YtfpghnldcbhniaaGreat
