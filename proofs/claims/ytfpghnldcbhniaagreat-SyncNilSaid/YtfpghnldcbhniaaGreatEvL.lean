/- Maps. -/
import Derived.Test.YtfpghnldcbhniaaGreatEvK
namespace Go.Proofs.YtfpghnldcbhniaaGreat
set_option linter.unusedVariables false
set_option linter.unusedSimpArgs false
open Go.RowKit Go.Maps
namespace Ev

section
variable {P : Program} {B : Nat} {W : World} {ι : Pos → Option Nat} {h h' : H} {w w' : World} {fr : Fr} {x y z : Opd} {a : AV} {vx vy vz : Value} {r : AV} {kf : TypeId → AV → Bool} {kt : TypeId} {c : Cx}
def ZeroV (P : Program) (q : TypeId) (z : AV) : Prop := ∃ v : Value, (∀ w, (zeroValue q).run P w = .ok v w) ∧ ∀ c : Cx, V c z v
def AV.isAgg : AV → Bool
  | .agg _ => true
  | _ => false
theorem conc_flat {a : AV} (h : a.isAgg = false) : conc a = concS a := by cases a <;> first | rfl | cases h
theorem eqAV_flat {a b : AV} (h : a.isAgg = false) : eqAV a b = eqCell a b := by cases a <;> first | rfl | cases h
theorem eqAV_conc {a b : AV} {u v : Value} {q : Bool} (ha : conc a = some u) (hb : conc b = some v) (e : eqAV a b = some q) : q = true ↔ u = v := by
  cases h1 : a.isAgg with
  | false =>
    rw [conc_flat h1] at ha
    rw [eqAV_flat h1] at e
    cases h2 : b.isAgg with
    | false =>
      rw [conc_flat h2] at hb
      exact eqCell_conc ha hb e
    | true =>
      cases b <;> first | (cases h2; done) | skip
      cases a <;> cases e
  | true =>
    cases a <;> first | (cases h1; done) | skip
    rename_i x
    cases b with
    | agg y =>
      simp only [conc] at ha hb
      split at ha
      · rename_i us hus
        split at hb
        · rename_i vs hvs
          cases ha
          cases hb
          rw [eqCells_conc hus hvs e]
          simp
        · cases hb
      · cases ha
    | _ => cases e
theorem ML.keys {es : List (AV × AV × Nat)} {fs : List MapEntry} (m : ML P kt c es fs) : ∀ f ∈ fs, ∃ l, keyOf P kt f.key = some l := by
  induction m with
  | nil => intro f hf; cases hf
  | cons h1 h2 h3 h4 h5 h6 h7 ih =>
    intro f hf
    rcases List.mem_cons.1 hf with rfl | hf
    · exact h2
    · exact ih f hf
theorem ML.uniq {es : List (AV × AV × Nat)} {fs : List MapEntry} (m : ML P kt c es fs) : ∀ (i j : Nat) (e f : MapEntry), fs[i]? = some e → fs[j]? = some f → e.key = f.key → i = j := by
  induction m with
  | nil => intro i j e f hi; cases hi
  | cons h1 h2 h3 h4 h5 h6 h7 ih =>
    intro i j e f hi hj hk
    cases i with
    | zero =>
      cases j with
      | zero => rfl
      | succ j =>
        cases hi
        exact absurd hk.symm (h6 f (List.mem_of_getElem? hj))
    | succ i =>
      cases j with
      | zero =>
        cases hj
        exact absurd hk (h6 e (List.mem_of_getElem? hi))
      | succ j => rw [ih i j e f hi hj hk]
theorem mfind_ok {k : AV} {kv : Value} (hk : conc k = some kv) {es : List (AV × AV × Nat)} {fs : List MapEntry} (m : ML P kt c es fs) : ∀ {res : Option AV}, mfind k es = some res →
    (res = none ∧ ∀ e ∈ fs, e.key ≠ kv) ∨ ∃ (v : AV) (j : Nat) (e : MapEntry), res = some v ∧ fs[j]? = some e ∧ e.key = kv ∧ V c v e.val := by
  induction m with
  | nil => intro res e; cases e; exact .inl ⟨rfl, fun _ h => by cases h⟩
  | cons h1 h2 h3 h4 h5 h6 h7 ih =>
    rename_i k0 v0 n e0 es fs
    intro res e
    obtain ⟨b, e1, e⟩ := ob_some (by simp) (show ob (eqAV k0 k) none (fun b => bi b (some (some v0)) (mfind k es)) = some res from e)
    obtain ⟨u0, hu0⟩ := h3
    have hk0 := conc_V h1 hu0
    have hb := eqAV_conc hu0 hk e1
    cases b with
    | true =>
      cases e
      exact .inr ⟨v0, 0, e0, rfl, rfl, by rw [hk0]; exact hb.1 rfl, h4⟩
    | false =>
      have hne : e0.key ≠ kv := fun he => by
        have := hb.2 (by rw [← hk0]; exact he)
        cases this
      rcases ih e with ⟨rfl, hall⟩ | ⟨v, j, e', rfl, hj, hk', hv⟩
      · exact .inl ⟨rfl, fun f hf => by
          rcases List.mem_cons.1 hf with rfl | hf
          · exact hne
          · exact hall f hf⟩
      · exact .inr ⟨v, j + 1, e', rfl, hj, hk', hv⟩
theorem lookE_ok {ok b : Bool} {v : AV} {vv : Value} (hv : V c v vv) (e : lookE ok v b h = .ok r h') : h' = h ∧ V c r (if ok then .tuple #[vv, .bool b] else vv) := by
  cases ok
  · obtain ⟨e1, e2⟩ := okE e
    subst e1
    exact ⟨e2.symm, hv⟩
  · obtain ⟨e1, e2⟩ := okE e
    subst e1
    exact ⟨e2.symm, .tuple _ _ (.cons hv (.cons (.bool b) .nil))⟩
theorem r_look {t q : TypeId} {zv : AV} {ok : Bool} (K : KeyOK P kf) (rel : Rel P B W ι h w) (hu : P.underlying t = some (.map kt q)) (hz : ZeroV P q zv) (hx : V (cx ι h w) (x fr) vx) (hy : V (cx ι h w) (y fr) vy) (e : xLook kt (kf kt) zv ok x y fr h = .ok r h') :
    h' = h ∧ ∃ u, V (cx ι h w) r u ∧ (Instr.lookup t vx vy ok).run P w = .ok u w := by
  obtain ⟨g1, e⟩ := biE (show bi _ _ _ = _ from e)
  obtain ⟨KT, kv, l, c1, k1⟩ := K kt _ g1
  have hvy := conc_V hy c1
  subst hvy
  obtain ⟨zc, z1, z2⟩ := hz
  rcases map_ok e with ⟨ex, e⟩ | ⟨b, ex, e⟩
  · rw [ex] at hx
    cases hx
    obtain ⟨e1, e2⟩ := lookE_ok (z2 (cx ι h w)) e
    refine ⟨e1, _, e2, ?_⟩
    have hck := KT.keyed.check w true k1
    rcases KT.keyed.find w k1 [] (fun _ h => by cases h) with ⟨hf, _⟩ | ⟨j, e', _, hj, _⟩
    · simp only [Instr.lookup, Sem.run_bind, run_underlying hu, Result.andThen_ok, Sem.run_pure, Array.isEmpty_empty, hck, hf, z1]
    · cases hj
  · obtain ⟨t', es, n, hb, e⟩ := at_map e
    obtain ⟨g2, ee⟩ := biE e
    clear e
    have g2 := Nat.eq_of_beq_eq_true g2
    subst g2
    obtain ⟨res, e1, e⟩ := obE ee
    rw [ex] at hx
    obtain ⟨p, rfl, j1, j2⟩ := hx.map_inv
    obtain ⟨es', m1, m2⟩ := rel.ob b _ p hb (j2 ⟨_, hb⟩)
    have hck := KT.keyed.check w es'.isEmpty k1
    have hget : (getObj p).run P w = .ok (.map es' n) w := by simp [getObj, Sem.run, m1]
    rcases mfind_ok c1 m2 e1 with ⟨rfl, hall⟩ | ⟨v, j, e0, rfl, hj, hk0, hv⟩
    · obtain ⟨e2, e3⟩ := lookE_ok (z2 (cx ι h w)) e
      refine ⟨e2, _, e3, ?_⟩
      rcases KT.keyed.find w k1 es'.toList m2.keys with ⟨hf, _⟩ | ⟨i, e', _, hi, hki⟩
      · simp only [Instr.lookup, Sem.run_bind, run_underlying hu, Result.andThen_ok, hget, Sem.run_pure, hck, hf, z1]
      · exact absurd hki (hall e' (List.mem_of_getElem? hi))
    · obtain ⟨e2, e3⟩ := lookE_ok hv e
      refine ⟨e2, _, e3, ?_⟩
      rcases KT.keyed.find w k1 es'.toList m2.keys with ⟨_, hall⟩ | ⟨i, e', hf, hi, hki⟩
      · exact absurd hk0 (hall e0 (List.mem_of_getElem? hj))
      · have hij := m2.uniq i j e' e0 hi hj (hki.trans hk0.symm)
        subst hij
        rw [hi] at hj
        cases hj
        simp only [Instr.lookup, Sem.run_bind, run_underlying hu, Result.andThen_ok, hget, Sem.run_pure, hck, hf]
theorem wup_setObj (w : World) (p : Nat) (o : Obj) : WUp w { w with heap := w.heap.setIfInBounds p o } p :=
  ⟨rfl, rfl, rfl, by simp, fun y hy => by simp [Array.getElem?_setIfInBounds, Ne.symm hy]⟩
theorem run_setObj {p : Nat} {es : Array MapEntry} {n : Nat} (o : Obj) (hp : w.heap[p]? = some (.map es n)) : (setObj p o).run P w = .ok () { w with heap := w.heap.setIfInBounds p o } := by
  simp [setObj, Sem.run, hp]
theorem heap_setObj {p : Nat} {o o0 : Obj} (hp : w.heap[p]? = some o0) : ({ w with heap := w.heap.setIfInBounds p o } : World).heap[p]? = some o := by
  have := (Array.getElem?_eq_some_iff.1 hp).1
  simp [Array.getElem?_setIfInBounds, this]
theorem mput_ok {k v : AV} {kv u : Value} {n : Nat} (hk : conc k = some kv) (hvk : V c k kv) (hl : ∃ l, keyOf P kt kv = some l) (hv : V c v u) {es : List (AV × AV × Nat)} {fs : List MapEntry} (m : ML P kt c es fs) : ∀ {es' : List (AV × AV × Nat)} {fl : Bool}, mput k v n es = some (es', fl) →
    (fl = true ∧ (∀ e ∈ fs, e.key ≠ kv) ∧ ML P kt c es' (fs ++ [{ key := kv, val := u, born := n }])) ∨ (fl = false ∧ ∃ (j : Nat) (e : MapEntry), fs[j]? = some e ∧ e.key = kv ∧ ML P kt c es' (fs.set j { e with key := kv, val := u })) := by
  induction m with
  | nil =>
    intro es' fl e
    cases e
    exact .inl ⟨rfl, fun _ h => (by cases h), .cons hvk hl ⟨_, hk⟩ hv rfl (fun _ h => by cases h) .nil⟩
  | cons h1 h2 h3 h4 h5 h6 h7 ih =>
    rename_i k0 v0 n0 e0 es fs
    intro es' fl e
    obtain ⟨b, e1, e⟩ := ob_some (by simp) (show ob (eqAV k0 k) none (fun b => bi b (some ((k, v, n0) :: es, false)) (ob (mput k v n es) none fun r => some ((k0, v0, n0) :: r.1, r.2))) = some (es', fl) from e)
    obtain ⟨u0, hu0⟩ := h3
    have hk0 := conc_V h1 hu0
    have hb := eqAV_conc hu0 hk e1
    cases b with
    | true =>
      cases e
      have hke : e0.key = kv := by rw [hk0]; exact hb.1 rfl
      exact .inr ⟨rfl, 0, e0, rfl, hke, .cons hvk hl ⟨_, hk⟩ hv h5 (fun f hf => by rw [← hke]; exact h6 f hf) h7⟩
    | false =>
      have hne : e0.key ≠ kv := fun he => by
        have := hb.2 (by rw [← hk0]; exact he)
        cases this
      obtain ⟨⟨r1, r2⟩, e2, e⟩ := ob_some (by simp) e
      cases e
      rcases ih e2 with ⟨hfl, hall, hm⟩ | ⟨hfl, j, e', hj, hk', hm⟩
      · refine .inl ⟨hfl, fun f hf => ?_, .cons h1 h2 ⟨_, hu0⟩ h4 h5 (fun f hf => ?_) hm⟩
        · rcases List.mem_cons.1 hf with rfl | hf
          · exact hne
          · exact hall f hf
        · rcases List.mem_append.1 hf with hf | hf
          · exact h6 f hf
          · rw [List.mem_singleton.1 hf]
            exact Ne.symm hne
      · refine .inr ⟨hfl, j + 1, e', hj, hk', .cons h1 h2 ⟨_, hu0⟩ h4 h5 (fun f hf => ?_) hm⟩
        rcases List.mem_or_eq_of_mem_set hf with hf | rfl
        · exact h6 f hf
        · exact Ne.symm hne
theorem e_mupd {t q : TypeId} {zx : Opd} (K : KeyOK P kf) (rel : Rel P B W ι h w) (hu : P.underlying t = some (.map kt q)) (hx : V (cx ι h w) (x fr) vx) (hy : V (cx ι h w) (y fr) vy) (hz : V (cx ι h w) (z fr) vz) (e : xMupd kt (kf kt) x y z fr h = .ok r h') :
    ∃ w', r = .undef ∧ (Instr.mapUpdate t vx vy vz).run P w = .ok () w' ∧ Rel P B W ι h' w' ∧ Ext ι h w ι h' w' := by
  obtain ⟨g1, e⟩ := biE (show bi _ _ _ = _ from e)
  obtain ⟨KT, kv, l, c1, k1⟩ := K kt _ g1
  have hvy := conc_V hy c1
  subst hvy
  rcases map_ok e with ⟨ex, e⟩ | ⟨b, ex, e⟩
  · cases e
  · obtain ⟨t', es, n, hb, e⟩ := at_map e
    obtain ⟨g2, ee⟩ := biE e
    clear e
    have g2 := Nat.eq_of_beq_eq_true g2
    subst g2
    obtain ⟨⟨es2, fl⟩, e1, e⟩ := obE ee
    obtain ⟨e2, e3⟩ := okE e
    subst e2 e3
    rw [ex] at hx
    obtain ⟨p, rfl, j1, j2⟩ := hx.map_inv
    have hp := j2 ⟨_, hb⟩
    obtain ⟨es', m1, m2⟩ := rel.ob b _ p hb hp
    have hck := KT.keyed.check w false k1
    have hget : (getObj p).run P w = .ok (.map es' n) w := by simp [getObj, Sem.run, m1]
    have hbs : ∀ o, (∀ cs t f, o ≠ .cells cs t f) → bsz { w with heap := w.heap.setIfInBounds p o } p = bsz w p := fun o ho => by
      unfold bsz
      rw [heap_setObj m1, m1]
      cases o <;> first | rfl | exact absurd rfl (ho _ _ _)
    rcases mput_ok (P := P) c1 hy ⟨l, k1⟩ hz m2 e1 with ⟨rfl, hall, hm⟩ | ⟨rfl, j, e0, hj, hk0, hm⟩
    · rcases KT.keyed.find w k1 es'.toList m2.keys with ⟨hf, _⟩ | ⟨i, e', _, hi, hki⟩
      · obtain ⟨s1, s2⟩ := rel.put (o := .map t' es2 (n + 1)) hb hp (wup_setObj w p (.map (es'.push { key := vy, val := vz, born := n }) (n + 1))) (hbs _ (fun _ _ _ h => by cases h)) ⟨_, heap_setObj m1, by simpa using hm⟩
        refine ⟨_, rfl, ?_, s1, s2⟩
        simp only [Instr.mapUpdate, Sem.run_bind, run_underlying hu, Result.andThen_ok, hget, hck, hf]
        exact run_setObj _ m1
      · exact absurd hki (hall e' (List.mem_of_getElem? hi))
    · rcases KT.keyed.find w k1 es'.toList m2.keys with ⟨_, hall⟩ | ⟨i, e', hf, hi, hki⟩
      · exact absurd hk0 (hall e0 (List.mem_of_getElem? hj))
      · have hij := m2.uniq i j e' e0 hi hj (hki.trans hk0.symm)
        subst hij
        rw [hi] at hj
        cases hj
        have hlt : i < es'.size := by
          have := (List.getElem?_eq_some_iff.1 hi).1
          simpa using this
        have hei : es'[i]? = some e0 := by
          rw [← hi]; simp
        have hmod : (es'.modify i fun e => { e with key := vy, val := vz }).toList = es'.toList.set i { e0 with key := vy, val := vz } := by
          rw [Array.toList_modify]
          apply List.ext_getElem?
          intro m
          rw [List.getElem?_modify, List.getElem?_set]
          by_cases hm : i = m
          · subst hm
            rw [hi]
            simp
            exact hlt
          · simp [hm]
        obtain ⟨s1, s2⟩ := rel.put (o := .map t' es2 n) hb hp (wup_setObj w p (.map (es'.modify i fun e => { e with key := vy, val := vz }) n)) (hbs _ (fun _ _ _ h => by cases h)) ⟨_, heap_setObj m1, by rw [hmod]; exact hm⟩
        refine ⟨_, rfl, ?_, s1, s2⟩
        have hst := KT.keyed.stays w k1
        simp only [Instr.mapUpdate, Sem.run_bind, run_underlying hu, Result.andThen_ok, hget, hck, hf, hei, Option.map_some, Option.getD_some, hki, hst]
        exact run_setObj _ m1

theorem mdel_ok {k : AV} {kv : Value} (hk : conc k = some kv) {es : List (AV × AV × Nat)} {fs : List MapEntry} (m : ML P kt c es fs) : ∀ {es' : List (AV × AV × Nat)}, mdel k es = some es' →
    ((∀ e ∈ fs, e.key ≠ kv) ∧ es' = es) ∨ ∃ (j : Nat) (e : MapEntry), fs[j]? = some e ∧ e.key = kv ∧ ML P kt c es' (fs.eraseIdx j) := by
  induction m with
  | nil => intro es' e; cases e; exact .inl ⟨(fun _ h => by cases h), rfl⟩
  | cons h1 h2 h3 h4 h5 h6 h7 ih =>
    rename_i k0 v0 n0 e0 es fs
    intro es' e
    obtain ⟨b, e1, e⟩ := ob_some (by simp) (show ob (eqAV k0 k) none (fun b => bi b (some es) (ob (mdel k es) none fun r => some ((k0, v0, n0) :: r))) = some es' from e)
    obtain ⟨u0, hu0⟩ := h3
    have hk0 := conc_V h1 hu0
    have hb := eqAV_conc hu0 hk e1
    cases b with
    | true =>
      cases e
      exact .inr ⟨0, e0, rfl, by rw [hk0]; exact hb.1 rfl, h7⟩
    | false =>
      have hne : e0.key ≠ kv := fun he => by
        have := hb.2 (by rw [← hk0]; exact he)
        cases this
      obtain ⟨r1, e2, e⟩ := ob_some (by simp) e
      cases e
      rcases ih e2 with ⟨hall, rfl⟩ | ⟨j, e', hj, hk', hm⟩
      · refine .inl ⟨fun f hf => ?_, rfl⟩
        rcases List.mem_cons.1 hf with rfl | hf
        · exact hne
        · exact hall f hf
      · exact .inr ⟨j + 1, e', hj, hk', .cons h1 h2 ⟨_, hu0⟩ h4 h5 (fun f hf => h6 f (List.mem_of_mem_eraseIdx hf)) hm⟩
theorem e_del {t q ty : TypeId} (ts : Array TypeId) (K : KeyOK P kf) (rel : Rel P B W ι h w) (ht : ts[0]? = some t) (hu : P.underlying t = some (.map kt q)) (hx : V (cx ι h w) (x fr) vx) (hy : V (cx ι h w) (y fr) vy) (e : xDel kt (kf kt) x y fr h = .ok r h') :
    ∃ w' u, (Builtin.delete_ ts ty #[vx, vy]).run P w = .ok u w' ∧ Rel P B W ι h' w' ∧ Ext ι h w ι h' w' ∧ V (cx ι h' w') r u := by
  obtain ⟨g1, e⟩ := biE (show bi _ _ _ = _ from e)
  obtain ⟨KT, kv, l, c1, k1⟩ := K kt _ g1
  have hvy := conc_V hy c1
  subst hvy
  rcases map_ok e with ⟨ex, e⟩ | ⟨b, ex, e⟩
  · obtain ⟨e2, e3⟩ := okE e
    subst e2 e3
    rw [ex] at hx
    cases hx
    have hck := KT.keyed.check w true k1
    refine ⟨w, .tuple #[], ?_, rel, Ext.refl _ _ _, .tuple [] [] .nil⟩
    simp [Builtin.delete_, ht, run_underlying hu, hck]
  · obtain ⟨t', es, n, hb, e⟩ := at_map e
    obtain ⟨g2, ee⟩ := biE e
    clear e
    have g2 := Nat.eq_of_beq_eq_true g2
    subst g2
    obtain ⟨es2, e1, e⟩ := obE ee
    obtain ⟨e2, e3⟩ := okE e
    subst e2 e3
    rw [ex] at hx
    obtain ⟨p, rfl, j1, j2⟩ := hx.map_inv
    have hp := j2 ⟨_, hb⟩
    obtain ⟨es', m1, m2⟩ := rel.ob b _ p hb hp
    have hck := KT.keyed.check w es'.isEmpty k1
    have hget : (getObj p).run P w = .ok (.map es' n) w := by simp [getObj, Sem.run, m1]
    have hbs : ∀ o, (∀ cs t f, o ≠ .cells cs t f) → bsz { w with heap := w.heap.setIfInBounds p o } p = bsz w p := fun o ho => by
      unfold bsz
      rw [heap_setObj m1, m1]
      cases o <;> first | rfl | exact absurd rfl (ho _ _ _)
    have fin : ∀ es3 : Array MapEntry, ML P t' (cx ι h w) es2 es3.toList → (setObj p (.map es3 n)).run P w = .ok () { w with heap := w.heap.setIfInBounds p (.map es3 n) } ∧ Rel P B W ι (h.put b (.map t' es2 n)) { w with heap := w.heap.setIfInBounds p (.map es3 n) } ∧ Ext ι h w ι (h.put b (.map t' es2 n)) { w with heap := w.heap.setIfInBounds p (.map es3 n) } := fun es3 hm =>
      ⟨run_setObj _ m1, rel.put (o := .map t' es2 n) hb hp (wup_setObj w p _) (hbs _ (fun _ _ _ h => by cases h)) ⟨_, heap_setObj m1, hm⟩⟩
    rcases mdel_ok (P := P) c1 m2 e1 with ⟨hall, rfl⟩ | ⟨j, e0, hj, hk0, hm⟩
    · rcases KT.keyed.find w k1 es'.toList m2.keys with ⟨hf, _⟩ | ⟨i, e', _, hi, hki⟩
      · obtain ⟨s0, s1, s2⟩ := fin es' m2
        refine ⟨_, .tuple #[], ?_, s1, s2, .tuple [] [] .nil⟩
        simp only [Builtin.delete_, ht, List.getElem?_toArray, List.getElem?_cons_zero, List.getElem?_cons_succ, Sem.run_bind, run_underlying hu, Result.andThen_ok, hget, hck, hf, s0, Sem.run_pure]
      · exact absurd hki (hall e' (List.mem_of_getElem? hi))
    · rcases KT.keyed.find w k1 es'.toList m2.keys with ⟨_, hall⟩ | ⟨i, e', hf, hi, hki⟩
      · exact absurd hk0 (hall e0 (List.mem_of_getElem? hj))
      · have hij := m2.uniq i j e' e0 hi hj (hki.trans hk0.symm)
        subst hij
        obtain ⟨s0, s1, s2⟩ := fin (es'.eraseIdxIfInBounds i) (by
          rw [Array.toList_eraseIdxIfInBounds]
          exact hm)
        refine ⟨_, .tuple #[], ?_, s1, s2, .tuple [] [] .nil⟩
        simp only [Builtin.delete_, ht, List.getElem?_toArray, List.getElem?_cons_zero, List.getElem?_cons_succ, Sem.run_bind, run_underlying hu, Result.andThen_ok, hget, hck, hf, s0, Sem.run_pure]
theorem e_rng {t q : TypeId} (rel : Rel P B W ι h w) (hu : P.underlying t = some (.map kt q)) (hx : V (cx ι h w) (x fr) vx) (e : xRng x fr h = .ok r h') :
    ∃ ι' w' u, (Instr.range t vx).run P w = .ok u w' ∧ Rel P B W ι' h' w' ∧ Ext ι h w ι' h' w' ∧ V (cx ι' h' w') r u := by
  have fin : ∀ (m : Option Pos) (m' : Option Nat) (n : Nat), V (cx ι h w) (match m with | some b => .map b | none => .nilm) (.map m') →
      Rel P B W (upd ι h.nx w.heap.size) (h.new (.iter m n [] n)) (w.alloc (.mapIter m' n #[] n)) ∧ Ext ι h w (upd ι h.nx w.heap.size) (h.new (.iter m n [] n)) (w.alloc (.mapIter m' n #[] n)) ∧
        V (cx (upd ι h.nx w.heap.size) (h.new (.iter m n [] n)) (w.alloc (.mapIter m' n #[] n))) (.ptr h.nx 0) (.pointer (some ⟨w.heap.size, 0, none⟩)) := fun m m' n hm => by
    obtain ⟨k1, k2⟩ := rel.new (o := .iter m n [] n) (wnew_alloc w (.mapIter m' n #[] n)) ⟨m', heap_new (wnew_alloc w _), hm⟩
    refine ⟨k1, k2, .ptr _ _ _ _ ?_ fun _ => ⟨upd_same _ _ _, rfl⟩⟩
    show h.nx.num < (h.new _).nx.num
    rw [nx_new]; omega
  rcases map_ok e with ⟨ex, e⟩ | ⟨b, ex, e⟩
  · obtain ⟨e2, e3⟩ := okE e
    subst e2 e3
    rw [ex] at hx
    cases hx
    obtain ⟨s1, s2, s3⟩ := fin none none 0 .nilm
    refine ⟨_, _, _, ?_, s1, s2, s3⟩
    simp only [Instr.range, Sem.run_bind, run_underlying hu, Result.andThen_ok, Sem.run_pure]
    rfl
  · obtain ⟨t', es, n, hb, e⟩ := at_map e
    obtain ⟨e2, e3⟩ := okE e
    subst e2 e3
    rw [ex] at hx
    obtain ⟨p, rfl, j1, j2⟩ := hx.map_inv
    have hp := j2 ⟨_, hb⟩
    obtain ⟨es', m1, m2⟩ := rel.ob b _ p hb hp
    have hget : (getObj p).run P w = .ok (.map es' n) w := by simp [getObj, Sem.run, m1]
    obtain ⟨s1, s2, s3⟩ := fin (some b) (some p) n hx
    refine ⟨_, _, _, ?_, s1, s2, s3⟩
    simp only [Instr.range, Sem.run_bind, run_underlying hu, Result.andThen_ok, Sem.run_pure, hget]
    rfl
end
end Ev
end Go.Proofs.YtfpghnldcbhniaaGreat
